/- Items over a code: the plain functions (families, worths, bases). -/
import Derived.Test.YtpkmngkepmoikaaV6
import Derived.Test.YtpkmngkepmoikaaS
import Derived.Test.YtpkmngkepmoikaaCn
namespace Go.Proofs.Ytpkmngkepmoikaa
set_option linter.unusedVariables false
set_option linter.unusedSimpArgs false
open Go.RowKit

def famN (x : CodeD) (s : ByteArray) : Int := if 0 ≤ findV x.elems s then match x.elems[(findV x.elems s).toNat]? with | some y => y.family | none => -1 else -1
theorem famN_none {x : CodeD} {s : ByteArray} (h : findV x.elems s = -1) : famN x s = -1 := by unfold famN; rw [h]; rfl
theorem famN_hit {x : CodeD} {s : ByteArray} {k : Nat} {y : ElemD} (h : findV x.elems s = k) (hy : x.elems[k]? = some y) : famN x s = y.family := by
  unfold famN
  rw [h, if_pos (Int.natCast_nonneg k), Int.toNat_natCast, hy]
def famV (x : CodeD) (it : ItemD) : Int := match it.names[0]? with | some s => famN x s | none => -1
theorem famV_first {x : CodeD} {it : ItemD} {s : ByteArray} (h : it.names[0]? = some s) : famV x it = famN x s := by unfold famV; rw [h]
theorem famN_bd {x : CodeD} (hx : codeB x = true) (s : ByteArray) : -1 ≤ famN x s ∧ famN x s ≤ 4 := by
  rcases findV_cases x.elems s with h | ⟨k, y, h1, h2, _⟩
  · rw [famN_none h]; omega
  · rw [famN_hit h1 h2]
    have := (elemB_parts (codeB_elem hx h2)).1
    omega
theorem famV_bd {x : CodeD} (hx : codeB x = true) (it : ItemD) : -1 ≤ famV x it ∧ famV x it ≤ 4 := by
  unfold famV
  split
  · exact famN_bd hx _
  · omega

def knS (x : CodeD) (s : ByteArray) : Bool := decide (0 ≤ findV x.elems s)
def knI (x : CodeD) (it : ItemD) : Bool := it.names.all (knS x)
def knB (x : CodeD) (its : List ItemD) : Bool := its.all (knI x)
theorem knS_none {x : CodeD} {s : ByteArray} (h : findV x.elems s < 0) : knS x s = false := by unfold knS; exact decide_eq_false (by omega)
theorem knS_hit {x : CodeD} {s : ByteArray} (h : ¬ findV x.elems s < 0) : knS x s = true := by unfold knS; exact decide_eq_true (by omega)
theorem knS_at {x : CodeD} {s : ByteArray} (h : knS x s = true) : ∃ (k : Nat) (y : ElemD), findV x.elems s = k ∧ x.elems[k]? = some y := by
  unfold knS at h
  have h := of_decide_eq_true h
  rcases findV_cases x.elems s with h1 | ⟨k, y, h1, h2, _⟩
  · omega
  · exact ⟨k, y, h1, h2⟩
theorem knB_one (x : CodeD) (it : ItemD) : knB x [it] = knI x it := by simp [knB]

def gdB (x : CodeD) (its : List ItemD) : Bool := codeB x && itemsB its && knB x its
theorem gdB_true {x : CodeD} {its : List ItemD} (h : gdB x its = true) : codeB x = true ∧ itemsB its = true ∧ knB x its = true := by
  unfold gdB at h
  simp only [Bool.and_eq_true] at h
  exact ⟨h.1.1, h.1.2, h.2⟩
theorem itemsB_one (it : ItemD) : itemsB [it] = itemB it := by simp [itemsB]
theorem knI_name {x : CodeD} {it : ItemD} {j : Nat} {s : ByteArray} (h : knI x it = true) (hs : it.names[j]? = some s) : knS x s = true := by
  unfold knI at h
  exact List.all_eq_true.1 h s (List.mem_of_getElem? hs)
theorem knB_item {x : CodeD} {its : List ItemD} {j : Nat} {it : ItemD} (h : knB x its = true) (hs : its[j]? = some it) : knI x it = true := by
  unfold knB at h
  exact List.all_eq_true.1 h it (List.mem_of_getElem? hs)

/-! ### worths -/
theorem worthN_bd {keeps base : Int} (m : Int) (h1 : 0 ≤ keeps) (h2 : keeps ≤ 100) (h3 : 0 ≤ base) (h4 : base ≤ 2000) : 0 ≤ worthN keeps base m ∧ worthN keeps base m ≤ 2000 := by
  refine ⟨worthN_nonneg m h1 h3, ?_⟩
  have e1 : base * keeps ≤ base * 100 := Int.mul_le_mul_of_nonneg_left h2 h3
  have e0 : 0 ≤ base * keeps := Int.mul_nonneg h3 h1
  unfold worthN
  split
  · generalize base * keeps = bk at *; omega
  · split
    · omega
    · split <;> omega
theorem worthAt_bd {x : CodeD} {s : ByteArray} (m : Int) (hx : codeB x = true) (h : knS x s = true) : 0 ≤ worthAt x s m ∧ worthAt x s m ≤ 2000 := by
  obtain ⟨k, y, h1, h2⟩ := knS_at h
  rw [worthAt_hit m h1 h2]
  have e := codeB_rests hx
  have f := (elemB_parts (codeB_elem hx h2)).2.2
  exact worthN_bd m (by omega) (by omega) (by omega) (by omega)
def wsV (x : CodeD) (it : ItemD) : List Int := (it.names.zip it.marks).map fun p => worthAt x p.1 p.2
theorem wsV_length (x : CodeD) {it : ItemD} (h : it.marks.length = it.names.length) : (wsV x it).length = it.names.length := by simp [wsV, h]
theorem wsV_get (x : CodeD) {it : ItemD} {j : Nat} {s : ByteArray} {m : Int} (h1 : it.names[j]? = some s) (h2 : it.marks[j]? = some m) : (wsV x it)[j]? = some (worthAt x s m) := by
  unfold wsV
  rw [List.getElem?_map, (List.getElem?_zip_eq_some (z := (s, m))).2 ⟨h1, h2⟩]
  rfl
theorem wsV_snoc (x : CodeD) {it : ItemD} {j : Nat} {s : ByteArray} {m : Int} (h1 : it.names[j]? = some s) (h2 : it.marks[j]? = some m) : (wsV x it).take (j + 1) = (wsV x it).take j ++ [worthAt x s m] := take_snoc (wsV_get x h1 h2)
theorem wsV_bd {x : CodeD} {it : ItemD} (hx : codeB x = true) (hk : knI x it = true) : ∀ z ∈ wsV x it, 0 ≤ z ∧ z ≤ 2000 := by
  intro z hz
  unfold wsV at hz
  obtain ⟨p, hp, rfl⟩ := List.mem_map.1 hz
  have : p.1 ∈ it.names := (List.of_mem_zip hp).1
  unfold knI at hk
  exact worthAt_bd p.2 hx (List.all_eq_true.1 hk _ this)
theorem isum_bd (l : List Int) (B : Int) (hB : 0 ≤ B) (h : ∀ z ∈ l, 0 ≤ z ∧ z ≤ B) : 0 ≤ l.sum ∧ l.sum ≤ l.length * B := by
  induction l with
  | nil => simp
  | cons a l ih =>
    have h1 := h a (by simp)
    have h2 := ih (fun z hz => h z (by simp [hz]))
    simp only [List.sum_cons, List.length_cons]
    have : ((l.length + 1 : Nat) : Int) * B = (l.length : Int) * B + B := by rw [Int.natCast_add, Int.add_mul]; simp
    omega
theorem isum_snoc (l : List Int) (z : Int) : (l ++ [z]).sum = l.sum + z := by simp
def sumV (x : CodeD) (it : ItemD) : Int := (wsV x it).sum
theorem sum_take_bd {x : CodeD} {it : ItemD} (hx : codeB x = true) (hi : itemB it = true) (hk : knI x it = true) (j : Nat) : 0 ≤ ((wsV x it).take j).sum ∧ ((wsV x it).take j).sum ≤ 6000 := by
  have h3 := itemB_true hi
  have e := wsV_length x h3.2.2.2.1
  have b := isum_bd ((wsV x it).take j) 2000 (by omega) (fun z hz => wsV_bd hx hk z (List.mem_of_mem_take hz))
  have l : ((wsV x it).take j).length ≤ 3 := by rw [List.length_take]; omega
  generalize ((wsV x it).take j).sum = q at *
  generalize ((wsV x it).take j).length = r at *
  omega
theorem sumV_bd {x : CodeD} {it : ItemD} (hx : codeB x = true) (hi : itemB it = true) (hk : knI x it = true) : 0 ≤ sumV x it ∧ sumV x it ≤ 6000 := by
  have := sum_take_bd hx hi hk (wsV x it).length
  rw [List.take_length] at this
  exact this
def lateV (s bonus : Int) : Int := (2 * (s * (100 + bonus)) + 100) / (2 * 100)
def fullV (x : CodeD) (it : ItemD) : Int := if it.late = true then lateV (sumV x it) x.bonus else sumV x it
theorem late_mul {s bonus : Int} (h1 : 0 ≤ s) (h2 : s ≤ 6000) (h3 : 0 ≤ bonus) (h4 : bonus ≤ 20) : 0 ≤ s * (100 + bonus) ∧ s * (100 + bonus) ≤ 720000 := by
  have e1 : s * (100 + bonus) ≤ s * 120 := Int.mul_le_mul_of_nonneg_left (by omega) h1
  have e0 : 0 ≤ s * (100 + bonus) := Int.mul_nonneg h1 (by omega)
  generalize s * (100 + bonus) = q at *
  omega
theorem lateV_bd {s bonus : Int} (h1 : 0 ≤ s) (h2 : s ≤ 6000) (h3 : 0 ≤ bonus) (h4 : bonus ≤ 20) : 0 ≤ lateV s bonus ∧ lateV s bonus ≤ 7200 := by
  have := late_mul h1 h2 h3 h4
  unfold lateV
  generalize s * (100 + bonus) = q at *
  omega
theorem fullV_bd {x : CodeD} {it : ItemD} (hx : codeB x = true) (hi : itemB it = true) (hk : knI x it = true) : 0 ≤ fullV x it ∧ fullV x it ≤ 7200 := by
  have h := sumV_bd hx hi hk
  have e := codeB_rests hx
  unfold fullV
  split
  · exact lateV_bd h.1 h.2 e.2.1.1 e.2.1.2
  · omega

/-! ### repeats -/
def repP (s : ByteArray) (it : ItemD) : Bool := (it.names[0]? == some s) && !(it.marks[0]? == some 3)
def repN (its : List ItemD) (k : Nat) (s : ByteArray) : Nat := ((its.take k).filter (repP s)).length
def repF (its : List ItemD) (k : Nat) (it : ItemD) : Int := match it.names[0]? with | some s => (repN its k s : Int) | none => 0
def repV (its : List ItemD) (k : Nat) : Int := match its[k]? with | some it => repF its k it | none => 0
theorem repN_snoc {its : List ItemD} {j : Nat} {it : ItemD} (s : ByteArray) (h : its[j]? = some it) : repN its (j + 1) s = repN its j s + if repP s it then 1 else 0 := by
  unfold repN
  rw [take_snoc h, List.filter_append, List.length_append]
  by_cases e : repP s it <;> simp [e]
theorem repN_le (its : List ItemD) (k : Nat) (s : ByteArray) : repN its k s ≤ k := by
  unfold repN
  have h1 := List.length_filter_le (repP s) (its.take k)
  have h2 := List.length_take_le k its
  omega
theorem repV_at {its : List ItemD} {k : Nat} {it : ItemD} {s : ByteArray} (h : its[k]? = some it) (hs : it.names[0]? = some s) : repV its k = repN its k s := by
  unfold repV; rw [h]; simp only; unfold repF; rw [hs]
theorem repV_bd (its : List ItemD) (k : Nat) : 0 ≤ repV its k ∧ repV its k ≤ k := by
  unfold repV
  split
  · unfold repF
    split
    · rename_i s _; have := repN_le its k s; omega
    · omega
  · omega

/-! ### bases -/
def baseV (x : CodeD) (its : List ItemD) (k : Nat) : Int := match its[k]? with
  | some it => if repV its k < x.repeats then fullV x it else if repV its k = x.repeats then fullV x it * 7 / 10 else 0
  | none => 0
theorem baseV_at {x : CodeD} {its : List ItemD} {k : Nat} {it : ItemD} (h : its[k]? = some it) : baseV x its k = if repV its k < x.repeats then fullV x it else if repV its k = x.repeats then fullV x it * 7 / 10 else 0 := by
  unfold baseV; rw [h]
theorem baseV_bd {x : CodeD} {its : List ItemD} (h : gdB x its = true) (k : Nat) : 0 ≤ baseV x its k ∧ baseV x its k ≤ 7200 := by
  obtain ⟨h1, h2, h3⟩ := gdB_true h
  cases hk : its[k]? with
  | none => unfold baseV; rw [hk]; simp only; omega
  | some it =>
    rw [baseV_at hk]
    have b := fullV_bd h1 ((itemsB_true h2).2 it (List.mem_of_getElem? hk)) (knB_item h3 hk)
    split
    · omega
    · split <;> omega
def bases (x : CodeD) (its : List ItemD) : List Int := (List.range its.length).map (baseV x its)
theorem bases_length (x : CodeD) (its : List ItemD) : (bases x its).length = its.length := by simp [bases]
theorem bases_get {x : CodeD} {its : List ItemD} {k : Nat} (h : k < its.length) : (bases x its)[k]? = some (baseV x its k) := by
  unfold bases; rw [List.getElem?_map, List.getElem?_range h]; rfl
theorem bases_bd {x : CodeD} {its : List ItemD} (h : gdB x its = true) : ∀ z ∈ bases x its, 0 ≤ z ∧ z ≤ 7200 := by
  intro z hz
  unfold bases at hz
  obtain ⟨k, _, rfl⟩ := List.mem_map.1 hz
  exact baseV_bd h k

/-! ### counts of families -/
def fams (x : CodeD) (its : List ItemD) : List Int := its.map (famV x)
theorem cns_skip (m : Nat) (l : List Int) {z : Int} (h : z < 0) : cns m (l ++ [z]) = cns m l := by
  unfold cns
  apply List.map_congr_left
  intro d _
  rw [cn_snoc, if_neg (by omega), Int.add_zero]
theorem fams_snoc {x : CodeD} {its : List ItemD} {k : Nat} {it : ItemD} (h : its[k]? = some it) : (fams x its).take (k + 1) = (fams x its).take k ++ [famV x it] :=
  take_snoc (by unfold fams; rw [List.getElem?_map, h]; rfl)
def countsV (x : CodeD) (its : List ItemD) : List Int := cns 5 (fams x its)
def roomV (x : CodeD) (its : List ItemD) : List Int := List.zipWith (· - ·) x.limits (countsV x its)
end Go.Proofs.Ytpkmngkepmoikaa
