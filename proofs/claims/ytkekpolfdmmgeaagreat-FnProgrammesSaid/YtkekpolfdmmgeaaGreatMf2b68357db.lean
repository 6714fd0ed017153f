/- Contracts of functions that the proof leans on. No condition. -/
import Derived.Test.YtkekpolfdmmgeaaGreatM7a68a769e4
import Derived.Deep.DeepCutAuto
import Derived.Sort.Walk0
import Derived.Lib.SlicesCompact
import Derived.Lib.Strings
import Derived.Below
/- Codes: a code if it is valid. -/
namespace Go.Proofs.YtkekpolfdmmgeaaGreat
set_option linter.unusedVariables false
set_option linter.unusedSimpArgs false
open Go.RowKit

def zeroC : CodeD := ⟨[], [], 0, 0, 0, 0⟩
def ifC (x : CodeD) : CodeD := if codeB x then x else zeroC
theorem ifC_yes {x : CodeD} (h : codeB x = true) : ifC x = x := if_pos h
theorem ifC_no {x : CodeD} (h : codeB x = false) : ifC x = zeroC := by unfold ifC; rw [h]; rfl
theorem zeroC_own (w : World) (base : Nat) : OwnK w base (.agg #[.slice none 0 0, .slice none 0 0, .int .i64 0, .int .i64 0, .int .i64 0, .int .i64 0]) zeroC :=
  ⟨_, _, rfl, ⟨World.ownsRow_nil _ _ _ _, fun _ h => (by cases h)⟩, World.ownsRow_nil _ _ _ _, by rw [fpA_code]; simp [fp, Value.ownBlock]⟩
theorem OwnK.base {w : World} {base base' : Nat} {v : Value} {x : CodeD} (h : OwnK w base v x) (hb : base' ≤ base) : OwnK w base' v x := by
  obtain ⟨ev, lv, rfl, h1, h2, h3⟩ := h
  exact ⟨ev, lv, rfl, ⟨own_base h1.1 hb, h1.2⟩, own_base h2 hb, h3⟩
theorem OwnK.far {w w' : World} {base base' : Nat} {v : Value} {x : CodeD} {S : List Nat} (h : OwnK w base v x) (ho : Only S w w') (hS : ∀ b ∈ S, b < base ∨ w.heap.size ≤ b) (hb : base' ≤ base) : OwnK w' base' v x :=
  OwnK.base (h.only ho (fun b hb hs => by have := h.fps b hb; have := hS b hs; omega)) hb
theorem Box.zero6 {w : World} {b : Nat} {t : TypeId} (h : Box w b t #[.slice none 0 0, .slice none 0 0, .int .i64 0, .int .i64 0, .int .i64 0, .int .i64 0]) : True := trivial
end Go.Proofs.YtkekpolfdmmgeaaGreat

/- Codes: ScaleCode. -/
namespace Go.Proofs.YtkekpolfdmmgeaaGreat
set_option linter.unusedVariables false
set_option linter.unusedSimpArgs false
open Go.RowKit

def scaleE (p : Int) (y : ElemD) : ElemD := { y with base := max (y.base * p / 100) 1 }
def scaleC (x : CodeD) (p : Int) : CodeD := { x with elems := x.elems.map (scaleE p) }
def scOk (x : CodeD) (p : Int) : Bool := codeB x && inB p 1 200
def scB (x : CodeD) (p : Int) : Bool := scOk x p && codeB (scaleC x p)
def scV (x : CodeD) (p : Int) : CodeD := if scOk x p then ifC (scaleC x p) else zeroC
theorem scV_no {x : CodeD} {p : Int} (h : scOk x p = false) : scV x p = zeroC := by unfold scV; rw [h]; rfl
theorem scV_yes {x : CodeD} {p : Int} (h : scOk x p = true) : scV x p = ifC (scaleC x p) := if_pos h
theorem scB_no {x : CodeD} {p : Int} (h : scOk x p = false) : scB x p = false := by unfold scB; rw [h]; rfl
theorem scB_yes {x : CodeD} {p : Int} (h : scOk x p = true) : scB x p = codeB (scaleC x p) := by unfold scB; rw [h, Bool.true_and]
theorem sc_code {x : CodeD} {p : Int} (h : scOk x p = true) : codeB x = true := by unfold scOk at h; rw [Bool.and_eq_true] at h; exact h.1
theorem sc_in {x : CodeD} {p : Int} (h : scOk x p = true) : inB p 1 200 = true := by unfold scOk at h; rw [Bool.and_eq_true] at h; exact h.2
theorem ifC_len (x : CodeD) : (ifC x).elems.length ≤ 24 ∧ (ifC x).limits.length ≤ 5 := by
  by_cases h : codeB x = true
  · rw [ifC_yes h]
    have := codeB_heads h
    omega
  · simp only [Bool.not_eq_true] at h
    rw [ifC_no h]
    exact ⟨by simp [zeroC], by simp [zeroC]⟩
theorem scV_len (x : CodeD) (p : Int) : (scV x p).elems.length ≤ 24 ∧ (scV x p).limits.length ≤ 5 := by
  by_cases h : scOk x p = true
  · rw [scV_yes h]; exact ifC_len _
  · simp only [Bool.not_eq_true] at h
    rw [scV_no h]
    exact ⟨by simp [zeroC], by simp [zeroC]⟩
theorem elems_one {w : World} {g : Nat} {t : TypeId} (y : ElemD) (h : Box w g t #[.string y.name, .int .i64 y.family, .int .i64 y.level, .int .i64 y.base]) (hs : y.name.size ≤ maxLen) : Elems w (.slice (some ⟨g, 0, none⟩) 1 1) [y] := by
  refine ⟨⟨_, 1, rfl, Nat.le_refl _, by unfold maxLen; simp, (fun h => by cases h), fun _ => ⟨g, 0, rfl, h.lt, ?_⟩⟩, ?_⟩
  · intro j u hu
    rw [Nat.zero_add, h.cell j]
    simp only [List.flatMap_cons, List.flatMap_nil, List.append_nil, cells4] at hu
    rw [← hu]
    rw [← Array.getElem?_toList]
  · intro e he
    simp at he
    subst he
    exact hs
theorem OwnE.base {w : World} {base base' : Nat} {v : Value} {es : List ElemD} (h : OwnE w base v es) (hb : base' ≤ base) : OwnE w base' v es := ⟨own_base h.1 hb, h.2⟩
theorem mul_bds {a b A B : Int} (h1 : 0 ≤ a) (h2 : a ≤ A) (h3 : 0 ≤ b) (h4 : b ≤ B) : 0 ≤ a * b ∧ a * b ≤ A * B :=
  ⟨Int.mul_nonneg h1 h3, Int.mul_le_mul h2 h4 h3 (by omega)⟩
theorem flat_set3 : ∀ (l : List ElemD) (k : Nat) (y : ElemD) (b : Int), l[k]? = some y → (l.flatMap cells4).set (k * 4 + 3) (.int .i64 b) = (l.set k { y with base := b }).flatMap cells4
  | [], _, _, _, h => by simp at h
  | x :: l, 0, y, b, h => by
    simp at h
    subst h
    simp [cells4]
  | x :: l, k + 1, y, b, h => by
    simp only [List.getElem?_cons_succ] at h
    rw [List.flatMap_cons, List.set_cons_succ, List.flatMap_cons, List.set_append_right _ _ (by simp [cells4]; omega), ← flat_set3 l k y b h]
    congr 2
    simp [cells4]
    omega
def scTo (es : List ElemD) (p : Int) (k : Nat) : List ElemD := (es.take k).map (scaleE p) ++ es.drop k
theorem scTo_len (es : List ElemD) (p : Int) (k : Nat) : (scTo es p k).length = es.length := by
  unfold scTo
  rw [List.length_append, List.length_map, List.length_take, List.length_drop]
  omega
theorem scTo_get {es : List ElemD} {p : Int} {k : Nat} {y : ElemD} (h : es[k]? = some y) : (scTo es p k)[k]? = some y := by
  have hk := (List.getElem?_eq_some_iff.1 h).1
  unfold scTo
  rw [List.getElem?_append_right (by rw [List.length_map, List.length_take]; omega), List.length_map, List.length_take, List.getElem?_drop, ← h]
  congr 1
  omega
theorem scTo_succ {es : List ElemD} {p : Int} {k : Nat} {y : ElemD} (h : es[k]? = some y) : scTo es p (k + 1) = (scTo es p k).set k (scaleE p y) := by
  have hk := (List.getElem?_eq_some_iff.1 h).1
  unfold scTo
  rw [take_snoc h, List.map_append, List.set_append_right _ _ (by rw [List.length_map, List.length_take]; omega), List.length_map, List.length_take]
  rw [show k - min k es.length = 0 from by omega, List.drop_eq_getElem_cons hk, List.set_cons_zero, List.map_cons, List.map_nil, List.append_assoc]
  rfl
theorem scTo_zero (es : List ElemD) (p : Int) : scTo es p 0 = es := by simp [scTo]
theorem scTo_full (es : List ElemD) (p : Int) : scTo es p es.length = es.map (scaleE p) := by simp [scTo]
end Go.Proofs.YtkekpolfdmmgeaaGreat

/- Plain facts on sorted lists of names. -/
namespace Go.Proofs.YtkekpolfdmmgeaaGreat
set_option linter.unusedVariables false
set_option linter.unusedSimpArgs false
open Go.Lib

abbrev LB := List UInt8
theorem lb_irrefl (a : LB) : ¬ a < a := List.lt_irrefl a
theorem lb_trans {a b c : LB} (h1 : a < b) (h2 : b < c) : a < c := List.lt_trans h1 h2
theorem lb_tri {a b : LB} (h1 : ¬ a < b) (h2 : ¬ b < a) : a = b := List.le_antisymm h2 h1
theorem lb_lt_of {a b c : LB} (h1 : ¬ b < a) (h2 : b < c) : a < c := List.lt_of_le_of_lt h1 h2
def SL (l : List LB) : Prop := l.Pairwise (· < ·)
theorem sl_unique : ∀ (l m : List LB), SL l → SL m → (∀ x, x ∈ l ↔ x ∈ m) → l = m
  | [], [], _, _, _ => rfl
  | [], y :: m, _, _, h => absurd ((h y).2 (by simp)) (by simp)
  | x :: l, [], _, _, h => absurd ((h x).1 (by simp)) (by simp)
  | x :: l, y :: m, hl, hm, h => by
    have hl' := List.pairwise_cons.1 hl
    have hm' := List.pairwise_cons.1 hm
    have e : x = y := by
      rcases List.mem_cons.1 ((h x).1 (by simp)) with e | e
      · exact e
      · rcases List.mem_cons.1 ((h y).2 (by simp)) with e2 | e2
        · exact e2.symm
        · exact absurd (lb_trans (hm'.1 x e) (hl'.1 y e2)) (lb_irrefl _)
    subst e
    rw [sl_unique l m hl'.2 hm'.2 (fun z => ⟨fun hz => ?_, fun hz => ?_⟩)]
    · rcases List.mem_cons.1 ((h z).1 (by simp [hz])) with e | e
      · subst e; exact absurd (hl'.1 _ hz) (lb_irrefl _)
      · exact e
    · rcases List.mem_cons.1 ((h z).2 (by simp [hz])) with e | e
      · subst e; exact absurd (hm'.1 _ hz) (lb_irrefl _)
      · exact e
def sortL (zs : List LB) : List LB := zs.mergeSort fun x y => decide (x ≤ y)
theorem sortL_le (zs : List LB) : (sortL zs).Pairwise fun x y => ¬ y < x := by
  have h := List.pairwise_mergeSort (le := fun x y : LB => decide (x ≤ y)) (by intro a b c h1 h2; simp at *; exact List.le_trans h1 h2) (by intro a b; simp; exact List.le_total a b) zs
  exact h.imp (by intro a b h; simpa using h)
theorem compact_upto {d : Array LB} (hd : ∀ i j, i ≤ j → j < d.size → ¬ d[j]! < d[i]!) : ∀ m, m ≤ d.size → SL (compactUpTo d m) ∧ (∀ x, x ∈ compactUpTo d m ↔ ∃ j, j < m ∧ d[j]! = x)
  | 0, _ => ⟨by simp [compactUpTo, SL], fun x => by simp [compactUpTo]⟩
  | m + 1, hm => by
    obtain ⟨h1, h2⟩ := compact_upto hd m (by omega)
    rw [compactUpTo_succ]
    by_cases hk : keeps d m = true
    · rw [if_pos hk]
      refine ⟨?_, fun x => ?_⟩
      · unfold SL
        rw [List.pairwise_append]
        refine ⟨h1, List.pairwise_singleton _ _, fun a ha b hb => ?_⟩
        rw [List.mem_singleton] at hb
        subst hb
        obtain ⟨j, hj, rfl⟩ := (h2 a).1 ha
        have hm0 : m ≠ 0 := by omega
        have hne : d[m]! ≠ d[m - 1]! := by
          have := hk
          unfold keeps at this
          simp only [decide_eq_true_eq] at this
          rcases this with e | e
          · exact absurd e hm0
          · exact e
        have hlt : d[m - 1]! < d[m]! := by
          by_cases hx : d[m - 1]! < d[m]!
          · exact hx
          · exact absurd (lb_tri (hd (m - 1) m (by omega) (by omega)) hx) hne
        exact lb_lt_of (hd j (m - 1) (by omega) (by omega)) hlt
      · rw [List.mem_append, List.mem_singleton, h2]
        refine ⟨fun h => ?_, fun ⟨j, hj, e⟩ => ?_⟩
        · rcases h with ⟨j, hj, e⟩ | e
          · exact ⟨j, by omega, e⟩
          · exact ⟨m, by omega, e.symm⟩
        · rcases Nat.lt_or_eq_of_le (Nat.le_of_lt_succ hj) with h | h
          · exact .inl ⟨j, h, e⟩
          · subst h; exact .inr e.symm
    · rw [if_neg hk, List.append_nil]
      refine ⟨h1, fun x => ?_⟩
      rw [h2]
      refine ⟨fun ⟨j, hj, e⟩ => ⟨j, by omega, e⟩, fun ⟨j, hj, e⟩ => ?_⟩
      rcases Nat.lt_or_eq_of_le (Nat.le_of_lt_succ hj) with h | h
      · exact ⟨j, h, e⟩
      · subst h
        unfold keeps at hk
        simp only [decide_eq_true_eq, not_or] at hk
        exact ⟨j - 1, by omega, (Decidable.not_not.1 hk.2).symm.trans e⟩
theorem compact_sort (zs : List LB) : SL (compact (sortL zs)) ∧ ∀ x, x ∈ compact (sortL zs) ↔ x ∈ zs := by
  have hp := sortL_le zs
  have hd : ∀ i j, i ≤ j → j < (sortL zs).toArray.size → ¬ (sortL zs).toArray[j]! < (sortL zs).toArray[i]! := by
    intro i j hij hj
    have hj' : j < (sortL zs).length := by simpa using hj
    have hi' : i < (sortL zs).length := by omega
    rw [getElem!_pos (sortL zs).toArray j hj, getElem!_pos (sortL zs).toArray i (by simpa using hi')]
    rcases Nat.lt_or_eq_of_le hij with h | h
    · exact List.pairwise_iff_getElem.1 hp i j hi' hj' h
    · subst h; exact lb_irrefl _
  obtain ⟨h1, h2⟩ := compact_upto hd _ (Nat.le_refl _)
  refine ⟨h1, fun x => ?_⟩
  have h3 := h2 x
  have e : compact (sortL zs) = compactUpTo (sortL zs).toArray (sortL zs).toArray.size := rfl
  rw [e, h3]
  have hmem : x ∈ sortL zs ↔ x ∈ zs := (List.mergeSort_perm _ _).mem_iff
  rw [← hmem]
  refine ⟨fun ⟨j, hj, e⟩ => ?_, fun h => ?_⟩
  · have hj' : j < (sortL zs).length := by simpa using hj
    rw [getElem!_pos _ j hj] at e
    subst e
    exact List.getElem_mem hj'
  · obtain ⟨j, hj, e⟩ := List.getElem_of_mem h
    refine ⟨j, by simpa using hj, ?_⟩
    rw [getElem!_pos _ j (by simpa using hj)]
    exact e

/-! ### in the program's own strings -/
def bl (z : ByteArray) : LB := z.data.toList
def bs (l : LB) : ByteArray := ⟨l.toArray⟩
theorem bs_bl (z : ByteArray) : bs (bl z) = z := mk_data z
theorem bl_bs (l : LB) : bl (bs l) = l := rfl
theorem bl_inj {x y : ByteArray} (h : bl x = bl y) : x = y := by rw [← bs_bl x, ← bs_bl y, h]
def namesD (zs : List ByteArray) : List ByteArray := (compact (sortL (zs.map bl))).map bs
/-- strictly increasing, with just the strings of zs -/
def IsNames (os zs : List ByteArray) : Prop := SL (os.map bl) ∧ ∀ x, x ∈ os ↔ x ∈ zs
theorem isNames_eq {os zs : List ByteArray} (h : IsNames os zs) : os = namesD zs := by
  obtain ⟨h1, h2⟩ := h
  obtain ⟨c1, c2⟩ := compact_sort (zs.map bl)
  have e : os.map bl = compact (sortL (zs.map bl)) := by
    refine sl_unique _ _ h1 c1 fun x => ?_
    rw [c2, List.mem_map, List.mem_map]
    exact ⟨fun ⟨y, hy, e⟩ => ⟨y, (h2 y).1 hy, e⟩, fun ⟨y, hy, e⟩ => ⟨y, (h2 y).2 hy, e⟩⟩
  unfold namesD
  rw [← e, List.map_map]
  conv => lhs; rw [← List.map_id os]
  exact List.map_congr_left fun x _ => (bs_bl x).symm
theorem names_mem {zs : List ByteArray} {x : ByteArray} (h : x ∈ namesD zs) : x ∈ zs := by
  unfold namesD at h
  obtain ⟨l, hl, rfl⟩ := List.mem_map.1 h
  obtain ⟨y, hy, e⟩ := List.mem_map.1 (((compact_sort (zs.map bl)).2 l).1 hl)
  subst e
  rw [bs_bl]
  exact hy
def nlt (x y : ByteArray) : Bool := Op.bytesLess x.toList y.toList
theorem nlt_iff (x y : ByteArray) : nlt x y = true ↔ bl x < bl y := by
  unfold nlt
  rw [bytesLess_eq, toList_data, toList_data]
  simp [bl]
theorem isNames_in {os zs : List ByteArray} {n : ByteArray} (h : IsNames os zs) (hn : n ∈ os) : IsNames os (zs ++ [n]) :=
  ⟨h.1, fun x => by rw [h.2, List.mem_append, List.mem_singleton]; exact ⟨.inl, fun e => e.elim id (fun e => e ▸ (h.2 n).1 hn)⟩⟩
theorem isNames_ins {os zs : List ByteArray} {n : ByteArray} {k : Nat} (h : IsNames os zs) (hk : k ≤ os.length) (h1 : ∀ j x, j < k → os[j]? = some x → nlt x n = true) (h2 : ∀ x, os[k]? = some x → nlt x n = false ∧ x ≠ n) : IsNames (os.take k ++ n :: os.drop k) (zs ++ [n]) := by
  obtain ⟨hs, hm⟩ := h
  have hafter : ∀ y ∈ os.drop k, bl n < bl y := by
    intro y hy
    obtain ⟨j, hj⟩ := List.getElem?_of_mem hy
    rw [List.getElem?_drop] at hj
    have hlt := (List.getElem?_eq_some_iff.1 hj).1
    have hk' : k < os.length := by omega
    have hk1 : os[k]? = some os[k] := List.getElem?_eq_getElem hk'
    obtain ⟨ha, hb⟩ := h2 _ hk1
    have hnk : bl n < bl os[k] := by
      by_cases hx : bl n < bl os[k]
      · exact hx
      · have hy : ¬ bl os[k] < bl n := fun hc => by rw [(nlt_iff _ _).2 hc] at ha; cases ha
        exact absurd (bl_inj (lb_tri hy hx)) hb
    cases j with
    | zero =>
      rw [Nat.add_zero, hk1] at hj
      injection hj with hj
      subst hj
      exact hnk
    | succ j =>
      have hp := List.pairwise_iff_getElem.1 hs k (k + (j + 1)) (by simpa using hk') (by simpa using hlt) (by omega)
      have e := (List.getElem?_eq_some_iff.1 hj).2
      simp only [List.getElem_map] at hp
      rw [e] at hp
      exact lb_trans hnk hp
  refine ⟨?_, fun x => ?_⟩
  · rw [List.map_append, List.map_cons]
    unfold SL
    rw [List.pairwise_append]
    refine ⟨?_, ?_, ?_⟩
    · rw [List.map_take]; exact hs.sublist (List.take_sublist _ _)
    · rw [List.pairwise_cons]
      refine ⟨fun y hy => ?_, ?_⟩
      · obtain ⟨z, hz, rfl⟩ := List.mem_map.1 hy
        exact hafter z hz
      · rw [List.map_drop]; exact hs.sublist (List.drop_sublist _ _)
    · intro a ha b hb
      obtain ⟨x, hx, rfl⟩ := List.mem_map.1 ha
      obtain ⟨i, hi⟩ := List.getElem?_of_mem hx
      have hik : i < k := by
        have := (List.getElem?_eq_some_iff.1 hi).1
        rw [List.length_take] at this
        omega
      rw [List.getElem?_take_of_lt hik] at hi
      have hxn := (nlt_iff _ _).1 (h1 i x hik hi)
      rcases List.mem_cons.1 hb with e | e
      · subst e; exact hxn
      · obtain ⟨z, hz, rfl⟩ := List.mem_map.1 e
        exact lb_trans hxn (hafter z hz)
  · have e : x ∈ os.take k ++ n :: os.drop k ↔ x ∈ os ∨ x = n := by
      rw [List.mem_append, List.mem_cons]
      conv => rhs; rw [← List.take_append_drop k os, List.mem_append]
      constructor
      · rintro (h | h | h)
        · exact .inl (.inl h)
        · exact .inr h
        · exact .inl (.inr h)
      · rintro ((h | h) | h)
        · exact .inl h
        · exact .inr (.inr h)
        · exact .inr (.inl h)
    rw [e, hm, List.mem_append, List.mem_singleton]
theorem isNames_nil : IsNames [] [] := ⟨List.Pairwise.nil, fun _ => Iff.rfl⟩
end Go.Proofs.YtkekpolfdmmgeaaGreat

/- Draws of codes, plain: names of elements; what a code under construction is. -/
namespace Go.Proofs.YtkekpolfdmmgeaaGreat
set_option linter.unusedVariables false
set_option linter.unusedSimpArgs false
set_option linter.unnecessarySimpa false
open Go.RowKit Go.Lib

/-- the names of elements -/
def elN : List ByteArray := [⟨#[49, 65]⟩, ⟨#[49, 84]⟩, ⟨#[50, 65]⟩, ⟨#[50, 70]⟩, ⟨#[50, 76, 90]⟩, ⟨#[50, 83]⟩, ⟨#[50, 84]⟩, ⟨#[51, 65]⟩, ⟨#[51, 70]⟩, ⟨#[51, 76, 79]⟩, ⟨#[51, 76, 90]⟩, ⟨#[51, 83]⟩, ⟨#[51, 84]⟩, ⟨#[52, 83]⟩, ⟨#[52, 84]⟩, ⟨#[67, 67, 83, 80]⟩, ⟨#[67, 72, 83, 81]⟩, ⟨#[70, 83, 83, 80]⟩, ⟨#[76, 53]⟩, ⟨#[76, 83, 80]⟩, ⟨#[83, 81]⟩, ⟨#[83, 83, 80]⟩, ⟨#[83, 84, 83, 81]⟩, ⟨#[85, 83, 80]⟩]
theorem elN_len : elN.length = 24 := rfl
theorem elN_sz {z : ByteArray} (h : z ∈ elN) : z.size ≤ 1000 := by
  have := List.all_eq_true.1 (show elN.all (fun z => decide (z.size ≤ 1000)) = true by decide) z h
  simpa using this
theorem elN_SL : SL (elN.map bl) := by unfold SL; decide
/-- numbers and limits are in range -/
def LimOk (c : CodeD) : Prop := restB c = true ∧ c.limits.all (inB · 0 9) = true
/-- so are the elements, whose names are some of the first k -/
def ElOk (k : Nat) (c : CodeD) : Prop := LimOk c ∧ (c.elems.map ElemD.name).Sublist (elN.take k) ∧ c.elems.all elemB = true
theorem elN_name {z : ByteArray} (h : z ∈ elN) : nameB z = true := List.all_eq_true.1 (show elN.all nameB = true by decide) z h
theorem LimOk.nil {c : CodeD} (h1 : 0 ≤ c.repeats - 1 ∧ c.repeats - 1 < 3) (h2 : c.bonus ∈ [(0 : Int), 10, 20]) (h3 : c.keeps ∈ [(50 : Int), 70, 80, 100]) (h4 : c.fall ∈ [(0 : Int), 100, 500]) (h : c.limits = []) : LimOk c := by
  simp only [List.mem_cons, List.not_mem_nil, or_false] at h2 h3 h4
  refine ⟨?_, by rw [h]; rfl⟩
  unfold restB
  rw [inB_of (by omega) (by omega), inB_of (by omega) (by omega), inB_of (by omega) (by omega), inB_of (by omega) (by omega)]
  rfl
theorem LimOk.push {c : CodeD} {x : Int} (h : LimOk c) (hx : x ∈ [(0 : Int), 1, 2, 3, 7, 9]) : LimOk { c with limits := c.limits ++ [x] } := by
  simp only [List.mem_cons, List.not_mem_nil, or_false] at hx
  refine ⟨h.1, ?_⟩
  show (c.limits ++ [x]).all _ = true
  rw [List.all_append, h.2]
  simp [inB_of (n := x) (lo := 0) (hi := 9) (by omega) (by omega)]
theorem ElOk.zero {c : CodeD} (h : LimOk c) (he : c.elems = []) : ElOk 0 c := ⟨h, by rw [he]; simp, by rw [he]; rfl⟩
theorem ElOk.nilE {k : Nat} {c : CodeD} (h : ElOk k c) : ElOk 0 { c with elems := [] } := ⟨h.1, by simp, rfl⟩
theorem ElOk.skip {k : Nat} {c : CodeD} (h : ElOk k c) : ElOk (k + 1) c :=
  ⟨h.1, h.2.1.trans (by rw [List.take_add_one]; exact List.sublist_append_left _ _), h.2.2⟩
theorem ElOk.push {k : Nat} {c : CodeD} {z : ByteArray} {f l b : Int} (h : ElOk k c) (hz : elN[k]? = some z) (hf : 0 ≤ f ∧ f < 5) (hl : 0 ≤ l ∧ l < 5) (hb : 1 ≤ b ∧ b ≤ 2000) : ElOk (k + 1) { c with elems := c.elems ++ [⟨z, f, l, b⟩] } := by
  refine ⟨h.1, ?_, ?_⟩
  · show ((c.elems ++ [(⟨z, f, l, b⟩ : ElemD)]).map ElemD.name).Sublist _
    rw [List.map_append, List.take_add_one, hz]
    exact h.2.1.append (List.Sublist.refl _)
  · show (c.elems ++ [(⟨z, f, l, b⟩ : ElemD)]).all elemB = true
    rw [List.all_append, h.2.2]
    simp only [List.all_cons, List.all_nil, Bool.and_true, Bool.true_and]
    unfold elemB
    rw [elN_name (List.mem_of_getElem? hz), inB_of hf.1 (by omega), inB_of hl.1 (by omega), inB_of hb.1 hb.2]
    rfl
theorem base_lit {b : Int} (h : b ∈ [(1 : Int), 50, 130, 420, 800, 1105, 2000]) : 1 ≤ b ∧ b ≤ 2000 := by
  simp only [List.mem_cons, List.not_mem_nil, or_false] at h
  omega
/-- strictly increasing names -/
theorem elemsB_of {es : List ElemD} (h1 : es.all elemB = true) (h2 : SL ((es.map ElemD.name).map bl)) : elemsB es = true := by
  unfold elemsB
  refine List.all_eq_true.2 fun k hk => ?_
  have hk' : k < es.length := by simpa using hk
  have hx : es[k]? = some es[k] := List.getElem?_eq_getElem hk'
  have he := List.all_eq_true.1 h1 es[k] (List.getElem_mem hk')
  cases k with
  | zero => unfold stepB; rw [hx]; simp [he]
  | succ k =>
    have hp : es[k]? = some es[k] := List.getElem?_eq_getElem (by omega)
    rw [stepB_succ hx hp, he, Bool.true_and]
    have := List.pairwise_iff_getElem.1 h2 k (k + 1) (by simpa using (by omega : k < es.length)) (by simpa using hk') (by omega)
    simp only [List.getElem_map] at this
    exact (nlt_iff _ _).2 this
theorem ElOk.code {c : CodeD} (h : ElOk 24 c) (h1 : 1 ≤ c.elems.length) (h2 : c.elems.length ≤ 24) (h3 : c.limits.length = 5) : codeB c = true := by
  unfold codeB headB
  rw [h.1.1, h.1.2, h3, inB_of (by omega) (by omega), elemsB_of h.2.2 ?_]
  · rfl
  · have hs : (c.elems.map ElemD.name).Sublist elN := by have := h.2.1; rwa [List.take_of_length_le (by rw [elN_len]; omega)] at this
    exact elN_SL.sublist (hs.map bl)
theorem code_SL {c : CodeD} (h : codeB c = true) : SL ((c.elems.map ElemD.name).map bl) := by
  unfold codeB elemsB at h
  simp only [Bool.and_eq_true] at h
  have ha := List.all_eq_true.1 h.2
  have step : ∀ k, (hk : k + 1 < c.elems.length) → bl (c.elems[k]'(by omega)).name < bl c.elems[k + 1].name := by
    intro k hk
    have := ha (k + 1) (by simpa using hk)
    rw [stepB_succ (List.getElem?_eq_getElem hk) (List.getElem?_eq_getElem (by omega)), Bool.and_eq_true] at this
    exact (nlt_iff _ _).1 this.2
  unfold SL
  rw [List.pairwise_iff_getElem]
  have key : ∀ d i, (h2 : i + d + 1 < c.elems.length) → bl (c.elems[i]'(by omega)).name < bl c.elems[i + d + 1].name := by
    intro d
    induction d with
    | zero => intro i h2; exact step i h2
    | succ d ih => intro i h2; exact lb_trans (ih i (by omega)) (step (i + d + 1) (by omega))
  intro i j hi hj hij
  simp only [List.getElem_map]
  obtain ⟨d, rfl⟩ : ∃ d, j = i + d + 1 := ⟨j - i - 1, by omega⟩
  exact key d i (by simpa using hj)
end Go.Proofs.YtkekpolfdmmgeaaGreat
