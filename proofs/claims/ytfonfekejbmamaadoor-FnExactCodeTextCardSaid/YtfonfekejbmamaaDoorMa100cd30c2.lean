/- Contracts of functions that the proof leans on. No condition. -/
import Derived.Test.YtfonfekejbmamaaDoorM945fafd805
import Derived.StillTailTactics
import Derived.Deep.RegionHeld3
import Derived.Deep.DeepCutAuto
import Derived.Test.YtfonfekejbmamaaDoorShelf
import Derived.Shelf.Strings.OnBuilder
import Derived.Test.YtfonfekejbmamaaDoorChecked
/- Texts, plain: the text of a code, and parsing it. -/
namespace Go.Proofs.YtfonfekejbmamaaDoor
set_option linter.unusedVariables false
set_option linter.unusedSimpArgs false
set_option linter.unnecessarySimpa false
open Go.Lib

def numL (n : Int) : List UInt8 := decDigits n.toNat
def lineL (w : List UInt8) (l : List Int) : List UInt8 := join (w :: l.map numL) [32]
def codeW : List UInt8 := [99, 111, 100, 101]
def limitsW : List UInt8 := [108, 105, 109, 105, 116, 115]
def elemL (e : ElemD) : List UInt8 := lineL e.name.data.toList [e.family, e.level, e.base]
def cdLines (c : CodeD) : List (List UInt8) := lineL codeW [c.repeats, c.bonus, c.keeps, c.fall] :: lineL limitsW c.limits :: c.elems.map elemL
def ended (L : List (List UInt8)) : List UInt8 := (L.map fun l => l ++ [10]).flatten
def cdTxt (c : CodeD) : List UInt8 := ended (cdLines c)
def IsPC (s : List UInt8) (c : CodeD) (ok : Bool) : Prop := (ok = true ∧ codeB c = true ∧ cdTxt c = s) ∨ (ok = false ∧ c = zeroC ∧ ∀ c', codeB c' = true → cdTxt c' ≠ s)
/-- An integer in decimal, as the program reads it. -/
def readInt (w : List UInt8) : Option Int := match readNum 12 (trimPrefix w [45]) with
  | none => none
  | some n => if hasPrefix w [45] then (if n = 0 then none else some (-(n : Int))) else some (n : Int)
def readInts : List (List UInt8) → Option (List Int)
  | [] => some []
  | w :: ws => match readInt w with
    | none => none
    | some n => match readInts ws with
      | none => none
      | some l => some (n :: l)
/-- A number as the reference reads it: -1 where there is none. -/
def rd6 (w : List UInt8) : Int := match readNum 6 w with
  | none => -1
  | some n => (n : Int)
theorem ended_join : ∀ {L : List (List UInt8)}, L ≠ [] → ended L = join L [10] ++ [10]
  | [], h => absurd rfl h
  | [x], _ => by simp [ended, join_one]
  | x :: y :: t, _ => by
    have ih := ended_join (L := y :: t) (by simp)
    have e : ended (x :: y :: t) = x ++ [10] ++ ended (y :: t) := by simp [ended]
    rw [e, ih, join_cons, join_cons]
    simp [joinTail]
theorem ended_split : ∀ {L : List (List UInt8)}, (∀ x ∈ L, 10 ∉ x) → splitOn 10 (ended L) = L ++ [[]]
  | [], _ => rfl
  | x :: t, h => by
    have e : ended (x :: t) = x ++ 10 :: ended t := by simp [ended]
    rw [e, splitOn_hit (h x (by simp)), ended_split (fun y hy => h y (List.mem_cons_of_mem _ hy))]
    rfl
theorem num_byte {n : Int} {b : UInt8} (h : isDg b = false) : b ∉ numL n := by
  intro hm
  have := List.all_eq_true.1 (decDigits_all n.toNat) b hm
  rw [h] at this
  cases this
theorem line_words {w : List UInt8} {l : List Int} (h : 32 ∉ w) : splitOn 32 (lineL w l) = w :: l.map numL := by
  unfold lineL
  refine splitOn_of_join (by simp) fun x hx => ?_
  rcases List.mem_cons.1 hx with rfl | hx
  · exact h
  · obtain ⟨n, _, rfl⟩ := List.mem_map.1 hx
    exact num_byte (by decide)
theorem join_notin {b : UInt8} : ∀ {L : List (List UInt8)} {sep : List UInt8}, (∀ x ∈ L, b ∉ x) → b ∉ sep → b ∉ join L sep
  | [], sep, _, _ => by rw [join_nil]; simp
  | x :: t, sep, h, hs => by
    rw [join_cons]
    intro hm
    rcases List.mem_append.1 hm with hm | hm
    · exact h x (by simp) hm
    · unfold joinTail at hm
      obtain ⟨y, hy, hby⟩ := List.mem_flatten.1 hm
      obtain ⟨z, hz, rfl⟩ := List.mem_map.1 hy
      rcases List.mem_append.1 hby with hb | hb
      · exact hs hb
      · exact h z (List.mem_cons_of_mem _ hz) hb
theorem line_end {w : List UInt8} {l : List Int} (h : 10 ∉ w) : 10 ∉ lineL w l := by
  unfold lineL
  refine join_notin (fun x hx => ?_) (by decide)
  rcases List.mem_cons.1 hx with rfl | hx
  · exact h
  · obtain ⟨n, _, rfl⟩ := List.mem_map.1 hx
    exact num_byte (by decide)
theorem dec_head (u : Nat) : ∃ c r, decDigits u = c :: r ∧ isDg c = true := by
  cases h : decDigits u with
  | nil => exact absurd h (decDigits_ne _)
  | cons c r =>
    refine ⟨c, r, rfl, ?_⟩
    have := decDigits_all u
    rw [h] at this
    simp at this
    exact this.1
theorem readInt_num {n : Int} (h0 : 0 ≤ n) (h : n < 1000000) : readInt (numL n) = some n := by
  unfold readInt numL
  obtain ⟨c, r, e, hc⟩ := dec_head n.toNat
  have hne : (45 == c) = false := by
    rw [beq_eq_false_iff_ne]
    rintro rfl
    revert hc
    decide
  have hp : hasPrefix (decDigits n.toNat) [45] = false := by rw [e]; simp [hasPrefix, List.isPrefixOf, hne]
  have hr : readNum 12 (decDigits n.toNat) = some n.toNat := readNum_dec (k := 11) (by omega)
  unfold trimPrefix
  rw [hp]
  simp only [Bool.false_eq_true, if_false, hr]
  congr 1
  omega
theorem readInts_num : ∀ {l : List Int}, (∀ n ∈ l, 0 ≤ n ∧ n < 1000000) → readInts (l.map numL) = some l
  | [], _ => rfl
  | n :: l, h => by
    have h1 := h n (by simp)
    rw [List.map_cons, readInts, readInt_num h1.1 h1.2, readInts_num (fun x hx => h x (List.mem_cons_of_mem _ hx))]
theorem num_of_readInt {w : List UInt8} {n : Int} (h : readInt w = some n) (h0 : 0 ≤ n) : w = numL n := by
  unfold readInt at h
  cases hr : readNum 12 (trimPrefix w [45]) with
  | none => rw [hr] at h; cases h
  | some u =>
    rw [hr] at h
    by_cases hp : hasPrefix w [45] = true
    · simp only [hp, if_true] at h
      by_cases hu : u = 0
      · rw [if_pos hu] at h; cases h
      · rw [if_neg hu] at h
        injection h with h
        omega
    · simp only [Bool.not_eq_true] at hp
      simp only [hp, Bool.false_eq_true, if_false] at h
      injection h with h
      unfold trimPrefix at hr
      rw [hp] at hr
      simp only [Bool.false_eq_true, if_false] at hr
      unfold numL
      rw [(dec_of_read hr).1, ← h]
      simp
theorem nums_of_readInts : ∀ {ws : List (List UInt8)} {l : List Int}, readInts ws = some l → (∀ n ∈ l, 0 ≤ n) → ws = l.map numL
  | [], l, h, _ => by
    have : [] = l := Option.some.inj h
    subst this
    rfl
  | w :: ws, l, h, h0 => by
    unfold readInts at h
    cases hr : readInt w with
    | none => rw [hr] at h; cases h
    | some n =>
      rw [hr] at h
      cases hs : readInts ws with
      | none => rw [hs] at h; cases h
      | some m =>
        rw [hs] at h
        have e : n :: m = l := Option.some.inj h
        subst e
        rw [num_of_readInt hr (h0 n (by simp)), nums_of_readInts hs (fun x hx => h0 x (List.mem_cons_of_mem _ hx))]
        rfl
theorem rd6_num {n : Int} (h0 : 0 ≤ n) (h : n < 1000000) : rd6 (numL n) = n := by
  unfold rd6 numL
  rw [readNum_dec (k := 5) (by omega)]
  show (n.toNat : Int) = n
  omega
theorem rd6s_num : ∀ {l : List Int}, (∀ n ∈ l, 0 ≤ n ∧ n < 1000000) → (l.map numL).map rd6 = l
  | [], _ => rfl
  | n :: l, h => by
    have h1 := h n (by simp)
    rw [List.map_cons, List.map_cons, rd6_num h1.1 h1.2, rd6s_num (fun x hx => h x (List.mem_cons_of_mem _ hx))]

/-! ### a good code's numbers -/
theorem inB_le {n lo hi : Int} (h : inB n lo hi = true) : lo ≤ n ∧ n ≤ hi := by unfold inB at h; simpa using h
theorem code_of {c : CodeD} (h : codeB c = true) : (1 ≤ c.elems.length ∧ c.elems.length ≤ 24) ∧ c.limits.length = 5 ∧ (∀ n ∈ c.limits, 0 ≤ n ∧ n ≤ 9) ∧ (1 ≤ c.repeats ∧ c.repeats ≤ 3) ∧ (0 ≤ c.bonus ∧ c.bonus ≤ 20) ∧ (50 ≤ c.keeps ∧ c.keeps ≤ 100) ∧ (0 ≤ c.fall ∧ c.fall ≤ 500) ∧
    ∀ e ∈ c.elems, nameB e.name = true ∧ (0 ≤ e.family ∧ e.family ≤ 4) ∧ (0 ≤ e.level ∧ e.level ≤ 4) ∧ (1 ≤ e.base ∧ e.base ≤ 2000) := by
  unfold codeB headB restB at h
  simp only [Bool.and_eq_true] at h
  obtain ⟨⟨⟨⟨h1, h2⟩, h3⟩, ⟨⟨h4, h5⟩, h6⟩, h7⟩, h8⟩ := h
  have a := inB_le h1
  refine ⟨by omega, by simpa using h2, fun n hn => inB_le (List.all_eq_true.1 h3 n hn), inB_le h4, inB_le h5, inB_le h6, inB_le h7, fun e he => ?_⟩
  obtain ⟨k, hk⟩ := List.getElem?_of_mem he
  have hlt := (List.getElem?_eq_some_iff.1 hk).1
  have hs := List.all_eq_true.1 h8 k (List.mem_range.2 hlt)
  unfold stepB at hs
  rw [hk] at hs
  simp only [Bool.and_eq_true] at hs
  have hb := hs.1
  unfold elemB at hb
  simp only [Bool.and_eq_true] at hb
  exact ⟨hb.1.1.1, inB_le hb.1.1.2, inB_le hb.1.2, inB_le hb.2⟩
theorem name_bytes {s : ByteArray} (h : nameB s = true) : 32 ∉ s.data.toList ∧ 10 ∉ s.data.toList := by
  obtain ⟨ha, _⟩ := name_of h
  exact ⟨fun hm => (nmB_cases (ha _ hm)).2.2.2.2.2.2 rfl, fun hm => (nmB_cases (ha _ hm)).2.2.2.2.2.1 rfl⟩
theorem cd_lines {c : CodeD} (h : codeB c = true) : splitOn 10 (cdTxt c) = cdLines c ++ [[]] := by
  obtain ⟨_, _, _, _, _, _, _, he⟩ := code_of h
  refine ended_split fun x hx => ?_
  unfold cdLines at hx
  rcases List.mem_cons.1 hx with rfl | hx
  · exact line_end (by decide)
  · rcases List.mem_cons.1 hx with rfl | hx
    · exact line_end (by decide)
    · obtain ⟨e, hem, rfl⟩ := List.mem_map.1 hx
      exact line_end (name_bytes (he e hem).1).2
theorem head_words (c : CodeD) : splitOn 32 (lineL codeW [c.repeats, c.bonus, c.keeps, c.fall]) = codeW :: [c.repeats, c.bonus, c.keeps, c.fall].map numL := line_words (by decide)
theorem limit_words (c : CodeD) : splitOn 32 (lineL limitsW c.limits) = limitsW :: c.limits.map numL := line_words (by decide)
theorem elem_words {e : ElemD} (h : nameB e.name = true) : splitOn 32 (elemL e) = e.name.data.toList :: [e.family, e.level, e.base].map numL := line_words (name_bytes h).1
theorem line_of_words {l : List UInt8} {w : List UInt8} {ns : List Int} (h : splitOn 32 l = w :: ns.map numL) : l = lineL w ns := by
  unfold lineL
  rw [← h, splitOn_join]
end Go.Proofs.YtfonfekejbmamaaDoor

/- Texts, plain: the text of points, and reading it. -/
namespace Go.Proofs.YtfonfekejbmamaaDoor
set_option linter.unusedVariables false
set_option linter.unusedSimpArgs false
set_option linter.unnecessarySimpa false
open Go.Lib

def ptN (u : Nat) : List UInt8 := decDigits (u / 100) ++ 46 :: (decDigits (u / 10 % 10) ++ decDigits (u % 10))
def ptxt (n : Int) : List UInt8 := if n < 0 then 45 :: ptN n.natAbs else ptN n.toNat
def ptGood (n : Int) : Prop := -1000000 ≤ n ∧ n ≤ 1000000
def IsRead (s : List UInt8) (v : Int) (ok : Bool) : Prop := (ok = true ∧ ptGood v ∧ ptxt v = s) ∨ (ok = false ∧ v = 0 ∧ ∀ n, ptGood n → ptxt n ≠ s)
theorem dg_notin {u : Nat} {b : UInt8} (h : isDg b = false) : b ∉ decDigits u := by
  intro hm
  have := List.all_eq_true.1 (decDigits_all u) b hm
  rw [h] at this
  cases this
theorem ptN_split (u : Nat) : splitOn 46 (ptN u) = [decDigits (u / 100), decDigits (u / 10 % 10) ++ decDigits (u % 10)] := by
  unfold ptN
  rw [splitOn_hit (dg_notin (by decide)), splitOn_none]
  intro hm
  rcases List.mem_append.1 hm with h | h
  · exact dg_notin (by decide) h
  · exact dg_notin (by decide) h
theorem ptN_head (u : Nat) : ∃ c r, ptN u = c :: r ∧ isDg c = true := by
  unfold ptN
  cases h : decDigits (u / 100) with
  | nil => exact absurd h (decDigits_ne _)
  | cons c r =>
    refine ⟨c, r ++ 46 :: (decDigits (u / 10 % 10) ++ decDigits (u % 10)), rfl, ?_⟩
    have := decDigits_all (u / 100)
    rw [h] at this
    simp at this
    exact this.1
theorem ptN_ne (u : Nat) (r : List UInt8) : ptN u ≠ 45 :: r := by
  obtain ⟨c, r', e, hc⟩ := ptN_head u
  rw [e]
  intro h
  injection h with h1 h2
  subst h1
  revert hc
  decide
theorem ptN_inj {u v : Nat} (h : ptN u = ptN v) : u = v := by
  have h1 : splitOn 46 (ptN u) = splitOn 46 (ptN v) := by rw [h]
  rw [ptN_split, ptN_split] at h1
  injection h1 with a b
  injection b with b _
  have ha := congrArg dval a
  rw [decDigits_val, decDigits_val] at ha
  have small : ∀ w : Nat, decDigits (w / 10 % 10) ++ decDigits (w % 10) = [UInt8.ofNat (48 + w / 10 % 10), UInt8.ofNat (48 + w % 10)] := by
    intro w
    rw [decDigits_small (Nat.mod_lt _ (by decide)), decDigits_small (Nat.mod_lt _ (by decide))]
    rfl
  rw [small u, small v] at b
  injection b with b1 b2
  injection b2 with b2 _
  have c1 := congrArg UInt8.toNat b1
  have c2 := congrArg UInt8.toNat b2
  rw [toNat_of (Nat.mod_lt _ (by decide)), toNat_of (Nat.mod_lt _ (by decide))] at c1
  rw [toNat_of (Nat.mod_lt _ (by decide)), toNat_of (Nat.mod_lt _ (by decide))] at c2
  omega
theorem ptxt_inj {a b : Int} (h : ptxt a = ptxt b) : a = b := by
  unfold ptxt at h
  by_cases ha : a < 0 <;> by_cases hb : b < 0
  · rw [if_pos ha, if_pos hb] at h
    injection h with _ h
    have := ptN_inj h
    omega
  · rw [if_pos ha, if_neg hb] at h
    exact absurd h.symm (ptN_ne _ _)
  · rw [if_neg ha, if_pos hb] at h
    exact absurd h (ptN_ne _ _)
  · rw [if_neg ha, if_neg hb] at h
    have := ptN_inj h
    omega
theorem IsRead.same {s : List UInt8} {v v' : Int} {ok ok' : Bool} (h : IsRead s v ok) (h' : IsRead s v' ok') : v = v' ∧ ok = ok' := by
  rcases h with ⟨rfl, g, e⟩ | ⟨rfl, rfl, n⟩ <;> rcases h' with ⟨rfl, g', e'⟩ | ⟨rfl, rfl, n'⟩
  · exact ⟨ptxt_inj (e.trans e'.symm), rfl⟩
  · exact absurd e (n' _ g)
  · exact absurd e' (n _ g')
  · exact ⟨rfl, rfl⟩
/-- What stands behind the sign, and whether there is one. -/
theorem ptxt_sign (n : Int) : trimPrefix (ptxt n) [45] = ptN n.natAbs ∧ hasPrefix (ptxt n) [45] = decide (n < 0) := by
  unfold ptxt trimPrefix hasPrefix
  by_cases h : n < 0
  · rw [if_pos h]
    simp [List.isPrefixOf, h]
  · rw [if_neg h]
    obtain ⟨c, r, e, hc⟩ := ptN_head n.toNat
    have hne : (45 == c) = false := by
      rw [beq_eq_false_iff_ne]
      rintro rfl
      revert hc
      decide
    have e2 : n.natAbs = n.toNat := by omega
    rw [e2, e]
    simp [List.isPrefixOf, hne, h]
theorem ptN_cut (u : Nat) : cut (ptN u) [46] = (decDigits (u / 100), decDigits (u / 10 % 10) ++ decDigits (u % 10), true) := by
  rcases index_one 46 (ptN u) with ⟨_, h⟩ | ⟨i, hi, hlt, hn, hs⟩
  · exact absurd (by simp [ptN]) h
  · have h2 : splitOn 46 (ptN u) = (ptN u).take i :: splitOn 46 ((ptN u).drop (i + 1)) := by
      conv => lhs; rw [hs, splitOn_hit hn]
    rw [ptN_split] at h2
    injection h2 with a b
    have e3 : splitOn 46 ((ptN u).drop (i + 1)) = [(ptN u).drop (i + 1)] := by
      have hj := splitOn_join 46 ((ptN u).drop (i + 1))
      rw [← b, join_one] at hj
      rw [← b, hj]
    rw [e3] at b
    injection b with b _
    unfold cut
    rw [if_pos (by omega), hi]
    simp only [Int.toNat_natCast, List.length_cons, List.length_nil]
    rw [← a, ← b]
theorem two_digits (u : Nat) : decDigits (u / 10 % 10) ++ decDigits (u % 10) = [UInt8.ofNat (48 + u / 10 % 10), UInt8.ofNat (48 + u % 10)] := by
  rw [decDigits_small (Nat.mod_lt _ (by decide)), decDigits_small (Nat.mod_lt _ (by decide))]
  rfl
/-- The cents, read without a leading zero. -/
theorem cents_read (u : Nat) : readNum 12 (trimPrefix (decDigits (u / 10 % 10) ++ decDigits (u % 10)) [48]) = some (u % 100) := by
  rw [two_digits]
  have h : ∀ a b : Fin 10, readNum 12 (trimPrefix [UInt8.ofNat (48 + a.val), UInt8.ofNat (48 + b.val)] [48]) = some (a.val * 10 + b.val) := by decide
  have := h ⟨u / 10 % 10, Nat.mod_lt _ (by decide)⟩ ⟨u % 10, Nat.mod_lt _ (by decide)⟩
  simp only at this
  rw [this]
  congr 1
  omega
end Go.Proofs.YtfonfekejbmamaaDoor

/- The texts that the laws write as marks. -/
namespace Go.Proofs.YtfonfekejbmamaaDoor
set_option linter.unusedVariables false
set_option linter.unusedSimpArgs false
open Go.RowKit

def dgc (q : Nat) : UInt8 := UInt8.ofNat (48 + q % 10)
theorem dgc_toNat (q : Nat) : (dgc q).toNat = 48 + q % 10 := by
  unfold dgc
  rw [UInt8.toNat_ofNat']
  omega
def digF : Nat → Nat → List UInt8 → List UInt8
  | 0, _, out => out
  | f + 1, q, out => if q = 0 then out else digF f (q / 10) (dgc q :: out)
def mt (k : Int) : ByteArray := ⟨(109 :: digF 20 k.toNat []).toArray⟩
theorem digF_zero (f : Nat) (out : List UInt8) : digF f 0 out = out := by cases f <;> simp [digF]
theorem ba_cons (c : UInt8) (l : List UInt8) : (⟨#[c]⟩ : ByteArray) ++ ⟨l.toArray⟩ = ⟨(c :: l).toArray⟩ := by
  apply ByteArray.ext
  simp
theorem conv_one (w : World) (c : UInt8) (n : Int) (hn : n = c.toNat) :
    (convert 74 9 (.slice (some ⟨w.heap.size, 0, none⟩) 1 1)).run Tryd.prog (w.alloc (.cells #[.int .u8 n] 5)) = .ok (.string ⟨#[c]⟩) (w.alloc (.cells #[.int .u8 n] 5)) := by
  subst hn
  exact run_convert_bytes_back (P := Tryd.prog) (w.alloc (.cells #[.int .u8 (c.toNat : Int)] 5)) 74 9 5 ⟨w.heap.size, 0, none⟩ 1 [c] Tryd.underlying74 Tryd.underlying5 Tryd.underlying9 (fun j hj => by
    obtain rfl : j = 0 := by simpa using hj
    simp [Addr.add])
set_option maxHeartbeats 1000000 in
theorem markText_any (k : Int) (w : World) (h0 : 1 ≤ k) (h1 : k ≤ 1099511627776) :
    Calls Tryd.prog 67 #[.int .i64 k] w fun e w' => e = .returned (.string (mt k)) ∧ Kept w w' := by
  go_enter Tryd.func67, Tryd.ntmps67
  go_wp2_with fail
  go_loopw [0, 3] (fun q o wr => ∃ (f q' : Nat) (out : List UInt8), q = .int .i64 q' ∧ o = .string ⟨out.toArray⟩ ∧ q' < 10 ^ f ∧ q' ≤ 1099511627776 ∧ out.length + f ≤ 20 ∧ digF f q' out = digF 20 k.toNat [] ∧ Kept w wr) (fun q _ _ => (intOf q).toNat)
  case atStart => exact ⟨20, k.toNat, [], by congr 1; omega, rfl, by omega, by omega, by simp, rfl, Kept.refl _⟩
  case round =>
    obtain ⟨f, q', out, rfl, rfl, hq, hq2, hf, hd, hkept⟩ := hrel
    have HD := Lib.hid hd
    clear hd
    by_cases hpos : 0 < q'
    · have hcv := conv_one wr (dgc q') (48 + (q' : Int) % 10) (by rw [dgc_toNat]; omega)
      have HQ := Lib.hid hq
      clear hq
      go_wp2_with fail
      go_roundw
      case rel =>
        cases f with
        | zero =>
          have := HQ.out
          simp at this
          omega
        | succ f =>
          refine ⟨f, q' / 10, dgc q' :: out, by go_num, by rw [ba_cons], ?_, by omega, by simp; omega, ?_, hkept.alloc _⟩
          · have := HQ.out
            rw [Nat.pow_succ] at this
            omega
          · rw [← HD.out, digF, if_neg (by omega)]
      case measure => simp [intOf]; omega
    · obtain rfl : q' = 0 := by omega
      go_wp2_with fail
      go_ret
      refine ⟨?_, hkept⟩
      have := HD.out
      rw [digF_zero] at this
      unfold mt
      rw [← this, ← ba_cons]
      rfl
theorem digF_length (f q : Nat) (out : List UInt8) : (digF f q out).length ≤ out.length + f := by
  induction f generalizing q out with
  | zero => simp [digF]
  | succ f ih =>
    rw [digF]
    split
    · omega
    · have := ih (q / 10) (dgc q :: out)
      simp at this
      omega
theorem mt_size (k : Int) : (mt k).size ≤ maxLen := by
  have := digF_length 20 k.toNat []
  have h : (mt k).size = (digF 20 k.toNat []).length + 1 := by
    show (109 :: digF 20 k.toNat []).toArray.size = _
    simp
  rw [h]
  unfold maxLen
  simp at this
  omega
def marksS (k : Int) (n : Nat) : List ByteArray := (List.range n).map fun (i : Nat) => mt (k + (i : Int))
theorem marksS_length (k : Int) (n : Nat) : (marksS k n).length = n := by simp [marksS]
theorem marksS_get {k : Int} {n i : Nat} (h : i < n) : (marksS k n)[i]? = some (mt (k + i)) := by simp [marksS, h]
theorem marksS_size (k : Int) (n : Nat) : ∀ z ∈ marksS k n, z.size ≤ maxLen := by
  intro z hz
  unfold marksS at hz
  obtain ⟨i, _, rfl⟩ := List.mem_map.1 hz
  exact mt_size _
end Go.Proofs.YtfonfekejbmamaaDoor

/- Contracts of chapter 1: fractions compared; the constants. -/
namespace Go.Proofs.YtfonfekejbmamaaDoor
set_option linter.unusedVariables false
set_option linter.unusedSimpArgs false
open Go.RowKit

def partB (a b : Int) : Bool := inB a (-1000000000000) 1000000000000 && inB b 1 1000000
theorem partB_true {a b : Int} (h : partB a b = true) : -1000000000000 ≤ a ∧ a ≤ 1000000000000 ∧ 1 ≤ b ∧ b ≤ 1000000 := by
  unfold partB at h
  rw [Bool.and_eq_true] at h
  have h1 := inB_true h.1
  have h2 := inB_true h.2
  exact ⟨h1.1, h1.2, h2.1, h2.2⟩
def sgn (n : Int) : Int := if 0 < n then 1 else if n < 0 then -1 else 0
def poMd (a b mode : Int) : Int := if mode = -1 then a / b else if mode = 0 then (2 * a + b) / (2 * b) else -(-a / b)

def cmpV (a b c d : Int) : Int := if partB a b && partB c d then sgn (a * d - c * b) else 0
theorem mul_bd {a d A D : Int} (h1 : -A ≤ a) (h2 : a ≤ A) (h3 : 0 ≤ d) (h4 : d ≤ D) : -(A * D) ≤ a * d ∧ a * d ≤ A * D := by
  have hA : 0 ≤ A := by omega
  constructor
  · have q1 : -A * d ≤ a * d := Int.mul_le_mul_of_nonneg_right h1 h3
    have q2 : A * d ≤ A * D := Int.mul_le_mul_of_nonneg_left h4 hA
    rw [Int.neg_mul] at q1
    omega
  · have q1 : a * d ≤ A * d := Int.mul_le_mul_of_nonneg_right h2 h3
    have q2 : A * d ≤ A * D := Int.mul_le_mul_of_nonneg_left h4 hA
    omega
theorem part_mul {a b c d : Int} (h1 : partB a b = true) (h2 : partB c d = true) : -1000000000000000000 ≤ a * d ∧ a * d ≤ 1000000000000000000 := by
  have q1 := partB_true h1
  have q2 := partB_true h2
  have := mul_bd (a := a) (d := d) (A := 1000000000000) (D := 1000000) (by omega) (by omega) (by omega) (by omega)
  omega
end Go.Proofs.YtfonfekejbmamaaDoor

/- Contracts of chapter 1: lowest terms, sums of fractions, rounding. -/
namespace Go.Proofs.YtfonfekejbmamaaDoor
set_option linter.unusedVariables false
set_option linter.unusedSimpArgs false
open Go.RowKit

theorem gcd_step (m k : Nat) : Nat.gcd k (m % k) = Nat.gcd m k := by rw [Nat.gcd_comm k, ← Nat.gcd_rec, Nat.gcd_comm]
theorem gcd_pos {a b : Int} (h : 1 ≤ b) : 1 ≤ Int.gcd a b := by
  have : Int.gcd a b ≠ 0 := by
    intro h0
    rw [Int.gcd_eq_zero_iff] at h0
    omega
  omega
def lowT (a b : Int) : Int := if partB a b then a.tdiv (Int.gcd a b) else 0
def lowB (a b : Int) : Int := if partB a b then b / (Int.gcd a b) else 0
def adN (a b c d : Int) : Int := a * d + c * b
def adD (b d : Int) : Int := b * d
def adT (a b c d : Int) : Int := (adN a b c d).tdiv (Int.gcd (adN a b c d) (adD b d))
def adB (a b c d : Int) : Int := (adD b d) / (Int.gcd (adN a b c d) (adD b d))
def addOk (a b c d : Int) : Bool := partB a b && partB c d && partB (adT a b c d) (adB a b c d)
def addT (a b c d : Int) : Int := if addOk a b c d then adT a b c d else 0
def addB (a b c d : Int) : Int := if addOk a b c d then adB a b c d else 0
theorem ad_bd {a b c d : Int} (h1 : partB a b = true) (h2 : partB c d = true) :
    (-4611686018427387904 ≤ a * d + c * b ∧ a * d + c * b ≤ 4611686018427387904 ∧ 1 ≤ b * d ∧ b * d ≤ 4611686018427387904) := by
  have q1 := part_mul h1 h2
  have q2 := part_mul h2 h1
  have e1 := partB_true h1
  have e2 := partB_true h2
  have q3 := mul_bd (a := b) (d := d) (A := 1000000) (D := 1000000) (by omega) (by omega) (by omega) (by omega)
  have q4 : 1 * 1 ≤ b * d := Int.mul_le_mul (by omega) (by omega) (by omega) (by omega)
  omega
theorem fdiv_of (a b : Int) (hb : 1 ≤ b) : a / b = if a.tmod b < 0 then a.tdiv b - 1 else a.tdiv b := by
  have h1 := Int.mul_tdiv_add_tmod a b
  have h2 : (a.tmod b) < b := Int.tmod_lt_of_pos a (by omega)
  have h3 : -b < a.tmod b := by
    have h := Int.tmod_lt_of_pos (-a) (show 0 < b by omega)
    rw [Int.neg_tmod] at h
    omega
  split
  · rw [Int.ediv_eq_iff_of_pos (by omega)]
    rw [Int.sub_mul]
    have := Int.mul_comm b (a.tdiv b)
    constructor <;> omega
  · rw [Int.ediv_eq_iff_of_pos (by omega)]
    have := Int.mul_comm b (a.tdiv b)
    constructor <;> omega
theorem tdiv_bd (a b A : Int) (h1 : -A ≤ a) (h2 : a ≤ A) : -A ≤ a.tdiv b ∧ a.tdiv b ≤ A := by
  have h3 : (a.tdiv b).natAbs = a.natAbs / b.natAbs := Int.natAbs_tdiv a b
  have h4 := Nat.div_le_self a.natAbs b.natAbs
  omega
theorem ediv_bd (a b A : Int) (hb : 1 ≤ b) (h1 : -A ≤ a) (h2 : a ≤ A) : -A - 1 ≤ a / b ∧ a / b ≤ A := by
  have h3 := fdiv_of a b hb
  have h4 := tdiv_bd a b A h1 h2
  split at h3 <;> omega
def rndOk (a b mode : Int) : Bool := partB a b && inB mode (-1) 1
def rndV (a b mode : Int) : Int := if rndOk a b mode then poMd a b mode else 0
end Go.Proofs.YtfonfekejbmamaaDoor

/- Contracts of chapter 1: lists of points. -/
namespace Go.Proofs.YtfonfekejbmamaaDoor
set_option linter.unusedVariables false
set_option linter.unusedSimpArgs false
open Go.RowKit
theorem sum_bd (zs : List Int) (M : Int) (hM : 0 ≤ M) (h : ∀ z ∈ zs, -M ≤ z ∧ z ≤ M) (k : Nat) : -((k : Int) * M) ≤ (zs.take k).sum ∧ (zs.take k).sum ≤ (k : Int) * M := by
  induction zs generalizing k with
  | nil =>
    have : 0 ≤ (k : Int) * M := Int.mul_nonneg (by omega) hM
    simp
    omega
  | cons z zs ih =>
    cases k with
    | zero => simp
    | succ k =>
      have h1 := h z (by simp)
      have h2 := ih (fun y hy => h y (by simp [hy])) k
      have h3 : ((k + 1 : Nat) : Int) * M = (k : Int) * M + M := by rw [Int.natCast_add, Int.add_mul]; simp
      rw [List.take_succ_cons, List.sum_cons, h3]
      omega
theorem ints_one (w : World) (x : Int) (t : TypeId) : Ints (w.alloc (.cells #[.int .i64 x] t)) (.slice (some ⟨w.heap.size, 0, none⟩) 1 1) [x] :=
  ⟨_, 1, rfl, Nat.le_refl _, by decide, (fun h => by cases h), fun _ => ⟨w.heap.size, 0, rfl, by simp, fun j u hu => by
    have hj : j = 0 := by
      have := (List.getElem?_eq_some_iff.1 hu).1
      simpa using this
    subst hj
    simp at hu
    subst hu
    simp⟩⟩
theorem ints_new (w : World) (b : Nat) (hb : b = w.heap.size) (x : Int) (t : TypeId) : Ints (w.alloc (.cells #[.int .i64 x] t)) (.slice (some ⟨b, 0, none⟩) 1 1) [x] := by
  subst hb
  exact ints_one w x t
def ptsB (zs : List Int) : Bool := decide (zs.length ≤ 60) && zs.all (inB · (-1000000) 1000000)
theorem ptsB_true {zs : List Int} (h : ptsB zs = true) : zs.length ≤ 60 ∧ zs.all (inB · (-1000000) 1000000) = true := by
  unfold ptsB at h
  rw [Bool.and_eq_true] at h
  exact ⟨by simpa using h.1, h.2⟩
end Go.Proofs.YtfonfekejbmamaaDoor

/- Points: their text, the reference's and the program's. -/
namespace Go.Proofs.YtfonfekejbmamaaDoor
set_option linter.unusedVariables false
set_option linter.unusedSimpArgs false
set_option linter.unnecessarySimpa false
open Go.RowKit Go.Lib

def tx (l : List UInt8) : ByteArray := ⟨l.toArray⟩
theorem tx_data (l : List UInt8) : (tx l).data.toList = l := rfl
theorem tx_toList (l : List UInt8) : (tx l).toList = l := by rw [toList_data]; rfl
theorem tx_of (s : ByteArray) : tx s.data.toList = s := mk_data s
theorem tx_app (a b : List UInt8) : tx a ++ tx b = tx (a ++ b) := by
  apply ByteArray.ext
  simp [tx]
theorem tx_size (l : List UInt8) : (tx l).size = l.length := by rw [size_eq]; rfl
theorem tx_inj {a b : List UInt8} (h : tx a = tx b) : a = b := by rw [← tx_data a, ← tx_data b, h]
theorem conv_box {W : World} {g : Nat} {c : UInt8} {n : Int} (h : W.cell? ⟨g, 0, none⟩ = some (.int .u8 n)) (hn : n = c.toNat) :
    (convert 74 9 (.slice (some ⟨g, 0, none⟩) 1 1)).run Tryd.prog W = .ok (.string ⟨#[c]⟩) W := by
  subst hn
  exact run_convert_bytes_back (P := Tryd.prog) W 74 9 5 ⟨g, 0, none⟩ 1 [c] Tryd.underlying74 Tryd.underlying5 Tryd.underlying9 (fun j hj => by
    obtain rfl : j = 0 := by simpa using hj
    simpa [Addr.add] using h)
def numT (n : Nat) : ByteArray := tx (decDigits n)
theorem numT_small {n : Nat} (h : n < 10) : numT n = ⟨#[UInt8.ofNat (48 + n)]⟩ := by unfold numT; rw [decDigits_small h]; rfl
theorem numT_big {n : Nat} (h : ¬ n < 10) : numT n = numT (n / 10) ++ ⟨#[UInt8.ofNat (48 + n % 10)]⟩ := by
  unfold numT
  rw [decDigits_big h, ← tx_app]
  rfl
theorem ret_str {a b : ByteArray} (h : a = b) : Ending.returned (.string a) = .returned (.string b) := by rw [h]
theorem cat_run {x y z : ByteArray} (hz : x ++ y = z) (h : x.size + y.size ≤ 1099511627776) : Op.stringOp .add x y = pure (.string z) := by
  subst hz
  unfold Op.stringOp
  have : ¬ ((x.size + y.size : Nat) : Int) > IntKind.i64.max := by
    have : IntKind.i64.max = 9223372036854775807 := by decide
    omega
  simp only [if_neg this]
theorem numT_len {n : Nat} (h : n ≤ 1000000000) : (numT n).size ≤ 10 := by
  unfold numT
  rw [tx_size]
  exact decDigits_len (k := 9) (by omega)
set_option maxRecDepth 100000 in
set_option maxHeartbeats 2000000 in
theorem l1Num_any (n : Nat) : n ≤ 1000000000 → ∀ w : World, Calls Tryd.prog 89 #[.int .i64 (n : Int)] w fun e w' => e = .returned (.string (numT n)) ∧ Kept w w' := by
  induction n using Nat.strongRecOn with
  | _ n ih =>
    intro hn w
    by_cases h10 : n < 10
    · have HN := Lib.hid (numT_small h10)
      have hq : (48 + (n : Int)) = ((UInt8.ofNat (48 + n)).toNat : Int) := by rw [toNat_of h10]; omega
      have HQ := Lib.hid hq
      clear ih hq
      generalize hcc : UInt8.ofNat (48 + n) = cc at *
      have HCC := Lib.hid hcc
      clear hcc
      have hcv := conv_box (W := w.alloc (.cells #[.int .u8 (48 + (n : Int))] 5)) (g := w.heap.size) (c := cc) (n := 48 + (n : Int)) (by simp) HQ.out
      go_enter Tryd.func89, Tryd.ntmps89
      go_wp2_with fail
      go_ret
      exact ⟨ret_str (HN.out.trans (by first | rfl | rw [HCC.out])).symm, (Kept.refl w).alloc _⟩
    · have HN := Lib.hid (numT_big h10)
      have e10 : ((n / 10 : Nat) : Int) = (n : Int) / 10 := by omega
      have c := ih (n / 10) (by omega) (by omega)
      rw [e10] at c
      have C := Lib.hid c
      have hm : n % 10 < 10 := Nat.mod_lt _ (by decide)
      have hd0 : (0 : Int) ≤ (n : Int) % 10 := by omega
      have hd1 : (n : Int) % 10 < 10 := by omega
      have hq : (48 + (n : Int) % 10) = ((UInt8.ofNat (48 + n % 10)).toNat : Int) := by rw [toNat_of hm]; omega
      have HQ := Lib.hid hq
      clear ih c e10 hq
      generalize hcc : UInt8.ofNat (48 + n % 10) = cc at *
      have HCC := Lib.hid hcc
      clear hcc
      have hcv := conv_box (W := (w.alloc (.cells #[.int .u8 (48 + (n : Int) % 10)] 5)).drew) (g := w.heap.size) (c := cc) (n := 48 + (n : Int) % 10) (by simp) HQ.out
      have hct : Op.stringOp .add (numT (n / 10)) ⟨#[cc]⟩ = pure (.string (numT n)) := cat_run HN.out.symm (by have := numT_len (n := n / 10) (by omega); have e : (⟨#[cc]⟩ : ByteArray).size = 1 := rfl; omega)
      have ht : (n : Int).tmod 10 = (n : Int) % 10 := Int.tmod_eq_emod_of_nonneg (by omega)
      have hw1 : IntKind.i64.wrap ((n : Int) / 10) = (n : Int) / 10 := IntWalk.i64_in _ (by omega)
      have hw8 : IntKind.u8.wrap (48 + (n : Int) % 10) = 48 + (n : Int) % 10 := IntWalk.u8_in _ (by omega)
      have hwq : IntKind.i64.wrap (48 + (n : Int) % 10) = 48 + (n : Int) % 10 := IntWalk.i64_in _ (by omega)
      go_enter Tryd.func89, Tryd.ntmps89
      go_wp2_with fail
      go_region_with (first | (go_at_call 89; (with_reducible refine (C.out w.drew).mono ?_); rintro e w1 ⟨rfl, k1⟩; have kk : Kept w (w1.alloc (.cells #[.int .u8 (48 + (n : Int) % 10)] 5)) := ((Kept.refl w).drew.trans k1).alloc _; have hcv1 := conv_box (W := w1.alloc (.cells #[.int .u8 (48 + (n : Int) % 10)] 5)) (g := w1.heap.size) (c := cc) (n := 48 + (n : Int) % 10) (by simp) HQ.out) | (go_at_call 89; (with_reducible refine (C.out (w.alloc (.cells #[.int .u8 (48 + (n : Int) % 10)] 5)).drew).mono ?_); rintro e w1 ⟨rfl, k1⟩; have kk : Kept w w1 := ((Kept.refl w).alloc _).drew.trans k1; have hcv2 := conv_box (W := w1) (g := w.heap.size) (c := cc) (n := 48 + (n : Int) % 10) ((k1.cell (p := ⟨w.heap.size, 0, none⟩) (by simp)).trans (by simp)) HQ.out))
      all_goals
        go_wp2_with fail
        go_ret
        exact ⟨rfl, kk⟩
end Go.Proofs.YtfonfekejbmamaaDoor

/- Points: PointsText, both sides and the law. -/
namespace Go.Proofs.YtfonfekejbmamaaDoor
set_option linter.unusedVariables false
set_option linter.unusedSimpArgs false
set_option linter.unnecessarySimpa false
open Go.RowKit Go.Lib

theorem kept_grow (w : World) (k : Nat) (os : Array Obj) : Kept w (Go.Sort.grow (w.drewN k) os) :=
  ⟨rfl, rfl, rfl, by simp [Go.Sort.grow, World.drewN], fun i hi => by
    show (w.heap ++ os)[i]? = w.heap[i]?
    rw [Array.getElem?_append, if_pos hi]⟩
/-- the library's table of powers of ten reads as its initialiser lays it -/
def HasTab (w : World) : Prop := TabIs Tryd.prog w "internal/strconv.uint64pow10" .u64 pow10Tab ∧ 4 < w.heap.size
theorem HasTab.kept {w w' : World} (h : HasTab w) (k : Kept w w') : HasTab w' := by
  refine ⟨?_, Nat.lt_of_lt_of_le h.2 k.size⟩
  have hg : Tryd.prog.globalNamed "internal/strconv.uint64pow10" = some 4 := by kernel_rfl
  have h1 := h.1
  unfold TabIs World.var? at h1 ⊢
  rw [hg] at h1 ⊢
  simp only [Option.bind_eq_bind, Option.bind_some] at h1 ⊢
  rw [k.block _ h.2]
  exact h1
theorem itoa_nat (n : Nat) : itoa (n : Int) = decDigits n := by
  unfold itoa
  rw [if_neg (by omega)]
  simp
theorem itoa_any (n : Nat) (w : World) (h : HasTab w) (hn : n ≤ 1000000000000) :
    Calls Tryd.prog 78 #[.int .i64 (n : Int)] w fun e w' => e = .returned (.string (numT n)) ∧ Kept w w' := by
  refine (Tryd.strconv_Itoa (n : Int) (by omega) (by omega) w h.1).mono ?_
  rintro e w' ⟨rfl, k, os, rfl⟩
  exact ⟨by rw [itoa_nat]; rfl, kept_grow w k os⟩
def ptT (n : Int) : ByteArray := tx (ptxt n)
theorem ptT_nat {n : Int} {u : Nat} (hn : n = u) : ptT n = numT (u / 100) ++ ⟨#[46]⟩ ++ numT (u / 10 % 10) ++ numT (u % 10) := by
  subst hn
  unfold ptT ptxt
  rw [if_neg (by omega), Int.toNat_natCast]
  unfold ptN numT
  show _ = tx _ ++ tx [46] ++ tx _ ++ tx _
  rw [tx_app, tx_app, tx_app]
  simp
theorem ptT_neg {n : Int} {u : Nat} (hn : n = -(u : Int)) (hu : 0 < u) : ptT n = ⟨#[45]⟩ ++ ptT u := by
  unfold ptT ptxt
  rw [if_pos (by omega), if_neg (by omega), Int.toNat_natCast]
  show _ = tx [45] ++ tx _
  rw [tx_app, show n.natAbs = u by omega]
  rfl
theorem numT_one {n : Nat} (h : n < 10) : (numT n).size = 1 := by rw [numT_small h]; rfl
def ptV (n : Int) : ByteArray := if inB n (-1000000) 1000000 then ptT n else ⟨#[]⟩
theorem ptV_yes {n : Int} (h : inB n (-1000000) 1000000 = true) : ptV n = ptT n := by unfold ptV; rw [h]; rfl
theorem ptV_no {n : Int} (h : inB n (-1000000) 1000000 = false) : ptV n = ⟨#[]⟩ := by unfold ptV; rw [h]; rfl
theorem ret_sb {a a' : ByteArray} {b b' : Bool} (h : a = a') (h2 : b = b') : Ending.returned (.tuple #[.string a, .bool b]) = .returned (.tuple #[.string a', .bool b']) := by rw [h, h2]
end Go.Proofs.YtfonfekejbmamaaDoor

/- Codes: their text, the reference's side. -/
namespace Go.Proofs.YtfonfekejbmamaaDoor
set_option linter.unusedVariables false
set_option linter.unusedSimpArgs false
set_option linter.unnecessarySimpa false
open Go.RowKit Go.Lib

theorem ints3 {w : World} {g : Nat} {t : TypeId} {p q r : Int} (h : Box w g t #[.int .i64 p, .int .i64 q, .int .i64 r]) : Ints w (.slice (some ⟨g, 0, none⟩) 3 3) [p, q, r] :=
  ⟨_, 3, rfl, Nat.le_refl _, by decide, (fun h => by cases h), fun _ => ⟨g, 0, rfl, h.lt, fun j u hu => by
    rw [Nat.zero_add, h.cell j, ← hu]
    exact List.getElem?_toArray (xs := [Value.int .i64 p, .int .i64 q, .int .i64 r]) (i := j)⟩⟩
theorem ints4 {w : World} {g : Nat} {t : TypeId} {p q r s : Int} (h : Box w g t #[.int .i64 p, .int .i64 q, .int .i64 r, .int .i64 s]) : Ints w (.slice (some ⟨g, 0, none⟩) 4 4) [p, q, r, s] :=
  ⟨_, 4, rfl, Nat.le_refl _, by decide, (fun h => by cases h), fun _ => ⟨g, 0, rfl, h.lt, fun j u hu => by
    rw [Nat.zero_add, h.cell j, ← hu]
    exact List.getElem?_toArray (xs := [Value.int .i64 p, .int .i64 q, .int .i64 r, .int .i64 s]) (i := j)⟩⟩
def Smalls (zs : List Int) : Prop := ∀ n ∈ zs, 0 ≤ n ∧ n ≤ 1000000
theorem lineL_zero (w : List UInt8) : lineL w [] = w := by unfold lineL; rw [List.map_nil, join_one]
theorem lineL_snoc (w : List UInt8) (l : List Int) (n : Int) : lineL w (l ++ [n]) = lineL w l ++ ([32] ++ numL n) := by
  unfold lineL
  rw [List.map_append, ← List.cons_append]
  show Lib.join ((w :: l.map numL) ++ [numL n]) [32] = _
  rw [join_snoc _ _ _ (by simp), List.append_assoc]
theorem numL_len {n : Int} (h : 0 ≤ n ∧ n ≤ 1000000) : (numL n).length ≤ 10 := by
  have := numT_len (n := n.toNat) (by omega)
  unfold numT at this
  rw [tx_size] at this
  exact this
theorem lineL_take {w : List UInt8} {zs : List Int} {k : Nat} {n : Int} (h : zs[k]? = some n) : lineL w (zs.take (k + 1)) = lineL w (zs.take k) ++ ([32] ++ numL n) := by rw [take_snoc h, lineL_snoc]
theorem lineL_len {w : List UInt8} {zs : List Int} (hz : Smalls zs) : ∀ k, k ≤ zs.length → (lineL w (zs.take k)).length ≤ w.length + 11 * k
  | 0, _ => by rw [List.take_zero, lineL_zero]; omega
  | k + 1, hk => by
    have h1 : zs[k]? = some zs[k] := List.getElem?_eq_getElem (by omega)
    have ih := lineL_len (w := w) hz k (by omega)
    have := numL_len (hz _ (List.mem_of_getElem? h1))
    rw [lineL_take h1, List.length_append, List.length_append]
    simp
    omega
set_option maxRecDepth 100000 in
set_option maxHeartbeats 8000000 in
theorem cdLine_any (s0 : ByteArray) (v : Value) (zs : List Int) (w : World) (h : Ints w v zs) (hz : Smalls zs) (hs : s0.size ≤ 1000) (hl : zs.length ≤ 1000) :
    Calls Tryd.prog 73 #[.string s0, v] w fun e w' => e = .returned (.string (tx (lineL s0.data.toList zs ++ [10]))) ∧ Kept w w' := by
  obtain ⟨A, c, rfl, hnc, hcm, hA⟩ := h.out
  unfold maxLen at hcm
  have HA := Lib.hid hA
  have HZ := Lib.hid hz
  clear hA h hz
  have HS : Hid (s0 = tx (lineL s0.data.toList (zs.take 0))) := Lib.hid (by rw [List.take_zero, lineL_zero, tx_of])
  have hsl : s0.data.toList.length ≤ 1000 := by rw [← size_eq]; exact hs
  go_enter Tryd.func73, Tryd.ntmps73
  go_wp2_with fail
  go_loopw [0, 9] (fun s i wr => ∃ k : Nat, k ≤ zs.length ∧ i = .int .i64 k ∧ s = .string (tx (lineL s0.data.toList (zs.take k))) ∧ Kept w wr) (fun _ i _ => zs.length - (RowKit.intOf i).toNat)
  case atStart => exact ⟨0, Nat.zero_le _, rfl, by rw [← HS.out], Kept.refl _⟩
  case round =>
    obtain ⟨k, hk, rfl, rfl, hkept⟩ := hrel
    have hll := lineL_len (w := s0.data.toList) HZ.out k hk
    by_cases hlt : k < zs.length
    · obtain ⟨b, o, z, rfl, hb, hzk, hc⟩ := ints_at (HA.out.kept hkept) hlt
      obtain ⟨hz0, hz1⟩ := HZ.out z (List.mem_of_getElem? hzk)
      obtain ⟨n, rfl⟩ : ∃ n : Nat, z = (n : Int) := ⟨z.toNat, by omega⟩
      have hnl := numT_len (n := n) (by omega)
      have C := Lib.hid (l1Num_any n (by omega) wr)
      have AW := Lib.hid (cat_run (x := ⟨#[32]⟩) (y := numT n) rfl (by have e : (⟨#[32]⟩ : ByteArray).size = 1 := rfl; omega))
      have AJ : Hid (Op.stringOp .add (tx (lineL s0.data.toList (zs.take k))) (⟨#[32]⟩ ++ numT n) = pure (.string (tx (lineL s0.data.toList (zs.take (k + 1)))))) := Lib.hid (cat_run (by
        rw [lineL_take hzk, ← tx_app, ← tx_app]
        rfl) (by rw [tx_size, ByteArray.size_append]; have e : (⟨#[32]⟩ : ByteArray).size = 1 := rfl; omega))
      obtain ⟨z2, hz2⟩ : ∃ z2, z2 = tx (lineL s0.data.toList (zs.take (k + 1))) := ⟨_, rfl⟩
      have HZ2 := Lib.hid hz2
      have aw := AW.out
      have aj := AJ.out
      rw [← hz2] at aj
      clear hz2 hzk AJ AW
      generalize (⟨#[32]⟩ : ByteArray) ++ numT n = z1 at aw aj
      generalize tx (lineL s0.data.toList (zs.take k)) = zk at aj
      go_wp2_with fail
      refine (C.out).mono ?_
      rintro e w1 ⟨rfl, k1⟩
      go_wp2_with fail
      go_roundw
      case rel => exact ⟨k + 1, by omega, by go_num, by rw [HZ2.out], hkept.trans k1⟩
      case measure => simp [RowKit.intOf]; omega
    · obtain rfl : k = zs.length := by omega
      rw [List.take_length] at hll
      rw [List.take_length]
      have aw : Op.stringOp .add (tx (lineL s0.data.toList zs)) ⟨#[10]⟩ = pure (.string (tx (lineL s0.data.toList zs ++ [10]))) := cat_run (by rw [← tx_app]; rfl) (by rw [tx_size]; have e : (⟨#[10]⟩ : ByteArray).size = 1 := rfl; omega)
      generalize tx (lineL s0.data.toList zs) = zk at aw
      go_wp2_with fail
      go_ret
      exact ⟨rfl, hkept⟩
theorem ended_snoc (L : List (List UInt8)) (y : List UInt8) : ended (L ++ [y]) = ended L ++ (y ++ [10]) := by simp [ended]
def headL (x : CodeD) : List UInt8 := lineL codeW [x.repeats, x.bonus, x.keeps, x.fall]
def limL (x : CodeD) : List UInt8 := lineL limitsW x.limits
def cdPre (x : CodeD) (k : Nat) : List UInt8 := ended (headL x :: limL x :: (x.elems.take k).map elemL)
theorem cdPre_zero (x : CodeD) : tx (headL x ++ [10]) ++ tx (limL x ++ [10]) = tx (cdPre x 0) := by rw [tx_app]; congr 1; simp [cdPre, ended]
theorem cdPre_succ {x : CodeD} {k : Nat} {y : ElemD} (h : x.elems[k]? = some y) : cdPre x (k + 1) = cdPre x k ++ (elemL y ++ [10]) := by
  unfold cdPre
  rw [take_snoc h, List.map_append, ← List.cons_append, ← List.cons_append]
  exact ended_snoc _ _
theorem cdPre_all (x : CodeD) : cdPre x x.elems.length = cdTxt x := by unfold cdPre cdTxt cdLines headL limL; rw [List.take_length]
theorem code_small {x : CodeD} (h : codeB x = true) : Smalls [x.repeats, x.bonus, x.keeps, x.fall] ∧ Smalls x.limits ∧ x.limits.length = 5 ∧ x.elems.length ≤ 24 ∧ ∀ y ∈ x.elems, y.name.size ≤ 5 ∧ Smalls [y.family, y.level, y.base] := by
  obtain ⟨h1, h2, h3, h4, h5, h6, h7, h8⟩ := code_of h
  refine ⟨fun n hn => ?_, fun n hn => by have := h3 n hn; omega, h2, h1.2, fun y hy => ?_⟩
  · simp at hn; omega
  · obtain ⟨a, b, c, d⟩ := h8 y hy
    refine ⟨?_, fun n hn => ?_⟩
    · unfold nameB at a
      simp only [Bool.and_eq_true] at a
      have := inB_true a.2
      omega
    · simp at hn; omega
theorem elemL_len {y : ElemD} (h : y.name.size ≤ 5) (hs : Smalls [y.family, y.level, y.base]) : (elemL y).length ≤ 38 := by
  have h1 := lineL_len (w := y.name.data.toList) hs 3 (by simp)
  rw [← size_eq] at h1
  unfold elemL
  have e : [y.family, y.level, y.base].take 3 = [y.family, y.level, y.base] := rfl
  rw [e] at h1
  omega
theorem cdPre_len {x : CodeD} (h : codeB x = true) : ∀ k, k ≤ x.elems.length → (cdPre x k).length ≤ 120 + 39 * k
  | 0, _ => by
    obtain ⟨h1, h2, h3, _⟩ := code_small h
    have a := lineL_len (w := codeW) h1 4 (by simp)
    have b := lineL_len (w := limitsW) h2 5 (by omega)
    have e : [x.repeats, x.bonus, x.keeps, x.fall].take 4 = [x.repeats, x.bonus, x.keeps, x.fall] := rfl
    rw [e] at a
    rw [List.take_of_length_le (by omega)] at b
    have e1 : codeW.length = 4 := rfl
    have e2 : limitsW.length = 6 := rfl
    unfold cdPre ended headL limL
    simp
    omega
  | k + 1, hk => by
    obtain ⟨_, _, _, _, h5⟩ := code_small h
    have ih := cdPre_len h k (by omega)
    have h1 : x.elems[k]? = some x.elems[k] := List.getElem?_eq_getElem (by omega)
    obtain ⟨a, b⟩ := h5 _ (List.mem_of_getElem? h1)
    have := elemL_len a b
    rw [cdPre_succ h1, List.length_append, List.length_append]
    simp
    omega
def cdT (x : CodeD) : ByteArray := tx (cdTxt x)
def ctV (x : CodeD) : ByteArray := if codeB x then cdT x else ⟨#[]⟩
theorem ctV_yes {x : CodeD} (h : codeB x = true) : ctV x = cdT x := by unfold ctV; rw [h]; rfl
theorem ctV_no {x : CodeD} (h : codeB x = false) : ctV x = ⟨#[]⟩ := by unfold ctV; rw [h]; rfl
set_option maxRecDepth 100000 in
set_option maxHeartbeats 16000000 in
theorem cdText_any (v : Value) (x : CodeD) (w : World) (h : CodeAt w v x) (hb : codeB x = true) :
    Calls Tryd.prog 45 #[v] w fun e w' => e = .returned (.string (cdT x)) ∧ Kept w w' := by
  obtain ⟨nv, mv, rfl, q1, q2⟩ := h
  obtain ⟨A, c, rfl, hnc, hcm, hA⟩ := q1.1.out
  obtain ⟨D, d, rfl, hnd, hdm, _⟩ := q2.out
  unfold maxLen at hcm hdm
  obtain ⟨s1, s2, s3, s4, s5⟩ := code_small hb
  have HA := Lib.hid hA
  have H2 := Lib.hid q2
  have S1 := Lib.hid s1
  have S2 := Lib.hid s2
  have S3 := Lib.hid s3
  have S5 := Lib.hid s5
  have HPL := Lib.hid (cdPre_len hb)
  clear q1 q2 hA hb s1 s2 s3 s5
  go_enter Tryd.func45, Tryd.ntmps45
  obtain ⟨w0, hw0⟩ : ∃ u : World, u = w.alloc (.cells #[.slice A x.elems.length c, .slice D x.limits.length d, .int .i64 x.repeats, .int .i64 x.bonus, .int .i64 x.keeps, .int .i64 x.fall] 41) := ⟨_, rfl⟩
  have B0 : Box w0 w.heap.size 41 #[.slice A x.elems.length c, .slice D x.limits.length d, .int .i64 x.repeats, .int .i64 x.bonus, .int .i64 x.keeps, .int .i64 x.fall] := hw0 ▸ Box.new w _ _ _ rfl
  have K0 : Kept w w0 := hw0 ▸ (Kept.refl w).alloc _
  go_upto_region 1 with (fail)
  rw [← hw0]
  have sz0 : w.heap.size < w0.heap.size := B0.lt
  clear hw0
  have B0d : Box w0.drew w.heap.size 41 #[.slice A x.elems.length c, .slice D x.limits.length d, .int .i64 x.repeats, .int .i64 x.bonus, .int .i64 x.keeps, .int .i64 x.fall] := B0
  have AJ : Hid (Op.stringOp .add (tx (headL x ++ [10])) (tx (limL x ++ [10])) = pure (.string (tx (cdPre x 0)))) := Lib.hid (cat_run (cdPre_zero x) (by
    have := HPL.out 0 (by omega)
    have e := congrArg ByteArray.size (cdPre_zero x)
    rw [ByteArray.size_append, tx_size (cdPre x 0)] at e
    omega))
  have aj := AJ.out
  have C1 : Hid (∀ (W : World) (g : Nat), Box W g 3 #[.int .i64 x.repeats, .int .i64 x.bonus, .int .i64 x.keeps, .int .i64 x.fall] → Calls Tryd.prog 73 #[.string ⟨#[99, 111, 100, 101]⟩, .slice (some ⟨g, 0, none⟩) 4 4] W fun e w' => e = .returned (.string (tx (headL x ++ [10]))) ∧ Kept W w') := Lib.hid (fun W g hB => cdLine_any ⟨#[99, 111, 100, 101]⟩ _ [x.repeats, x.bonus, x.keeps, x.fall] W (ints4 hB) S1.out (by decide) (by simp))
  have C2 : Hid (∀ (W : World), Kept w W → Calls Tryd.prog 73 #[.string ⟨#[108, 105, 109, 105, 116, 115]⟩, .slice D x.limits.length d] W fun e w' => e = .returned (.string (tx (limL x ++ [10]))) ∧ Kept W w') := Lib.hid (fun W hk => cdLine_any ⟨#[108, 105, 109, 105, 116, 115]⟩ _ _ W (H2.out.kept hk) S2.out (by decide) (by have := S3.out; omega))
  generalize tx (headL x ++ [10]) = zh at aj C1
  generalize tx (limL x ++ [10]) = zl at aj C2
  have B0a : Box (w0.alloc (.cells #[.int .i64 x.repeats, .int .i64 x.bonus, .int .i64 x.keeps, .int .i64 x.fall] 3)).drew w.heap.size 41 #[.slice A x.elems.length c, .slice D x.limits.length d, .int .i64 x.repeats, .int .i64 x.bonus, .int .i64 x.keeps, .int .i64 x.fall] := B0.alloc _
  have B1d : Box (w0.alloc (.cells #[.int .i64 x.repeats, .int .i64 x.bonus, .int .i64 x.keeps, .int .i64 x.fall] 3)).drew w0.heap.size 3 #[.int .i64 x.repeats, .int .i64 x.bonus, .int .i64 x.keeps, .int .i64 x.fall] := Box.new w0 _ _ _ rfl
  have K0a : Kept w (w0.alloc (.cells #[.int .i64 x.repeats, .int .i64 x.bonus, .int .i64 x.keeps, .int .i64 x.fall] 3)).drew := (K0.alloc _).drew
  go_region_held3 (fun w' => w'.cell? ⟨w.heap.size, 1, none⟩ = some (.slice D x.limits.length d) ∧ w'.cell? ⟨w.heap.size, 2, none⟩ = some (.int .i64 x.repeats) ∧ w'.cell? ⟨w.heap.size, 3, none⟩ = some (.int .i64 x.bonus) ∧ w'.cell? ⟨w.heap.size, 4, none⟩ = some (.int .i64 x.keeps) ∧ w'.cell? ⟨w.heap.size, 5, none⟩ = some (.int .i64 x.fall)) (first | (with_reducible exact B0d.six.1.2) | (with_reducible exact B0a.six.1.2) | (with_reducible exact (B0a.kept (by assumption)).six.1.2))
    (first | (go_at_call 73; (with_reducible refine (C1.out _ _ B1d).mono ?_); rintro e w1 ⟨rfl, k1⟩) | (go_at_call 73; (with_reducible refine (C2.out _ (K0a.trans k1)).mono ?_); rintro e w2 ⟨rfl, k2'⟩; have k2 := k1.trans k2'))
  rename_i hheld
  clear hheld
  have KW := Lib.hid (K0a.trans k2)
  have B2 := Lib.hid (B0a.kept k2)
  clear aj C1 C2 B0 B0d B0a B1d AJ
  obtain ⟨x1, y1⟩ := B2.out.six
  go_wp2_with fail
  clear x1 y1
  have HZ0 : Hid (tx (cdPre x 0) = tx (cdPre x 0)) := Lib.hid rfl
  go_loopw [3, 23] (fun s3 s23 wr => ∃ k : Nat, k ≤ x.elems.length ∧ s23 = .int .i64 k ∧ s3 = .string (tx (cdPre x k)) ∧ Kept w wr) (fun _ i _ => x.elems.length - (RowKit.intOf i).toNat)
  case atStart => exact ⟨0, Nat.zero_le _, rfl, rfl, KW.out⟩
  case round =>
    obtain ⟨k, hk, rfl, rfl, hkept⟩ := hrel
    by_cases hlt : k < x.elems.length
    · obtain ⟨b, o, y, rfl, hb', h2, q0, q1, q2, q3⟩ := elems_at (HA.out.kept hkept) hlt
      have S5y := S5.out y (List.mem_of_getElem? h2)
      have hel := elemL_len S5y.1 S5y.2
      have hpl := HPL.out k hk
      have CY : Hid (∀ (W : World) (g : Nat), Box W g 3 #[.int .i64 y.family, .int .i64 y.level, .int .i64 y.base] → Calls Tryd.prog 73 #[.string y.name, .slice (some ⟨g, 0, none⟩) 3 3] W fun e w' => e = .returned (.string (tx (elemL y ++ [10]))) ∧ Kept W w') := Lib.hid (fun W g hB => cdLine_any y.name _ [y.family, y.level, y.base] W (ints3 hB) S5y.2 (by have := S5y.1; omega) (by simp))
      have AJ : Hid (Op.stringOp .add (tx (cdPre x k)) (tx (elemL y ++ [10])) = pure (.string (tx (cdPre x (k + 1))))) := Lib.hid (cat_run (by rw [cdPre_succ h2, tx_app]) (by rw [tx_size, tx_size, List.length_append]; simp; omega))
      obtain ⟨zn, hzn⟩ : ∃ zn, zn = tx (cdPre x (k + 1)) := ⟨_, rfl⟩
      have aj := AJ.out
      rw [← hzn] at aj
      have HZN := Lib.hid hzn
      generalize tx (cdPre x k) = zk at aj
      generalize tx (elemL y ++ [10]) = zy at aj CY
      clear hzn AJ h2 S5y
      have BY := Box.new wr wr.heap.size 83 #[.string y.name, .int .i64 y.family, .int .i64 y.level, .int .i64 y.base] rfl
      obtain ⟨xy, yy⟩ := BY.four
      have B3 : Box ((wr.alloc (.cells #[.string y.name, .int .i64 y.family, .int .i64 y.level, .int .i64 y.base] 83)).alloc (.cells #[.int .i64 y.family, .int .i64 y.level, .int .i64 y.base] 3)) (wr.heap.size + 1) 3 #[.int .i64 y.family, .int .i64 y.level, .int .i64 y.base] := Box.new _ _ _ _ (by simp)
      have KY : Kept wr (wr.alloc (.cells #[.string y.name, .int .i64 y.family, .int .i64 y.level, .int .i64 y.base] 83)) := (Kept.refl wr).alloc _
      go_wp2_with fail
      with_reducible refine (CY.out _ _ B3).mono ?_
      rintro e w3 ⟨rfl, k3⟩
      go_wp2_with fail
      go_roundw
      case rel => exact ⟨k + 1, by omega, by go_num, by rw [HZN.out], hkept.trans ((KY.alloc _).trans k3)⟩
      case measure => simp [RowKit.intOf]; omega
    · obtain rfl : k = x.elems.length := by omega
      have HC := Lib.hid (cdPre_all x)
      go_wp2_with fail
      go_ret
      exact ⟨ret_str (by rw [HC.out]; rfl), hkept⟩
end Go.Proofs.YtfonfekejbmamaaDoor

/- strings.Builder's WriteString at this program, laid by hand: two of the numbers that the structures name stand in no body of the closure here. -/
namespace Go.Proofs
set_option linter.unusedVariables false
set_option linter.unusedSimpArgs false
open Go Go.Shelf Go.RowKit
def Tryd.b166_ren : Go.Shelf.Ren := ⟨fun | 166 => 49 | 240 => 77 | 276 => 90 | n => n, fun | 0 => 0 | 3 => 3 | 4 => 4 | 5 => 5 | 9 => 9 | 20 => 20 | 37 => 74 | 70 => 73 | 72 => 76 | 75 => 78 | 80 => 84 | 164 => 114 | n => n, fun | n => n⟩
theorem Tryd.b166 : Go.Proofs.Lays.n166 Tryd.prog Tryd.b166_ren := {
  mixed := by kernel_rfl
  f166 := Tryd.func49.trans (congrArg some (by kernel_rfl))
  f240 := Tryd.func77.trans (congrArg some (by kernel_rfl))
  f276 := Tryd.func90.trans (congrArg some (by kernel_rfl))
  t0 := Tryd.underlying0
  a0 := Tryd.isAgg0
  z0 := Tryd.sizeOf0
  v0 := Tryd.zeroValue0
  t3 := Tryd.underlying3
  a3 := Tryd.isAgg3
  z3 := Tryd.sizeOf3
  v3 := Tryd.zeroValue3
  t4 := Tryd.underlying4
  a4 := Tryd.isAgg4
  z4 := Tryd.sizeOf4
  v4 := Tryd.zeroValue4
  t9 := Tryd.underlying9
  a9 := Tryd.isAgg9
  z9 := Tryd.sizeOf9
  v9 := Tryd.zeroValue9
  t20 := Tryd.underlying20
  a20 := Tryd.isAgg20
  z20 := Tryd.sizeOf20
  v20 := Tryd.zeroValue20
  t37 := Tryd.underlying74
  a37 := Tryd.isAgg74
  z37 := Tryd.sizeOf74
  v37 := Tryd.zeroValue74
  t70 := Tryd.underlying73
  a70 := Tryd.isAgg73
  z70 := Tryd.sizeOf73
  v70 := Tryd.zeroValue73
  t72 := Tryd.underlying76
  a72 := Tryd.isAgg76
  z72 := Tryd.sizeOf76
  v72 := Tryd.zeroValue76
  t75 := Tryd.underlying78
  a75 := Tryd.isAgg78
  z75 := Tryd.sizeOf78
  v75 := Tryd.zeroValue78
  t164 := Tryd.underlying114
  a164 := Tryd.isAgg114
  z164 := Tryd.sizeOf114
  v164 := Tryd.zeroValue114 }
theorem Tryd.bX : Builder.Extra Tryd.prog Tryd.b166_ren := {
  sizeBuilder := by kernel_rfl
  liesBuilder := by kernel_rfl
  t5 := Tryd.underlying5
  a5 := Tryd.isAgg5
  z5 := Tryd.sizeOf5
  v5 := Tryd.zeroValue5
  infoByte := by kernel_rfl
  cellsByte := by kernel_rfl
  sizeByte := by kernel_rfl
  neB5 := by decide }
theorem Tryd.Builder_WriteString (B b : Nat) (bs : List Value) (s : ByteArray) (w : World) (h : Lib.IsBuilder 76 5 B b bs w) (hlen : bs.length + s.size ≤ 140737488355328) (hBw : B ≤ w.heap.size) :
    Calls Tryd.prog 49 #[.pointer (some ⟨b, 0, none⟩), .string s] w fun e w' => e = .returned (.tuple #[.int .i64 s.size, .nilIface]) ∧ (Lib.BuilderAt 76 5 B b (.pointer (some ⟨b, 0, none⟩)) (bs ++ Lib.strCells s) w' ∧ Below B w w') :=
  Any.Builder_WriteString Tryd.b166 Tryd.bX B b bs s w h hlen hBw
end Go.Proofs
