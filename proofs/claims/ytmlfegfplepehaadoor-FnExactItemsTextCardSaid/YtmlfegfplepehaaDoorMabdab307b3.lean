/- Contracts of functions that the proof leans on. No condition. -/
import Derived.Test.YtmlfegfplepehaaDoorMff4966ec68
import Derived.StillTailTactics
import Derived.Deep.RegionHeld3
import Derived.Deep.DeepCutAuto
import Derived.Test.YtmlfegfplepehaaDoorShelf
import Derived.Laws.IdiomCopy
import Derived.Laws.Externs
import Derived.Lib.Overlaps
import Derived.Lib.AppendZerosOnto
import Derived.Lib.SliceRun
import Derived.Deep.RegionLaw
/- Texts, plain: the text of points, and reading it. -/
namespace Go.Proofs.YtmlfegfplepehaaDoor
set_option linter.unusedVariables false
set_option linter.unusedSimpArgs false
set_option linter.unnecessarySimpa false
open Go.Lib

def ptN (u : Nat) : List UInt8 := decDigits (u / 100) ++ 46 :: (decDigits (u / 10 % 10) ++ decDigits (u % 10))
def ptxt (n : Int) : List UInt8 := if n < 0 then 45 :: ptN n.natAbs else ptN n.toNat
def ptGood (n : Int) : Prop := -1000000 ≤ n ∧ n ≤ 1000000
def IsRead (s : List UInt8) (v : Int) (ok : Bool) : Prop := (ok = true ∧ ptGood v ∧ ptxt v = s) ∨ (ok = false ∧ v = 0 ∧ ∀ n, ptGood n → ptxt n ≠ s)
theorem dg_notin {u : Nat} {b : UInt8} (h : isDg b = false) : b ∉ decDigits u := by
  intro hm
  have := List.all_eq_true.1 (decDigits_all u) b hm
  rw [h] at this
  cases this
theorem ptN_split (u : Nat) : splitOn 46 (ptN u) = [decDigits (u / 100), decDigits (u / 10 % 10) ++ decDigits (u % 10)] := by
  unfold ptN
  rw [splitOn_hit (dg_notin (by decide)), splitOn_none]
  intro hm
  rcases List.mem_append.1 hm with h | h
  · exact dg_notin (by decide) h
  · exact dg_notin (by decide) h
theorem ptN_head (u : Nat) : ∃ c r, ptN u = c :: r ∧ isDg c = true := by
  unfold ptN
  cases h : decDigits (u / 100) with
  | nil => exact absurd h (decDigits_ne _)
  | cons c r =>
    refine ⟨c, r ++ 46 :: (decDigits (u / 10 % 10) ++ decDigits (u % 10)), rfl, ?_⟩
    have := decDigits_all (u / 100)
    rw [h] at this
    simp at this
    exact this.1
theorem ptN_ne (u : Nat) (r : List UInt8) : ptN u ≠ 45 :: r := by
  obtain ⟨c, r', e, hc⟩ := ptN_head u
  rw [e]
  intro h
  injection h with h1 h2
  subst h1
  revert hc
  decide
theorem ptN_inj {u v : Nat} (h : ptN u = ptN v) : u = v := by
  have h1 : splitOn 46 (ptN u) = splitOn 46 (ptN v) := by rw [h]
  rw [ptN_split, ptN_split] at h1
  injection h1 with a b
  injection b with b _
  have ha := congrArg dval a
  rw [decDigits_val, decDigits_val] at ha
  have small : ∀ w : Nat, decDigits (w / 10 % 10) ++ decDigits (w % 10) = [UInt8.ofNat (48 + w / 10 % 10), UInt8.ofNat (48 + w % 10)] := by
    intro w
    rw [decDigits_small (Nat.mod_lt _ (by decide)), decDigits_small (Nat.mod_lt _ (by decide))]
    rfl
  rw [small u, small v] at b
  injection b with b1 b2
  injection b2 with b2 _
  have c1 := congrArg UInt8.toNat b1
  have c2 := congrArg UInt8.toNat b2
  rw [toNat_of (Nat.mod_lt _ (by decide)), toNat_of (Nat.mod_lt _ (by decide))] at c1
  rw [toNat_of (Nat.mod_lt _ (by decide)), toNat_of (Nat.mod_lt _ (by decide))] at c2
  omega
theorem ptxt_inj {a b : Int} (h : ptxt a = ptxt b) : a = b := by
  unfold ptxt at h
  by_cases ha : a < 0 <;> by_cases hb : b < 0
  · rw [if_pos ha, if_pos hb] at h
    injection h with _ h
    have := ptN_inj h
    omega
  · rw [if_pos ha, if_neg hb] at h
    exact absurd h.symm (ptN_ne _ _)
  · rw [if_neg ha, if_pos hb] at h
    exact absurd h (ptN_ne _ _)
  · rw [if_neg ha, if_neg hb] at h
    have := ptN_inj h
    omega
theorem IsRead.same {s : List UInt8} {v v' : Int} {ok ok' : Bool} (h : IsRead s v ok) (h' : IsRead s v' ok') : v = v' ∧ ok = ok' := by
  rcases h with ⟨rfl, g, e⟩ | ⟨rfl, rfl, n⟩ <;> rcases h' with ⟨rfl, g', e'⟩ | ⟨rfl, rfl, n'⟩
  · exact ⟨ptxt_inj (e.trans e'.symm), rfl⟩
  · exact absurd e (n' _ g)
  · exact absurd e' (n _ g')
  · exact ⟨rfl, rfl⟩
/-- What stands behind the sign, and whether there is one. -/
theorem ptxt_sign (n : Int) : trimPrefix (ptxt n) [45] = ptN n.natAbs ∧ hasPrefix (ptxt n) [45] = decide (n < 0) := by
  unfold ptxt trimPrefix hasPrefix
  by_cases h : n < 0
  · rw [if_pos h]
    simp [List.isPrefixOf, h]
  · rw [if_neg h]
    obtain ⟨c, r, e, hc⟩ := ptN_head n.toNat
    have hne : (45 == c) = false := by
      rw [beq_eq_false_iff_ne]
      rintro rfl
      revert hc
      decide
    have e2 : n.natAbs = n.toNat := by omega
    rw [e2, e]
    simp [List.isPrefixOf, hne, h]
theorem ptN_cut (u : Nat) : cut (ptN u) [46] = (decDigits (u / 100), decDigits (u / 10 % 10) ++ decDigits (u % 10), true) := by
  rcases index_one 46 (ptN u) with ⟨_, h⟩ | ⟨i, hi, hlt, hn, hs⟩
  · exact absurd (by simp [ptN]) h
  · have h2 : splitOn 46 (ptN u) = (ptN u).take i :: splitOn 46 ((ptN u).drop (i + 1)) := by
      conv => lhs; rw [hs, splitOn_hit hn]
    rw [ptN_split] at h2
    injection h2 with a b
    have e3 : splitOn 46 ((ptN u).drop (i + 1)) = [(ptN u).drop (i + 1)] := by
      have hj := splitOn_join 46 ((ptN u).drop (i + 1))
      rw [← b, join_one] at hj
      rw [← b, hj]
    rw [e3] at b
    injection b with b _
    unfold cut
    rw [if_pos (by omega), hi]
    simp only [Int.toNat_natCast, List.length_cons, List.length_nil]
    rw [← a, ← b]
theorem two_digits (u : Nat) : decDigits (u / 10 % 10) ++ decDigits (u % 10) = [UInt8.ofNat (48 + u / 10 % 10), UInt8.ofNat (48 + u % 10)] := by
  rw [decDigits_small (Nat.mod_lt _ (by decide)), decDigits_small (Nat.mod_lt _ (by decide))]
  rfl
/-- The cents, read without a leading zero. -/
theorem cents_read (u : Nat) : readNum 12 (trimPrefix (decDigits (u / 10 % 10) ++ decDigits (u % 10)) [48]) = some (u % 100) := by
  rw [two_digits]
  have h : ∀ a b : Fin 10, readNum 12 (trimPrefix [UInt8.ofNat (48 + a.val), UInt8.ofNat (48 + b.val)] [48]) = some (a.val * 10 + b.val) := by decide
  have := h ⟨u / 10 % 10, Nat.mod_lt _ (by decide)⟩ ⟨u % 10, Nat.mod_lt _ (by decide)⟩
  simp only at this
  rw [this]
  congr 1
  omega
end Go.Proofs.YtmlfegfplepehaaDoor

/- The texts that the laws write as marks. -/
namespace Go.Proofs.YtmlfegfplepehaaDoor
set_option linter.unusedVariables false
set_option linter.unusedSimpArgs false
open Go.RowKit

def dgc (q : Nat) : UInt8 := UInt8.ofNat (48 + q % 10)
theorem dgc_toNat (q : Nat) : (dgc q).toNat = 48 + q % 10 := by
  unfold dgc
  rw [UInt8.toNat_ofNat']
  omega
def digF : Nat → Nat → List UInt8 → List UInt8
  | 0, _, out => out
  | f + 1, q, out => if q = 0 then out else digF f (q / 10) (dgc q :: out)
def mt (k : Int) : ByteArray := ⟨(109 :: digF 20 k.toNat []).toArray⟩
theorem digF_zero (f : Nat) (out : List UInt8) : digF f 0 out = out := by cases f <;> simp [digF]
theorem ba_cons (c : UInt8) (l : List UInt8) : (⟨#[c]⟩ : ByteArray) ++ ⟨l.toArray⟩ = ⟨(c :: l).toArray⟩ := by
  apply ByteArray.ext
  simp
theorem conv_one (w : World) (c : UInt8) (n : Int) (hn : n = c.toNat) :
    (convert 97 9 (.slice (some ⟨w.heap.size, 0, none⟩) 1 1)).run Tryd.prog (w.alloc (.cells #[.int .u8 n] 5)) = .ok (.string ⟨#[c]⟩) (w.alloc (.cells #[.int .u8 n] 5)) := by
  subst hn
  exact run_convert_bytes_back (P := Tryd.prog) (w.alloc (.cells #[.int .u8 (c.toNat : Int)] 5)) 97 9 5 ⟨w.heap.size, 0, none⟩ 1 [c] Tryd.underlying97 Tryd.underlying5 Tryd.underlying9 (fun j hj => by
    obtain rfl : j = 0 := by simpa using hj
    simp [Addr.add])
set_option maxHeartbeats 1000000 in
theorem markText_any (k : Int) (w : World) (h0 : 1 ≤ k) (h1 : k ≤ 1099511627776) :
    Calls Tryd.prog 109 #[.int .i64 k] w fun e w' => e = .returned (.string (mt k)) ∧ Kept w w' := by
  go_enter Tryd.func109, Tryd.ntmps109
  go_wp2_with fail
  go_loopw [0, 3] (fun q o wr => ∃ (f q' : Nat) (out : List UInt8), q = .int .i64 q' ∧ o = .string ⟨out.toArray⟩ ∧ q' < 10 ^ f ∧ q' ≤ 1099511627776 ∧ out.length + f ≤ 20 ∧ digF f q' out = digF 20 k.toNat [] ∧ Kept w wr) (fun q _ _ => (intOf q).toNat)
  case atStart => exact ⟨20, k.toNat, [], by congr 1; omega, rfl, by omega, by omega, by simp, rfl, Kept.refl _⟩
  case round =>
    obtain ⟨f, q', out, rfl, rfl, hq, hq2, hf, hd, hkept⟩ := hrel
    have HD := Lib.hid hd
    clear hd
    by_cases hpos : 0 < q'
    · have hcv := conv_one wr (dgc q') (48 + (q' : Int) % 10) (by rw [dgc_toNat]; omega)
      have HQ := Lib.hid hq
      clear hq
      go_wp2_with fail
      go_roundw
      case rel =>
        cases f with
        | zero =>
          have := HQ.out
          simp at this
          omega
        | succ f =>
          refine ⟨f, q' / 10, dgc q' :: out, by go_num, by rw [ba_cons], ?_, by omega, by simp; omega, ?_, hkept.alloc _⟩
          · have := HQ.out
            rw [Nat.pow_succ] at this
            omega
          · rw [← HD.out, digF, if_neg (by omega)]
      case measure => simp [intOf]; omega
    · obtain rfl : q' = 0 := by omega
      go_wp2_with fail
      go_ret
      refine ⟨?_, hkept⟩
      have := HD.out
      rw [digF_zero] at this
      unfold mt
      rw [← this, ← ba_cons]
      rfl
theorem digF_length (f q : Nat) (out : List UInt8) : (digF f q out).length ≤ out.length + f := by
  induction f generalizing q out with
  | zero => simp [digF]
  | succ f ih =>
    rw [digF]
    split
    · omega
    · have := ih (q / 10) (dgc q :: out)
      simp at this
      omega
theorem mt_size (k : Int) : (mt k).size ≤ maxLen := by
  have := digF_length 20 k.toNat []
  have h : (mt k).size = (digF 20 k.toNat []).length + 1 := by
    show (109 :: digF 20 k.toNat []).toArray.size = _
    simp
  rw [h]
  unfold maxLen
  simp at this
  omega
def marksS (k : Int) (n : Nat) : List ByteArray := (List.range n).map fun (i : Nat) => mt (k + (i : Int))
theorem marksS_length (k : Int) (n : Nat) : (marksS k n).length = n := by simp [marksS]
theorem marksS_get {k : Int} {n i : Nat} (h : i < n) : (marksS k n)[i]? = some (mt (k + i)) := by simp [marksS, h]
theorem marksS_size (k : Int) (n : Nat) : ∀ z ∈ marksS k n, z.size ≤ maxLen := by
  intro z hz
  unfold marksS at hz
  obtain ⟨i, _, rfl⟩ := List.mem_map.1 hz
  exact mt_size _
end Go.Proofs.YtmlfegfplepehaaDoor

/- Contracts of chapter 1: fractions compared; the constants. -/
namespace Go.Proofs.YtmlfegfplepehaaDoor
set_option linter.unusedVariables false
set_option linter.unusedSimpArgs false
open Go.RowKit

def partB (a b : Int) : Bool := inB a (-1000000000000) 1000000000000 && inB b 1 1000000
theorem partB_true {a b : Int} (h : partB a b = true) : -1000000000000 ≤ a ∧ a ≤ 1000000000000 ∧ 1 ≤ b ∧ b ≤ 1000000 := by
  unfold partB at h
  rw [Bool.and_eq_true] at h
  have h1 := inB_true h.1
  have h2 := inB_true h.2
  exact ⟨h1.1, h1.2, h2.1, h2.2⟩
def sgn (n : Int) : Int := if 0 < n then 1 else if n < 0 then -1 else 0
def poMd (a b mode : Int) : Int := if mode = -1 then a / b else if mode = 0 then (2 * a + b) / (2 * b) else -(-a / b)

def cmpV (a b c d : Int) : Int := if partB a b && partB c d then sgn (a * d - c * b) else 0
theorem mul_bd {a d A D : Int} (h1 : -A ≤ a) (h2 : a ≤ A) (h3 : 0 ≤ d) (h4 : d ≤ D) : -(A * D) ≤ a * d ∧ a * d ≤ A * D := by
  have hA : 0 ≤ A := by omega
  constructor
  · have q1 : -A * d ≤ a * d := Int.mul_le_mul_of_nonneg_right h1 h3
    have q2 : A * d ≤ A * D := Int.mul_le_mul_of_nonneg_left h4 hA
    rw [Int.neg_mul] at q1
    omega
  · have q1 : a * d ≤ A * d := Int.mul_le_mul_of_nonneg_right h2 h3
    have q2 : A * d ≤ A * D := Int.mul_le_mul_of_nonneg_left h4 hA
    omega
theorem part_mul {a b c d : Int} (h1 : partB a b = true) (h2 : partB c d = true) : -1000000000000000000 ≤ a * d ∧ a * d ≤ 1000000000000000000 := by
  have q1 := partB_true h1
  have q2 := partB_true h2
  have := mul_bd (a := a) (d := d) (A := 1000000000000) (D := 1000000) (by omega) (by omega) (by omega) (by omega)
  omega
end Go.Proofs.YtmlfegfplepehaaDoor

/- Contracts of chapter 1: lowest terms, sums of fractions, rounding. -/
namespace Go.Proofs.YtmlfegfplepehaaDoor
set_option linter.unusedVariables false
set_option linter.unusedSimpArgs false
open Go.RowKit

theorem gcd_step (m k : Nat) : Nat.gcd k (m % k) = Nat.gcd m k := by rw [Nat.gcd_comm k, ← Nat.gcd_rec, Nat.gcd_comm]
theorem gcd_pos {a b : Int} (h : 1 ≤ b) : 1 ≤ Int.gcd a b := by
  have : Int.gcd a b ≠ 0 := by
    intro h0
    rw [Int.gcd_eq_zero_iff] at h0
    omega
  omega
def lowT (a b : Int) : Int := if partB a b then a.tdiv (Int.gcd a b) else 0
def lowB (a b : Int) : Int := if partB a b then b / (Int.gcd a b) else 0
def adN (a b c d : Int) : Int := a * d + c * b
def adD (b d : Int) : Int := b * d
def adT (a b c d : Int) : Int := (adN a b c d).tdiv (Int.gcd (adN a b c d) (adD b d))
def adB (a b c d : Int) : Int := (adD b d) / (Int.gcd (adN a b c d) (adD b d))
def addOk (a b c d : Int) : Bool := partB a b && partB c d && partB (adT a b c d) (adB a b c d)
def addT (a b c d : Int) : Int := if addOk a b c d then adT a b c d else 0
def addB (a b c d : Int) : Int := if addOk a b c d then adB a b c d else 0
theorem ad_bd {a b c d : Int} (h1 : partB a b = true) (h2 : partB c d = true) :
    (-4611686018427387904 ≤ a * d + c * b ∧ a * d + c * b ≤ 4611686018427387904 ∧ 1 ≤ b * d ∧ b * d ≤ 4611686018427387904) := by
  have q1 := part_mul h1 h2
  have q2 := part_mul h2 h1
  have e1 := partB_true h1
  have e2 := partB_true h2
  have q3 := mul_bd (a := b) (d := d) (A := 1000000) (D := 1000000) (by omega) (by omega) (by omega) (by omega)
  have q4 : 1 * 1 ≤ b * d := Int.mul_le_mul (by omega) (by omega) (by omega) (by omega)
  omega
theorem fdiv_of (a b : Int) (hb : 1 ≤ b) : a / b = if a.tmod b < 0 then a.tdiv b - 1 else a.tdiv b := by
  have h1 := Int.mul_tdiv_add_tmod a b
  have h2 : (a.tmod b) < b := Int.tmod_lt_of_pos a (by omega)
  have h3 : -b < a.tmod b := by
    have h := Int.tmod_lt_of_pos (-a) (show 0 < b by omega)
    rw [Int.neg_tmod] at h
    omega
  split
  · rw [Int.ediv_eq_iff_of_pos (by omega)]
    rw [Int.sub_mul]
    have := Int.mul_comm b (a.tdiv b)
    constructor <;> omega
  · rw [Int.ediv_eq_iff_of_pos (by omega)]
    have := Int.mul_comm b (a.tdiv b)
    constructor <;> omega
theorem tdiv_bd (a b A : Int) (h1 : -A ≤ a) (h2 : a ≤ A) : -A ≤ a.tdiv b ∧ a.tdiv b ≤ A := by
  have h3 : (a.tdiv b).natAbs = a.natAbs / b.natAbs := Int.natAbs_tdiv a b
  have h4 := Nat.div_le_self a.natAbs b.natAbs
  omega
theorem ediv_bd (a b A : Int) (hb : 1 ≤ b) (h1 : -A ≤ a) (h2 : a ≤ A) : -A - 1 ≤ a / b ∧ a / b ≤ A := by
  have h3 := fdiv_of a b hb
  have h4 := tdiv_bd a b A h1 h2
  split at h3 <;> omega
def rndOk (a b mode : Int) : Bool := partB a b && inB mode (-1) 1
def rndV (a b mode : Int) : Int := if rndOk a b mode then poMd a b mode else 0
end Go.Proofs.YtmlfegfplepehaaDoor

/- Contracts of chapter 1: lists of points. -/
namespace Go.Proofs.YtmlfegfplepehaaDoor
set_option linter.unusedVariables false
set_option linter.unusedSimpArgs false
open Go.RowKit
theorem sum_bd (zs : List Int) (M : Int) (hM : 0 ≤ M) (h : ∀ z ∈ zs, -M ≤ z ∧ z ≤ M) (k : Nat) : -((k : Int) * M) ≤ (zs.take k).sum ∧ (zs.take k).sum ≤ (k : Int) * M := by
  induction zs generalizing k with
  | nil =>
    have : 0 ≤ (k : Int) * M := Int.mul_nonneg (by omega) hM
    simp
    omega
  | cons z zs ih =>
    cases k with
    | zero => simp
    | succ k =>
      have h1 := h z (by simp)
      have h2 := ih (fun y hy => h y (by simp [hy])) k
      have h3 : ((k + 1 : Nat) : Int) * M = (k : Int) * M + M := by rw [Int.natCast_add, Int.add_mul]; simp
      rw [List.take_succ_cons, List.sum_cons, h3]
      omega
theorem arePoints_any (v : Value) (zs : List Int) (w : World) (h : Ints w v zs) :
    Calls Tryd.prog 47 #[v] w fun e w' => e = .returned (.bool (zs.all (inB · (-1000000) 1000000))) ∧ w = w' := by
  have HI := Lib.hid h
  clear h
  go_enter Tryd.func47, Tryd.ntmps47
  go_wp2_with (go_at_call 96; refine (allWithin_any _ _ _ _ _ HI.out).mono ?_; rintro e w' ⟨rfl, rfl⟩)
  go_ret
  exact ⟨rfl, rfl⟩
theorem ints_one (w : World) (x : Int) (t : TypeId) : Ints (w.alloc (.cells #[.int .i64 x] t)) (.slice (some ⟨w.heap.size, 0, none⟩) 1 1) [x] :=
  ⟨_, 1, rfl, Nat.le_refl _, by decide, (fun h => by cases h), fun _ => ⟨w.heap.size, 0, rfl, by simp, fun j u hu => by
    have hj : j = 0 := by
      have := (List.getElem?_eq_some_iff.1 hu).1
      simpa using this
    subst hj
    simp at hu
    subst hu
    simp⟩⟩
theorem ints_new (w : World) (b : Nat) (hb : b = w.heap.size) (x : Int) (t : TypeId) : Ints (w.alloc (.cells #[.int .i64 x] t)) (.slice (some ⟨b, 0, none⟩) 1 1) [x] := by
  subst hb
  exact ints_one w x t
theorem poGood_any (n : Int) (w : World) :
    Calls Tryd.prog 45 #[.int .i64 n] w fun e w' => e = .returned (.bool (inB n (-1000000) 1000000)) ∧ w = w' := by
  go_enter Tryd.func45, Tryd.ntmps45
  go_wp2_with (go_at_call 94; refine (l1In_any _ _ _ _).mono ?_; rintro e w' ⟨rfl, rfl⟩)
  go_ret
  exact ⟨rfl, rfl⟩
def ptsB (zs : List Int) : Bool := decide (zs.length ≤ 60) && zs.all (inB · (-1000000) 1000000)
theorem ptsB_true {zs : List Int} (h : ptsB zs = true) : zs.length ≤ 60 ∧ zs.all (inB · (-1000000) 1000000) = true := by
  unfold ptsB at h
  rw [Bool.and_eq_true] at h
  exact ⟨by simpa using h.1, h.2⟩
end Go.Proofs.YtmlfegfplepehaaDoor

/- Points: their text, the reference's and the program's. -/
namespace Go.Proofs.YtmlfegfplepehaaDoor
set_option linter.unusedVariables false
set_option linter.unusedSimpArgs false
set_option linter.unnecessarySimpa false
open Go.RowKit Go.Lib

def tx (l : List UInt8) : ByteArray := ⟨l.toArray⟩
theorem tx_data (l : List UInt8) : (tx l).data.toList = l := rfl
theorem tx_toList (l : List UInt8) : (tx l).toList = l := by rw [toList_data]; rfl
theorem tx_of (s : ByteArray) : tx s.data.toList = s := mk_data s
theorem tx_app (a b : List UInt8) : tx a ++ tx b = tx (a ++ b) := by
  apply ByteArray.ext
  simp [tx]
theorem tx_size (l : List UInt8) : (tx l).size = l.length := by rw [size_eq]; rfl
theorem tx_inj {a b : List UInt8} (h : tx a = tx b) : a = b := by rw [← tx_data a, ← tx_data b, h]
theorem conv_box {W : World} {g : Nat} {c : UInt8} {n : Int} (h : W.cell? ⟨g, 0, none⟩ = some (.int .u8 n)) (hn : n = c.toNat) :
    (convert 97 9 (.slice (some ⟨g, 0, none⟩) 1 1)).run Tryd.prog W = .ok (.string ⟨#[c]⟩) W := by
  subst hn
  exact run_convert_bytes_back (P := Tryd.prog) W 97 9 5 ⟨g, 0, none⟩ 1 [c] Tryd.underlying97 Tryd.underlying5 Tryd.underlying9 (fun j hj => by
    obtain rfl : j = 0 := by simpa using hj
    simpa [Addr.add] using h)
def numT (n : Nat) : ByteArray := tx (decDigits n)
theorem numT_small {n : Nat} (h : n < 10) : numT n = ⟨#[UInt8.ofNat (48 + n)]⟩ := by unfold numT; rw [decDigits_small h]; rfl
theorem numT_big {n : Nat} (h : ¬ n < 10) : numT n = numT (n / 10) ++ ⟨#[UInt8.ofNat (48 + n % 10)]⟩ := by
  unfold numT
  rw [decDigits_big h, ← tx_app]
  rfl
theorem ret_str {a b : ByteArray} (h : a = b) : Ending.returned (.string a) = .returned (.string b) := by rw [h]
theorem cat_run {x y z : ByteArray} (hz : x ++ y = z) (h : x.size + y.size ≤ 1099511627776) : Op.stringOp .add x y = pure (.string z) := by
  subst hz
  unfold Op.stringOp
  have : ¬ ((x.size + y.size : Nat) : Int) > IntKind.i64.max := by
    have : IntKind.i64.max = 9223372036854775807 := by decide
    omega
  simp only [if_neg this]
theorem numT_len {n : Nat} (h : n ≤ 1000000000) : (numT n).size ≤ 10 := by
  unfold numT
  rw [tx_size]
  exact decDigits_len (k := 9) (by omega)
set_option maxRecDepth 100000 in
set_option maxHeartbeats 2000000 in
theorem l1Num_any (n : Nat) : n ≤ 1000000000 → ∀ w : World, Calls Tryd.prog 95 #[.int .i64 (n : Int)] w fun e w' => e = .returned (.string (numT n)) ∧ Kept w w' := by
  induction n using Nat.strongRecOn with
  | _ n ih =>
    intro hn w
    by_cases h10 : n < 10
    · have HN := Lib.hid (numT_small h10)
      have hq : (48 + (n : Int)) = ((UInt8.ofNat (48 + n)).toNat : Int) := by rw [toNat_of h10]; omega
      have HQ := Lib.hid hq
      clear ih hq
      generalize hcc : UInt8.ofNat (48 + n) = cc at *
      have HCC := Lib.hid hcc
      clear hcc
      have hcv := conv_box (W := w.alloc (.cells #[.int .u8 (48 + (n : Int))] 5)) (g := w.heap.size) (c := cc) (n := 48 + (n : Int)) (by simp) HQ.out
      go_enter Tryd.func95, Tryd.ntmps95
      go_wp2_with fail
      go_ret
      exact ⟨ret_str (HN.out.trans (by first | rfl | rw [HCC.out])).symm, (Kept.refl w).alloc _⟩
    · have HN := Lib.hid (numT_big h10)
      have e10 : ((n / 10 : Nat) : Int) = (n : Int) / 10 := by omega
      have c := ih (n / 10) (by omega) (by omega)
      rw [e10] at c
      have C := Lib.hid c
      have hm : n % 10 < 10 := Nat.mod_lt _ (by decide)
      have hd0 : (0 : Int) ≤ (n : Int) % 10 := by omega
      have hd1 : (n : Int) % 10 < 10 := by omega
      have hq : (48 + (n : Int) % 10) = ((UInt8.ofNat (48 + n % 10)).toNat : Int) := by rw [toNat_of hm]; omega
      have HQ := Lib.hid hq
      clear ih c e10 hq
      generalize hcc : UInt8.ofNat (48 + n % 10) = cc at *
      have HCC := Lib.hid hcc
      clear hcc
      have hcv := conv_box (W := (w.alloc (.cells #[.int .u8 (48 + (n : Int) % 10)] 5)).drew) (g := w.heap.size) (c := cc) (n := 48 + (n : Int) % 10) (by simp) HQ.out
      have hct : Op.stringOp .add (numT (n / 10)) ⟨#[cc]⟩ = pure (.string (numT n)) := cat_run HN.out.symm (by have := numT_len (n := n / 10) (by omega); have e : (⟨#[cc]⟩ : ByteArray).size = 1 := rfl; omega)
      have ht : (n : Int).tmod 10 = (n : Int) % 10 := Int.tmod_eq_emod_of_nonneg (by omega)
      have hw1 : IntKind.i64.wrap ((n : Int) / 10) = (n : Int) / 10 := IntWalk.i64_in _ (by omega)
      have hw8 : IntKind.u8.wrap (48 + (n : Int) % 10) = 48 + (n : Int) % 10 := IntWalk.u8_in _ (by omega)
      have hwq : IntKind.i64.wrap (48 + (n : Int) % 10) = 48 + (n : Int) % 10 := IntWalk.i64_in _ (by omega)
      go_enter Tryd.func95, Tryd.ntmps95
      go_wp2_with fail
      go_region_with (first | (go_at_call 95; (with_reducible refine (C.out w.drew).mono ?_); rintro e w1 ⟨rfl, k1⟩; have kk : Kept w (w1.alloc (.cells #[.int .u8 (48 + (n : Int) % 10)] 5)) := ((Kept.refl w).drew.trans k1).alloc _; have hcv1 := conv_box (W := w1.alloc (.cells #[.int .u8 (48 + (n : Int) % 10)] 5)) (g := w1.heap.size) (c := cc) (n := 48 + (n : Int) % 10) (by simp) HQ.out) | (go_at_call 95; (with_reducible refine (C.out (w.alloc (.cells #[.int .u8 (48 + (n : Int) % 10)] 5)).drew).mono ?_); rintro e w1 ⟨rfl, k1⟩; have kk : Kept w w1 := ((Kept.refl w).alloc _).drew.trans k1; have hcv2 := conv_box (W := w1) (g := w.heap.size) (c := cc) (n := 48 + (n : Int) % 10) ((k1.cell (p := ⟨w.heap.size, 0, none⟩) (by simp)).trans (by simp)) HQ.out))
      all_goals
        go_wp2_with fail
        go_ret
        exact ⟨rfl, kk⟩
end Go.Proofs.YtmlfegfplepehaaDoor

/- append to rows of the call's own, in the words of the readings. -/
namespace Go.Proofs.YtmlfegfplepehaaDoor
set_option linter.unusedVariables false
set_option linter.unusedSimpArgs false
open Go.RowKit

theorem own_nil (w : World) (base : Nat) : OwnI w base (.slice none 0 0) [] := World.ownsRow_nil _ _ _ _
theorem OwnI.base {w : World} {base base' : Nat} {v : Value} {zs : List Int} (h : OwnI w base v zs) (hb : base' ≤ base) : OwnI w base' v zs := own_base h hb
/-- what was there when a0 stood is kept by an append to a row that lies above -/
theorem Kept.grew {a w w' : World} {base : Nat} {e : TypeId} {size : Nat} {v : Value} {n : Nat} {xs : List Value} (hk : Kept a w) (h : w.ownsRow base e size v n xs) (hg : w.grownBy w' v.ownBlock) (hb : a.heap.size ≤ base) : Kept a w' :=
  (only_of_grown hg).above hk (fun b hb' => Nat.le_trans hb (own_fp h b hb').1)
/-- a row built of no element -/
theorem own_made {w : World} {base : Nat} (g : Nat) (e : TypeId) (size : Nat) (hb : base ≤ g) (h : Box w g e #[]) : w.ownsRow base e size (.slice (some ⟨g, 0, none⟩) 0 0) 0 [] :=
  ⟨by simp, .inr ⟨g, 0, _, rfl, hb, h, Nat.le_refl _, Nat.zero_le _, by simp, by simp⟩⟩
/-- append(out, x), numbers -/
theorem wpList_append_int (w : World) {ops : Array Oper} {rest : List Oper} {o : Oper} {a : Act} {Q : Exit → Act → World → Prop} (hgd : o.guard = none) (s x : Operand)
    (ho : o.op = .call { callee := .builtin .append, args := #[s, x], argTypes := #[26, 26] })
    (base : Nat) (v : Value) (zs : List Int) (hs : a.eval s = v) (hown : OwnI w base v zs)
    (g : Nat) (z : Int) (hx : a.eval x = .slice (some ⟨g, 0, none⟩) 1 1) (hc : w.cell? ⟨g, 0, none⟩ = some (.int .i64 z))
    (hl : zs.length ≤ 16777216) (hbase : base ≤ w.heap.size)
    (h : ∀ v' w', OwnI w' base v' (zs ++ [z]) → w.grownBy w' v.ownBlock → wpList Tryd.prog ops Q rest (a.put o.dst v') w') : wpList Tryd.prog ops Q (o :: rest) a w := by
  obtain ⟨i0, hi, hz0, hz1, hz2⟩ := info_parts info_int
  refine wpList_append_own_at w hgd s x 26 ho base 3 i0 _ 1 8 Tryd.underlying26 hi hz0 hz1 hz2 rfl (by omega) v zs.length _ hs hown ⟨g, 0, none⟩ 1 1 [.int .i64 z] hx rfl ?_ ?_ (by unfold maxLen; omega) (by omega) hbase (fun v' w' q1 q2 _ _ => h v' w' ?_ q2)
  · intro j u hu
    rcases j with _ | j
    · simp at hu
      subst hu
      exact hc
    · simp at hu
  · intro u hu
    simp at hu
    subst hu
    rfl
  · unfold OwnI
    simpa using q1
end Go.Proofs.YtmlfegfplepehaaDoor

/- append(out, xs...) to rows of the call's own, in the words of the readings. -/
namespace Go.Proofs.YtmlfegfplepehaaDoor
set_option linter.unusedVariables false
set_option linter.unusedSimpArgs false
open Go.RowKit

theorem run_append_of_nil {P : Program} (w : World) (base : Nat) (t ty e : TypeId) (i : TypeInfo) (size : Nat) (ht : P.underlying t = some (.slice e)) (hi : P.info? e = some i)
    (v : Value) (n : Nat) (xs : List Value) (hown : w.ownsRow base e size v n xs) (c : Nat) : (Builtin.append_ #[t, t] ty #[v, .slice none 0 c]).run P w = .ok v w := by
  rcases hown.2 with ⟨rfl, rfl⟩ | ⟨g, cap, cur, rfl, _, _, hnc, _⟩
  · simp [Builtin.append_, run_underlying ht, sizeOf, typeInfo, hi, Builtin.lenOf, Builtin.firstCells]
  · simp [Builtin.append_, run_underlying ht, sizeOf, typeInfo, hi, Builtin.lenOf, Builtin.firstCells, hnc, storeCells]
theorem run_append_seq {P : Program} (w : World) (base : Nat) (t ty e : TypeId) (i : TypeInfo) (z : Value) (size bytes : Nat) (ht : P.underlying t = some (.slice e)) (hi : P.info? e = some i) (hz : i.zero = some z)
    (hsize : i.size = size) (hby : i.bytes = bytes) (hzs : z.cells.size = size) (hsz : 0 < size)
    (v : Value) (n : Nat) (xs : List Value) (hown : w.ownsRow base e size v n xs)
    (u : Value) (m : Nat) (news : List Value) (hr : Seq w u m news) (hl : news.length = m * size) (h1 : ∀ y ∈ news, y.oneCell' = true)
    (h63 : n + m ≤ maxLen) (hbytes : (n + m) * bytes ≤ 140737488355328) (hbase : base ≤ w.heap.size) :
    ∃ v' w', (Builtin.append_ #[t, t] ty #[v, u]).run P w = .ok v' w' ∧ w'.ownsRow base e size v' (n + m) (xs ++ news) ∧ w.grownBy w' v.ownBlock := by
  obtain ⟨A, c, rfl, hnc, hcm, hA, hc⟩ := hr
  rcases A with _ | ad
  · obtain rfl := hA rfl
    obtain rfl : m = 0 := by omega
    obtain rfl : news = [] := List.eq_nil_of_length_eq_zero (by simpa using hl)
    exact ⟨v, w, run_append_of_nil w base t ty e i size ht hi v n xs hown 0, by simpa using hown, World.grownBy.refl w _⟩
  · have hcells : ∀ j y, news[j]? = some y → w.cell? (ad.add j) = some y := by
      intro j y hy
      have hm : 0 < m := by
        rcases Nat.eq_zero_or_pos m with h0 | h0
        · subst h0
          have : news = [] := List.eq_nil_of_length_eq_zero (by simpa using hl)
          subst this
          simp at hy
        · exact h0
      obtain ⟨b, o', e1, hb, hcell⟩ := hc hm
      injection e1 with e1
      subst e1
      have := hcell j y hy
      rwa [show (⟨b, o', none⟩ : Addr).add j = ⟨b, o' + j, none⟩ from by unfold Addr.add; split <;> simp_all]
    obtain ⟨v', w', hrun, h2, h3, _, _⟩ := run_append_own_at (P := P) w base t ty e i z size bytes ht hi hz hsize hby hzs hsz v n xs hown ad m c news hl hcells h1 h63 hbytes hbase
    exact ⟨v', w', hrun, h2, h3⟩
theorem wp_append_seq {P : Program} (w : World) {o : Oper} {a : Act} {K : Act → World → Prop} {Q : Exit → Act → World → Prop} (s x : Operand) (t : TypeId)
    (ho : o.op = .call { callee := .builtin .append, args := #[s, x], argTypes := #[t, t] })
    (base : Nat) (e : TypeId) (i : TypeInfo) (z : Value) (size bytes : Nat) (ht : P.underlying t = some (.slice e)) (hi : P.info? e = some i) (hz : i.zero = some z)
    (hsize : i.size = size) (hby : i.bytes = bytes) (hzs : z.cells.size = size) (hsz : 0 < size)
    (v : Value) (n : Nat) (xs : List Value) (hs : a.eval s = v) (hown : w.ownsRow base e size v n xs)
    (u : Value) (m : Nat) (news : List Value) (hx : a.eval x = u) (hr : Seq w u m news) (hl : news.length = m * size) (h1 : ∀ y ∈ news, y.oneCell' = true)
    (h63 : n + m ≤ maxLen) (hbytes : (n + m) * bytes ≤ 140737488355328) (hbase : base ≤ w.heap.size)
    (h : ∀ v' w', w'.ownsRow base e size v' (n + m) (xs ++ news) → w.grownBy w' v.ownBlock → K (a.put o.dst v') w') : o.wp P a w K Q := by
  obtain ⟨v', w', hrun, h2, h3⟩ := run_append_seq (P := P) w base t o.type e i z size bytes ht hi hz hsize hby hzs hsz v n xs hown u m news hr hl h1 h63 hbytes hbase
  unfold Oper.wp execOp
  simp only [ho, resolve, invoke, builtin, Sem.run_bind, Sem.run_pure, Result.andThen_ok, List.map_toArray, List.map_cons, List.map_nil, hs, hx, hrun]
  exact h v' w' h2 h3

theorem wp_append_I (w : World) {o : Oper} {a : Act} {K : Act → World → Prop} {Q : Exit → Act → World → Prop} (s x : Operand)
    (ho : o.op = .call { callee := .builtin .append, args := #[s, x], argTypes := #[26, 26] })
    (base : Nat) (v : Value) (zs : List Int) (hs : a.eval s = v) (hown : OwnI w base v zs) (u : Value) (ys : List Int) (hx : a.eval x = u) (hr : Ints w u ys)
    (hl : zs.length + ys.length ≤ 16777216) (hbase : base ≤ w.heap.size)
    (h : ∀ v' w', OwnI w' base v' (zs ++ ys) → w.grownBy w' v.ownBlock → K (a.put o.dst v') w') : o.wp Tryd.prog a w K Q := by
  obtain ⟨i0, hi, hz0, hz1, hz2⟩ := info_parts info_int
  refine wp_append_seq w s x 26 ho base 3 i0 _ 1 8 Tryd.underlying26 hi hz0 hz1 hz2 rfl (by omega) v zs.length _ hs hown u ys.length _ hx hr (by simp) ?_ (by unfold maxLen; omega) (by omega) hbase (fun v' w' q1 q2 => h v' w' ?_ q2)
  · intro y hy
    obtain ⟨_, _, rfl⟩ := List.mem_map.1 hy; rfl
  · unfold OwnI; rw [List.length_append, List.map_append]; exact q1
theorem wpList_append_I (w : World) {ops : Array Oper} {rest : List Oper} {o : Oper} {a : Act} {Q : Exit → Act → World → Prop} (hgd : o.guard = none) (s x : Operand)
    (ho : o.op = .call { callee := .builtin .append, args := #[s, x], argTypes := #[26, 26] })
    (base : Nat) (v : Value) (zs : List Int) (hs : a.eval s = v) (hown : OwnI w base v zs) (u : Value) (ys : List Int) (hx : a.eval x = u) (hr : Ints w u ys)
    (hl : zs.length + ys.length ≤ 16777216) (hbase : base ≤ w.heap.size)
    (h : ∀ v' w', OwnI w' base v' (zs ++ ys) → w.grownBy w' v.ownBlock → wpList Tryd.prog ops Q rest (a.put o.dst v') w') : wpList Tryd.prog ops Q (o :: rest) a w :=
  wpList_plain hgd fun _ hK => wp_append_I w s x ho base v zs hs hown u ys hx hr hl hbase fun v' w' h2 h3 => hK _ _ (h v' w' h2 h3)
theorem step_append_I (w : World) {ops : Array Oper} {o : Oper} {a : Act} {K : Act → World → Prop} {Q : Exit → Act → World → Prop} {E : Prop} (hgd : o.guard = none) (s x : Operand)
    (ho : o.op = .call { callee := .builtin .append, args := #[s, x], argTypes := #[26, 26] })
    (base : Nat) (v : Value) (zs : List Int) (hs : a.eval s = v) (hown : OwnI w base v zs) (u : Value) (ys : List Int) (hx : a.eval x = u) (hr : Ints w u ys)
    (hl : zs.length + ys.length ≤ 16777216) (hbase : base ≤ w.heap.size)
    (h : ∀ v' w', OwnI w' base v' (zs ++ ys) → w.grownBy w' v.ownBlock → K (a.put o.dst v') w') :
    if Region.wanted o (yielded ops a.tmps) = true then Oper.wp Tryd.prog o a w K Q else E := by
  have hw : Region.wanted o (yielded ops a.tmps) = true := by simp [Region.wanted, hgd]
  rw [if_pos hw]
  exact wp_append_I w s x ho base v zs hs hown u ys hx hr hl hbase h
end Go.Proofs.YtmlfegfplepehaaDoor

/- append(out, xs...) to rows of the call's own, in the words of the readings. -/
namespace Go.Proofs.YtmlfegfplepehaaDoor
set_option linter.unusedVariables false
set_option linter.unusedSimpArgs false
open Go.RowKit

theorem wp_append_S (w : World) {o : Oper} {a : Act} {K : Act → World → Prop} {Q : Exit → Act → World → Prop} (s x : Operand)
    (ho : o.op = .call { callee := .builtin .append, args := #[s, x], argTypes := #[25, 25] })
    (base : Nat) (v : Value) (zs : List ByteArray) (hs : a.eval s = v) (hown : OwnS w base v zs) (u : Value) (ys : List ByteArray) (hx : a.eval x = u) (hr : Strs w u ys)
    (hl : zs.length + ys.length ≤ 16777216) (hbase : base ≤ w.heap.size)
    (h : ∀ v' w', OwnS w' base v' (zs ++ ys) → w.grownBy w' v.ownBlock → K (a.put o.dst v') w') : o.wp Tryd.prog a w K Q := by
  obtain ⟨i0, hi, hz0, hz1, hz2⟩ := info_parts info_str
  refine wp_append_seq w s x 25 ho base 9 i0 _ 1 16 Tryd.underlying25 hi hz0 hz1 hz2 rfl (by omega) v zs.length _ hs hown.1 u ys.length _ hx hr.1 (by simp) ?_ (by unfold maxLen; omega) (by omega) hbase (fun v' w' q1 q2 => h v' w' ?_ q2)
  · intro y hy
    obtain ⟨_, _, rfl⟩ := List.mem_map.1 hy; rfl
  · refine ⟨?_, ?_⟩
    · rw [List.length_append, List.map_append]
      exact q1
    · intro e he
      rcases List.mem_append.1 he with he | he
      · exact hown.2 e he
      · exact hr.2 e he
theorem wpList_append_S (w : World) {ops : Array Oper} {rest : List Oper} {o : Oper} {a : Act} {Q : Exit → Act → World → Prop} (hgd : o.guard = none) (s x : Operand)
    (ho : o.op = .call { callee := .builtin .append, args := #[s, x], argTypes := #[25, 25] })
    (base : Nat) (v : Value) (zs : List ByteArray) (hs : a.eval s = v) (hown : OwnS w base v zs) (u : Value) (ys : List ByteArray) (hx : a.eval x = u) (hr : Strs w u ys)
    (hl : zs.length + ys.length ≤ 16777216) (hbase : base ≤ w.heap.size)
    (h : ∀ v' w', OwnS w' base v' (zs ++ ys) → w.grownBy w' v.ownBlock → wpList Tryd.prog ops Q rest (a.put o.dst v') w') : wpList Tryd.prog ops Q (o :: rest) a w :=
  wpList_plain hgd fun _ hK => wp_append_S w s x ho base v zs hs hown u ys hx hr hl hbase fun v' w' h2 h3 => hK _ _ (h v' w' h2 h3)
theorem step_append_S (w : World) {ops : Array Oper} {o : Oper} {a : Act} {K : Act → World → Prop} {Q : Exit → Act → World → Prop} {E : Prop} (hgd : o.guard = none) (s x : Operand)
    (ho : o.op = .call { callee := .builtin .append, args := #[s, x], argTypes := #[25, 25] })
    (base : Nat) (v : Value) (zs : List ByteArray) (hs : a.eval s = v) (hown : OwnS w base v zs) (u : Value) (ys : List ByteArray) (hx : a.eval x = u) (hr : Strs w u ys)
    (hl : zs.length + ys.length ≤ 16777216) (hbase : base ≤ w.heap.size)
    (h : ∀ v' w', OwnS w' base v' (zs ++ ys) → w.grownBy w' v.ownBlock → K (a.put o.dst v') w') :
    if Region.wanted o (yielded ops a.tmps) = true then Oper.wp Tryd.prog o a w K Q else E := by
  have hw : Region.wanted o (yielded ops a.tmps) = true := by simp [Region.wanted, hgd]
  rw [if_pos hw]
  exact wp_append_S w s x ho base v zs hs hown u ys hx hr hl hbase h
end Go.Proofs.YtmlfegfplepehaaDoor

/- Rows of elements of several cells: what copy, clear and the library's Delete and Insert do to a block that is known whole. -/
namespace Go.Proofs.YtmlfegfplepehaaDoor
set_option linter.unusedVariables false
set_option linter.unusedSimpArgs false
open Go.RowKit

/-- cells written one after the other -/
def sets : Array Value → Nat → List Value → Array Value
  | cs, _, [] => cs
  | cs, o, v :: r => sets (cs.setIfInBounds o v) (o + 1) r
theorem Box.sets {b : Nat} {t : TypeId} : ∀ (vs : List Value) (o : Nat) (w : World) (cs : Array Value), Box w b t cs → Box (w.setCells b o vs) b t (sets cs o vs)
  | [], _, _, _, h => h
  | v :: r, o, w, cs, h => Box.sets r (o + 1) _ _ (h.set o v)
theorem only_sets (b : Nat) : ∀ (vs : List Value) (o : Nat) (w : World), Only [b] w (w.setCells b o vs)
  | [], _, w => Only.refl _ w
  | v :: r, o, w => (Only.setCell (Only.refl [b] w) (p := ⟨b, o, none⟩) (by simp) v).trans (only_sets b r (o + 1) _)
theorem sets_size : ∀ (vs : List Value) (o : Nat) (cs : Array Value), (sets cs o vs).size = cs.size
  | [], _, _ => rfl
  | v :: r, o, cs => by rw [sets, sets_size r]; simp
theorem sets_toList : ∀ (vs : List Value) (o : Nat) (cs : Array Value), o + vs.length ≤ cs.size → (sets cs o vs).toList = cs.toList.take o ++ vs ++ cs.toList.drop (o + vs.length)
  | [], o, cs, h => by simp [sets]
  | v :: r, o, cs, h => by
    have hlt : o < cs.toList.length := by simp at h ⊢; omega
    rw [sets, sets_toList r (o + 1) _ (by simp at h ⊢; omega)]
    simp only [Array.toList_setIfInBounds]
    rw [List.take_set, List.take_succ_eq_append_getElem hlt, List.set_append_right _ _ (by rw [List.length_take]; omega), List.length_take_of_le (by omega), Nat.sub_self]
    rw [List.drop_set_of_lt (by omega)]
    simp only [List.set_cons_zero, List.append_assoc, List.cons_append, List.nil_append, List.length_cons]
    rw [show o + 1 + r.length = o + (r.length + 1) from by omega]
theorem sets_take {cs : Array Value} {o m : Nat} {vs : List Value} (h : o + vs.length ≤ cs.size) (hm : m ≤ o) : (sets cs o vs).toList.take m = cs.toList.take m := by
  have hl : cs.toList.length = cs.size := by simp
  rw [sets_toList _ _ _ h, List.append_assoc, List.take_append_of_le_length (by rw [List.length_take]; omega), List.take_take, Nat.min_eq_left hm]
theorem sets_full {cs : Array Value} {o m : Nat} {vs : List Value} (h : o + vs.length ≤ cs.size) (hm : m = o + vs.length) : (sets cs o vs).toList.take m = cs.toList.take o ++ vs := by
  have hl : cs.toList.length = cs.size := by simp
  rw [sets_toList _ _ _ h, List.take_left' (by rw [List.length_append, List.length_take]; omega)]
theorem sets_drop {cs : Array Value} {o : Nat} {vs : List Value} (h : o + vs.length ≤ cs.size) : (sets cs o vs).toList.drop o = vs ++ cs.toList.drop (o + vs.length) := by
  have hl : cs.toList.length = cs.size := by simp
  rw [sets_toList _ _ _ h, List.append_assoc, List.drop_left' (by rw [List.length_take]; omega)]
theorem only_drew_sets (b : Nat) (vs : List Value) (o : Nat) (w : World) : Only [b] w (w.drew.setCells b o vs) := (Only.drewN (Only.refl [b] w) 1).trans (only_sets b vs o w.drew)
theorem own_box {w : World} {base : Nat} {e : TypeId} {size n cap g : Nat} {xs : List Value} (h : w.ownsRow base e size (.slice (some ⟨g, 0, none⟩) n cap) n xs) :
    ∃ cur, Box w g e cur ∧ n ≤ cap ∧ cap ≤ maxLen ∧ cur.size = cap * size ∧ cur.toList.take (n * size) = xs := by
  rcases h.2 with ⟨h, _⟩ | ⟨g', cap', cur, e1, _, hb, h1, h2, h3, h4⟩
  · cases h
  · injection e1 with e1 e2 e3
    injection e1 with e1
    injection e1 with e1
    subst e1 e3
    exact ⟨cur, hb, h1, h2, h3, h4⟩
theorem own_of_box {w : World} {base : Nat} {e : TypeId} {size n cap g : Nat} {xs : List Value} {cur : Array Value} (hb : Box w g e cur) (hg : base ≤ g) (h1 : n ≤ cap) (h2 : cap ≤ maxLen) (h3 : cur.size = cap * size) (h4 : cur.toList.take (n * size) = xs) :
    w.ownsRow base e size (.slice (some ⟨g, 0, none⟩) n cap) n xs := by
  refine ⟨?_, .inr ⟨g, cap, cur, rfl, hg, hb, h1, h2, h3, h4⟩⟩
  rw [← h4, List.length_take]
  have : cur.toList.length = cap * size := by simpa using h3
  rw [this, Nat.min_eq_left (Nat.mul_le_mul_right _ h1)]
theorem Box.some {w : World} {b : Nat} {t : TypeId} {cs : Array Value} (h : Box w b t cs) {j : Nat} (hj : j < cs.size) : (w.cell? ⟨b, j, none⟩).isSome = true := by
  rw [h.cell j, Array.getElem?_eq_getElem hj]
  rfl
theorem Box.at_ {w : World} {b : Nat} {t : TypeId} {cs : Array Value} (h : Box w b t cs) {j : Nat} {v : Value} (hj : cs.toList[j]? = Option.some v) : w.cell? ⟨b, j, none⟩ = Option.some v := by
  rw [h.cell j, ← Array.getElem?_toList]
  exact hj
theorem add_lit (b o j : Nat) : (⟨b, o, none⟩ : Addr).add j = ⟨b, o + j, none⟩ := by unfold Addr.add; split <;> simp_all

/-- copy(d, s), elements of several cells -/
theorem run_copyN {P : Program} (w : World) (dT sT ty elem : TypeId) (size : Nat) (b o dLen dCap : Nat) (a : Addr) (sLen sCap m : Nat) (cs : List Value)
    (hu : P.underlying dT = some (.slice elem)) (hs : (P.info? elem).map (·.size) = some size) (hm : Nat.min sLen dLen = m) (hn : cs.length = m * size)
    (hsrc : ∀ j v, cs[j]? = some v → w.cell? (a.add j) = some v) (hc : ∀ j, j < cs.length → (w.cell? ⟨b, o + j, none⟩).isSome = true) (hf : ∀ j, j < cs.length → w.frozen? ⟨b, o + j, none⟩ = false) (h1 : ∀ v ∈ cs, v.oneCell' = true) :
    (Builtin.copy_ #[dT, sT] ty #[.slice (some ⟨b, o, none⟩) dLen dCap, .slice (some a) sLen sCap]).run P w = .ok (goInt m) (w.setCells b o cs) := by
  have hl := run_loadCells_list (P := P) w a cs hsrc
  have hst := run_storeCells_cells (P := P) b o cs 0 w (by simpa using hc) (by simpa using hf) h1
  cases hq : P.info? elem with
  | none => simp [hq] at hs
  | some i =>
    have hi : i.size = size := by simpa [hq] using hs
    simp [Builtin.copy_, run_underlying hu, Builtin.lenOf, Builtin.firstCells, sizeOf, typeInfo, hq, hi, hm, ← hn, hl, hst]
theorem wp_copy_run {P : Program} (w : World) {o : Oper} {a : Act} {K : Act → World → Prop} {Q : Exit → Act → World → Prop} (d s : Operand) (t t' : TypeId)
    (ho : o.op = .call { callee := .builtin .copy, args := #[d, s], argTypes := #[t, t'] }) (v u : Value) (hd : a.eval d = v) (hs : a.eval s = u) {v' : Value} {w' : World}
    (hr : (Builtin.copy_ #[t, t'] o.type #[v, u]).run P w = .ok v' w') (h : K (a.put o.dst v') w') : o.wp P a w K Q := by
  unfold Oper.wp execOp
  simp only [ho, resolve, invoke, builtin, Sem.run_bind, Sem.run_pure, Result.andThen_ok, List.map_toArray, List.map_cons, List.map_nil, hd, hs, hr]
  exact h
theorem wpList_copy_run {P : Program} (w : World) {ops : Array Oper} {rest : List Oper} {o : Oper} {a : Act} {Q : Exit → Act → World → Prop} (hgd : o.guard = none) (d s : Operand) (t t' : TypeId)
    (ho : o.op = .call { callee := .builtin .copy, args := #[d, s], argTypes := #[t, t'] }) (v u : Value) (hd : a.eval d = v) (hs : a.eval s = u) {v' : Value} {w' : World}
    (hr : (Builtin.copy_ #[t, t'] o.type #[v, u]).run P w = .ok v' w') (h : wpList P ops Q rest (a.put o.dst v') w') : wpList P ops Q (o :: rest) a w :=
  wpList_plain hgd fun _ hK => wp_copy_run w d s t t' ho v u hd hs hr (hK _ _ h)
theorem step_copy_run {P : Program} {ops : Array Oper} {o : Oper} {a : Act} {w : World} {K : Act → World → Prop} {Q : Exit → Act → World → Prop} {E : Prop}
    (hg : o.guard = none) (d x : Operand) (dT sT : TypeId) (hop : o.op = Op.call { callee := Callee.builtin Builtin.copy, args := #[d, x], argTypes := #[dT, sT] })
    (v u : Value) (hd : a.eval d = v) (hx : a.eval x = u) {v' : Value} {w' : World} (hr : (Builtin.copy_ #[dT, sT] o.type #[v, u]).run P w = .ok v' w') (hK : K (a.put o.dst v') w') :
    if Region.wanted o (yielded ops a.tmps) = true then Oper.wp P o a w K Q else E := by
  have hw : Region.wanted o (yielded ops a.tmps) = true := by simp [Region.wanted, hg]
  rw [if_pos hw]
  exact wp_copy_run w d x dT sT hop v u hd hx hr hK
/-- clear(s), one element of several cells -/
theorem run_clear1 {P : Program} (w : World) (t e ty : TypeId) (z : Value) (ht : P.underlying t = some (.slice e)) (hv : ∀ w, (zeroValue e).run P w = .ok z w) (b o c : Nat) (hz : (Builtin.zeroCells z.cells 1).toList = z.cells.toList) (h1 : ∀ v ∈ z.cells.toList, v.oneCell' = true)
    (hc : ∀ j, j < z.cells.toList.length → (w.cell? ⟨b, o + j, none⟩).isSome = true) (hf : ∀ j, j < z.cells.toList.length → w.frozen? ⟨b, o + j, none⟩ = false) :
    (Builtin.clear_ #[t] ty #[.slice (some ⟨b, o, none⟩) 1 c]).run P w = .ok (.tuple #[]) (w.setCells b o z.cells.toList) := by
  have hst := run_storeCells_cells (P := P) b o z.cells.toList 0 w (by simpa using hc) (by simpa using hf) h1
  simp only [Nat.add_zero] at hst
  simp [Builtin.clear_, run_underlying ht, hv, hz, hst]
end Go.Proofs.YtmlfegfplepehaaDoor

/- Rows of numbers and of strings: the words for 'append(append(append([]T{}, l[:k]...), x), l[k:]...)'. -/
namespace Go.Proofs.YtmlfegfplepehaaDoor
set_option linter.unusedVariables false
set_option linter.unusedSimpArgs false
open Go.RowKit

theorem seq_to {w : World} {A : Option Addr} {n c : Nat} {xs : List Value} (h : Seq w (.slice A n c) n xs) {i : Nat} (hi : i ≤ n) : Seq w (.slice A i c) i (xs.take i) := by
  obtain ⟨A', c', e, h1, h2, h3, h4⟩ := h
  injection e with e1 e2 e3
  subst e1 e3
  refine ⟨A, c, rfl, by omega, h2, h3, fun hp => ?_⟩
  obtain ⟨b, o, e1, hb, hc⟩ := h4 (by omega)
  refine ⟨b, o, e1, hb, fun j u hu => hc j u ?_⟩
  rw [List.getElem?_take] at hu
  split at hu
  · exact hu
  · cases hu
theorem seq_from {w : World} {b o n c : Nat} {xs : List Value} (h : Seq w (.slice (some ⟨b, o, none⟩) n c) n xs) {k : Nat} (hk : k ≤ n) : Seq w (.slice (some ⟨b, o + k, none⟩) (n - k) (c - k)) (n - k) (xs.drop k) := by
  obtain ⟨A', c', e, h1, h2, h3, h4⟩ := h
  injection e with e1 e2 e3
  subst e1 e3
  refine ⟨_, c - k, rfl, by omega, by unfold maxLen at *; omega, (fun h => by cases h), fun hp => ?_⟩
  obtain ⟨b', o', e1, hb, hc⟩ := h4 (by omega)
  injection e1 with e1
  injection e1 with e1 e2
  subst e1 e2
  refine ⟨b, o + k, rfl, hb, fun j u hu => ?_⟩
  rw [List.getElem?_drop] at hu
  rw [Nat.add_assoc]
  exact hc _ u hu
theorem seq_none {w : World} {A : Option Addr} {xs : List Value} {k : Nat} (hk : xs.length ≤ k) : Seq w (.slice A 0 0) 0 (xs.drop k) := by
  rw [List.drop_of_length_le hk]
  exact ⟨A, 0, rfl, Nat.le_refl _, Nat.zero_le _, fun _ => rfl, fun h => absurd h (by simp)⟩
theorem seq_one {w : World} {g : Nat} {t : TypeId} {u : Value} (h : Box w g t #[u]) : Seq w (.slice (some ⟨g, 0, none⟩) 1 1) 1 [u] := by
  refine ⟨_, 1, rfl, Nat.le_refl _, by unfold maxLen; omega, (fun h => by cases h), fun _ => ⟨g, 0, rfl, h.lt, fun j v hv => ?_⟩⟩
  cases j with
  | zero =>
    have e : v = u := by simpa using hv.symm
    subst e
    exact h.cell 0
  | succ j => simp at hv
theorem ints_to {w : World} {A : Option Addr} {n c : Nat} {zs : List Int} (h : Ints w (.slice A n c) zs) (hn : zs.length = n) {i : Nat} (hi : i ≤ n) : Ints w (.slice A i c) (zs.take i) := by
  unfold Ints
  rw [List.length_take, hn, Nat.min_eq_left hi, List.map_take]
  unfold Ints at h
  rw [hn] at h
  exact seq_to h hi
theorem ints_from {w : World} {b o n c : Nat} {zs : List Int} (h : Ints w (.slice (some ⟨b, o, none⟩) n c) zs) (hn : zs.length = n) {k : Nat} (hk : k ≤ n) : Ints w (.slice (some ⟨b, o + k, none⟩) (n - k) (c - k)) (zs.drop k) := by
  unfold Ints
  rw [List.length_drop, hn, List.map_drop]
  unfold Ints at h
  rw [hn] at h
  exact seq_from h hk
theorem ints_none {w : World} {A : Option Addr} {zs : List Int} {k : Nat} (hk : zs.length ≤ k) : Ints w (.slice A 0 0) (zs.drop k) := by
  unfold Ints
  rw [List.length_drop, Nat.sub_eq_zero_of_le hk, List.map_drop]
  exact seq_none (by simpa using hk)
theorem ints_box1 {w : World} {g : Nat} {z : Int} (h : Box w g 3 #[.int .i64 z]) : Ints w (.slice (some ⟨g, 0, none⟩) 1 1) [z] := seq_one h
theorem step_put_I (a0 w : World) {ops : Array Oper} {o : Oper} {a : Act} {K : Act → World → Prop} {Q : Exit → Act → World → Prop} {E : Prop} (hgd : o.guard = none) (s x : Operand)
    (ho : o.op = .call { callee := .builtin .append, args := #[s, x], argTypes := #[26, 26] })
    (v : Value) (zs : List Int) (hs : a.eval s = v) (hown : OwnI w a0.heap.size v zs) (hk : Kept a0 w) (u : Value) (ys : List Int) (hx : a.eval x = u) (hr : Ints w u ys)
    (hl : zs.length + ys.length ≤ 16777216)
    (h : ∀ v' w', OwnI w' a0.heap.size v' (zs ++ ys) → Kept a0 w' → Only (fp v) w w' → K (a.put o.dst v') w') :
    if Region.wanted o (yielded ops a.tmps) = true then Oper.wp Tryd.prog o a w K Q else E :=
  step_append_I w hgd s x ho a0.heap.size v zs hs hown u ys hx hr hl hk.size fun v' w' h2 h3 =>
    h v' w' h2 ((only_of_grown h3).above hk (fun b hb => (own_fp hown b hb).1)) (only_of_grown h3)
theorem own0_I {w : World} {base g : Nat} (hg : base ≤ g) (h : Box w g 3 #[]) : OwnI w base (.slice (some ⟨g, 0, none⟩) 0 0) [] := own_made _ _ _ hg h
theorem strs_to {w : World} {A : Option Addr} {n c : Nat} {zs : List ByteArray} (h : Strs w (.slice A n c) zs) (hn : zs.length = n) {i : Nat} (hi : i ≤ n) : Strs w (.slice A i c) (zs.take i) := by
  refine ⟨?_, fun z hz => h.2 z (List.mem_of_mem_take hz)⟩
  rw [List.length_take, hn, Nat.min_eq_left hi, List.map_take]
  have h1 := h.1
  rw [hn] at h1
  exact seq_to h1 hi
theorem strs_from {w : World} {b o n c : Nat} {zs : List ByteArray} (h : Strs w (.slice (some ⟨b, o, none⟩) n c) zs) (hn : zs.length = n) {k : Nat} (hk : k ≤ n) : Strs w (.slice (some ⟨b, o + k, none⟩) (n - k) (c - k)) (zs.drop k) := by
  refine ⟨?_, fun z hz => h.2 z (List.mem_of_mem_drop hz)⟩
  rw [List.length_drop, hn, List.map_drop]
  have h1 := h.1
  rw [hn] at h1
  exact seq_from h1 hk
theorem strs_none {w : World} {A : Option Addr} {zs : List ByteArray} {k : Nat} (hk : zs.length ≤ k) : Strs w (.slice A 0 0) (zs.drop k) := by
  refine ⟨?_, fun z hz => by rw [List.drop_of_length_le hk] at hz; cases hz⟩
  rw [List.length_drop, Nat.sub_eq_zero_of_le hk, List.map_drop]
  exact seq_none (by simpa using hk)
theorem strs_box1 {w : World} {g : Nat} {z : ByteArray} (h : Box w g 9 #[.string z]) (hz : z.size ≤ maxLen) : Strs w (.slice (some ⟨g, 0, none⟩) 1 1) [z] := ⟨seq_one h, fun y hy => by rw [List.mem_singleton] at hy; subst hy; exact hz⟩
theorem step_put_S (a0 w : World) {ops : Array Oper} {o : Oper} {a : Act} {K : Act → World → Prop} {Q : Exit → Act → World → Prop} {E : Prop} (hgd : o.guard = none) (s x : Operand)
    (ho : o.op = .call { callee := .builtin .append, args := #[s, x], argTypes := #[25, 25] })
    (v : Value) (zs : List ByteArray) (hs : a.eval s = v) (hown : OwnS w a0.heap.size v zs) (hk : Kept a0 w) (u : Value) (ys : List ByteArray) (hx : a.eval x = u) (hr : Strs w u ys)
    (hl : zs.length + ys.length ≤ 16777216)
    (h : ∀ v' w', OwnS w' a0.heap.size v' (zs ++ ys) → Kept a0 w' → Only (fp v) w w' → K (a.put o.dst v') w') :
    if Region.wanted o (yielded ops a.tmps) = true then Oper.wp Tryd.prog o a w K Q else E :=
  step_append_S w hgd s x ho a0.heap.size v zs hs hown u ys hx hr hl hk.size fun v' w' h2 h3 =>
    h v' w' h2 ((only_of_grown h3).above hk (fun b hb => (own_fp hown.1 b hb).1)) (only_of_grown h3)
theorem own0_S {w : World} {base g : Nat} (hg : base ≤ g) (h : Box w g 9 #[]) : OwnS w base (.slice (some ⟨g, 0, none⟩) 0 0) [] := ⟨own_made _ _ _ hg h, fun _ h => by cases h⟩
end Go.Proofs.YtmlfegfplepehaaDoor

/- How often a name occurs in a list. -/
namespace Go.Proofs.YtmlfegfplepehaaDoor
set_option linter.unusedVariables false
set_option linter.unusedSimpArgs false
open Go.RowKit

def cnt (s : ByteArray) (l : List ByteArray) : Nat := (l.filter fun x => decide (x = s)).length
def cntC (s : ByteArray) (it : ItemD) : Nat := if 1 < it.names.length then cnt s it.names else 0
def times (its : List ItemD) (s : ByteArray) : Nat := (its.map fun it => cnt s it.names).sum
def timesC (its : List ItemD) (s : ByteArray) : Nat := (its.map (cntC s)).sum
theorem cnt_snoc {s z : ByteArray} {l : List ByteArray} {k : Nat} (h : l[k]? = some z) : cnt s (l.take (k + 1)) = cnt s (l.take k) + if z = s then 1 else 0 := by
  unfold cnt
  rw [take_snoc h, List.filter_append]
  by_cases hz : z = s <;> simp [List.filter_cons, hz]
theorem cnt_le (s : ByteArray) (l : List ByteArray) : cnt s l ≤ l.length := List.length_filter_le _ _
theorem itemsB_true {its : List ItemD} (h : itemsB its = true) : its.length ≤ 14 ∧ ∀ it ∈ its, itemB it = true := by
  unfold itemsB at h
  rw [Bool.and_eq_true] at h
  exact ⟨by simpa using h.2, fun it hi => List.all_eq_true.1 h.1 it hi⟩
theorem itemB_true {it : ItemD} (h : itemB it = true) : (∀ z ∈ it.names, nameB z = true) ∧ 1 ≤ it.names.length ∧ it.names.length ≤ 3 ∧ it.marks.length = it.names.length ∧ ∀ m ∈ it.marks, 0 ≤ m ∧ m ≤ 3 := by
  unfold itemB at h
  simp only [Bool.and_eq_true] at h
  obtain ⟨⟨⟨h1, h2⟩, h3⟩, h4⟩ := h
  have h5 := inB_true h2
  exact ⟨fun z hz => List.all_eq_true.1 h1 z hz, by omega, by omega, by simpa using h3, fun m hm => inB_true (List.all_eq_true.1 h4 m hm)⟩
theorem sum_le_mul (l : List Nat) (B : Nat) (h : ∀ x ∈ l, x ≤ B) : l.sum ≤ l.length * B := by
  induction l with
  | nil => simp
  | cons y l ih =>
    have h1 := h y (by simp)
    have h2 := ih (fun x hx => h x (by simp [hx]))
    rw [List.sum_cons, List.length_cons, Nat.succ_mul]
    omega
theorem times_bd {its : List ItemD} (hb : itemsB its = true) (s : ByteArray) (k : Nat) : ((its.take k).map fun it => cnt s it.names).sum ≤ 42 ∧ ((its.take k).map (cntC s)).sum ≤ 42 := by
  obtain ⟨h1, h2⟩ := itemsB_true hb
  have hl : (its.take k).length ≤ 14 := by rw [List.length_take]; omega
  have hc : ∀ it ∈ its.take k, cnt s it.names ≤ 3 := fun it hi => Nat.le_trans (cnt_le s _) (itemB_true (h2 it (List.mem_of_mem_take hi))).2.2.1
  constructor
  · have := sum_le_mul ((its.take k).map fun it => cnt s it.names) 3 (by
      intro x hx
      obtain ⟨it, hi, rfl⟩ := List.mem_map.1 hx
      exact hc it hi)
    rw [List.length_map] at this
    omega
  · have := sum_le_mul ((its.take k).map (cntC s)) 3 (by
      intro x hx
      obtain ⟨it, hi, rfl⟩ := List.mem_map.1 hx
      unfold cntC
      split
      · exact hc it hi
      · omega)
    rw [List.length_map] at this
    omega
def tmV (its : List ItemD) (s : ByteArray) : Int := if itemsB its && nameB s then (times its s : Int) else 0
def tmC (its : List ItemD) (s : ByteArray) : Int := if itemsB its && nameB s then (timesC its s : Int) else 0
end Go.Proofs.YtmlfegfplepehaaDoor
