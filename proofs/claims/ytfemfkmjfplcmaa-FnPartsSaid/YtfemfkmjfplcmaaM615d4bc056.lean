/- Contracts of functions that the proof leans on. No condition. -/
import Derived.Test.YtfemfkmjfplcmaaM807718fac8
/- Contracts of chapter 1: lowest terms, sums of fractions, rounding. -/
namespace Go.Proofs.Ytfemfkmjfplcmaa
set_option linter.unusedVariables false
set_option linter.unusedSimpArgs false
open Go.RowKit

theorem l1Most_any (a b : Int) (w : World) :
    Calls Try.prog 79 #[.int .i64 a, .int .i64 b] w fun e w' => e = .returned (.int .i64 (max a b)) ∧ w = w' := by
  go_enter Try.func79, Try.ntmps79
  go_wp2
  all_goals
    go_ret
    exact ⟨ret_int (by omega), rfl⟩
theorem l1Abs_any (a : Int) (w : World) (h1 : -9223372036854775807 ≤ a) (h2 : a ≤ 9223372036854775807) :
    Calls Try.prog 114 #[.int .i64 a] w fun e w' => e = .returned (.int .i64 (a.natAbs : Int)) ∧ w = w' := by
  go_enter Try.func114, Try.ntmps114
  go_wp2_with (go_at_call 79; refine (l1Most_any _ _ _).mono ?_; rintro e w' ⟨rfl, rfl⟩)
  go_ret
  exact ⟨ret_int (by omega), rfl⟩

theorem gcd_step (m k : Nat) : Nat.gcd k (m % k) = Nat.gcd m k := by rw [Nat.gcd_comm k, ← Nat.gcd_rec, Nat.gcd_comm]
/-- the greatest common divisor by the loop of the reference -/
theorem poLowest_any (a b : Int) (w : World) (h1 : -4611686018427387904 ≤ a) (h2 : a ≤ 4611686018427387904) (h3 : 1 ≤ b) (h4 : b ≤ 4611686018427387904) :
    Calls Try.prog 64 #[.int .i64 a, .int .i64 b] w fun e w' => e = .returned (.tuple #[.int .i64 (a.tdiv (Int.gcd a b)), .int .i64 (b / (Int.gcd a b))]) ∧ Kept w w' := by
  go_enter Try.func64, Try.ntmps64
  go_wp2_with (go_at_call 114; refine (l1Abs_any _ _ (by omega) (by omega)).mono ?_; rintro e w' ⟨rfl, rfl⟩)
  go_loop [6, 7, 8] (fun x y r => ∃ m k : Nat, x = .int .i64 m ∧ y = .int .i64 k ∧ m ≤ 4611686018427387904 ∧ k ≤ 4611686018427387904 ∧ 0 < m + k ∧ Nat.gcd m k = Int.gcd a b) (fun _ y _ => (intOf y).toNat)
  case atStart => exact ⟨a.natAbs, b.natAbs, rfl, by congr 1; omega, by omega, by omega, by omega, rfl⟩
  case round =>
    obtain ⟨m, k, rfl, rfl, hm, hk, hmk, hg⟩ := hrel
    by_cases hk0 : 0 < k
    · have hlt : m % k < k := Nat.mod_lt _ hk0
      have HG := Lib.hid hg
      clear hg
      go_wp2
      go_round
      case rel => exact ⟨k, m % k, rfl, by go_num, by omega, by omega, by omega, by rw [gcd_step]; exact HG.out⟩
      case measure => simp [intOf]; omega
    · obtain rfl : k = 0 := by omega
      have hm0 : 1 ≤ (m : Int) := by omega
      rw [Nat.gcd_zero_right] at hg
      have HG := Lib.hid hg
      clear hg
      have hne : ((m : Int) == 0) = false := by simp; omega
      go_wp2
      go_quiet (fail)
      go_wp2
      go_ret2
      exact ⟨by rw [← HG.out]; rfl, (Kept.refl _).drewN _⟩
theorem gcdOf_any (a b : Int) (w : World) (h1 : -4611686018427387904 ≤ a) (h2 : a ≤ 4611686018427387904) (h3 : 1 ≤ b) (h4 : b ≤ 4611686018427387904) :
    Calls Try.prog 113 #[.int .i64 a, .int .i64 b] w fun e w' => e = .returned (.int .i64 (Int.gcd a b)) ∧ Kept w w' := by
  go_enter Try.func113, Try.ntmps113
  go_wp2
  all_goals
    go_loopw [0, 1] (fun x y wr => ∃ m k : Nat, x = .int .i64 m ∧ y = .int .i64 k ∧ m ≤ 4611686018427387904 ∧ k ≤ 4611686018427387904 ∧ Nat.gcd m k = Int.gcd a b ∧ Kept w wr) (fun _ y _ => (intOf y).toNat)
    case atStart => exact ⟨a.natAbs, b.natAbs, by congr 1; omega, by congr 1; omega, by omega, by omega, rfl, Kept.refl _⟩
    case round =>
      obtain ⟨m, k, rfl, rfl, hm, hk, hg, hkept⟩ := hrel
      by_cases hk0 : 0 < k
      · have hlt : m % k < k := Nat.mod_lt _ hk0
        have HG := Lib.hid hg
        have hne : ((k : Int) != 0) = true := by simp; omega
        have hne' : ((k : Int) == 0) = false := by simp; omega
        clear hg
        go_wp2
        go_quiet (fail)
        go_wp2
        go_roundw
        case rel => exact ⟨k, m % k, rfl, by go_num, by omega, by omega, by rw [gcd_step]; exact HG.out, hkept.drewN _⟩
        case measure => simp [intOf]; omega
      · obtain rfl : k = 0 := by omega
        rw [Nat.gcd_zero_right] at hg
        have HG := Lib.hid hg
        clear hg
        go_wp2
        go_ret
        exact ⟨by rw [← HG.out]; rfl, hkept⟩
theorem gcd_pos {a b : Int} (h : 1 ≤ b) : 1 ≤ Int.gcd a b := by
  have : Int.gcd a b ≠ 0 := by
    intro h0
    rw [Int.gcd_eq_zero_iff] at h0
    omega
  omega
theorem lowestTerms_any (a b : Int) (w : World) (h1 : -4611686018427387904 ≤ a) (h2 : a ≤ 4611686018427387904) (h3 : 1 ≤ b) (h4 : b ≤ 4611686018427387904) :
    Calls Try.prog 63 #[.int .i64 a, .int .i64 b] w fun e w' => e = .returned (.tuple #[.int .i64 (a.tdiv (Int.gcd a b)), .int .i64 (b / (Int.gcd a b))]) ∧ Kept w w' := by
  have hg := gcd_pos (a := a) h3
  go_enter Try.func63, Try.ntmps63
  go_wp2_with (go_at_call 113; refine (gcdOf_any _ _ _ (by omega) (by omega) (by omega) (by omega)).mono ?_; rintro e w1 ⟨rfl, hk⟩)
  generalize hgd : Int.gcd a b = g at *
  have HG := Lib.hid hgd
  clear hgd
  have hne : ((g : Int) == 0) = false := by simp; omega
  go_quiet (fail)
  go_wp2
  go_ret2
  exact ⟨by rw [HG.out]; rfl, hk.drewN _⟩
def lowT (a b : Int) : Int := if partB a b then a.tdiv (Int.gcd a b) else 0
def lowB (a b : Int) : Int := if partB a b then b / (Int.gcd a b) else 0
theorem specLowest_any (a b : Int) (w : World) :
    Calls Try.prog 12 #[.int .i64 a, .int .i64 b] w fun e w' => e = .returned (.tuple #[.int .i64 (lowT a b), .int .i64 (lowB a b), .bool (partB a b)]) ∧ Kept w w' := by
  by_cases h1 : partB a b = true
  · have hb := partB_true h1
    go_enter Try.func12, Try.ntmps12
    go_wp2_with (first | (go_at_call 60; refine (poPart_any _ _ _).mono ?_; rintro e w' ⟨rfl, rfl⟩) | (go_at_call 64; refine (poLowest_any _ _ _ (by omega) (by omega) (by omega) (by omega)).mono ?_; rintro e w1 ⟨rfl, hk⟩))
    go_ret3
    exact ⟨by simp [lowT, lowB, h1], hk⟩
  · simp only [Bool.not_eq_true] at *
    go_enter Try.func12, Try.ntmps12
    go_wp2_with ((go_at_call 60; refine (poPart_any _ _ _).mono ?_; rintro e w' ⟨rfl, rfl⟩))
    go_ret3
    exact ⟨by simp [lowT, lowB, h1], Kept.refl _⟩
theorem implLowest_any (a b : Int) (w : World) :
    Calls Try.prog 11 #[.int .i64 a, .int .i64 b] w fun e w' => e = .returned (.tuple #[.int .i64 (lowT a b), .int .i64 (lowB a b), .bool (partB a b)]) ∧ Kept w w' := by
  by_cases h1 : partB a b = true
  · have hb := partB_true h1
    go_enter Try.func11, Try.ntmps11
    go_wp2_with (first | (go_at_call 57; refine (isPart_any _ _ _).mono ?_; rintro e w' ⟨rfl, rfl⟩) | (go_at_call 63; refine (lowestTerms_any _ _ _ (by omega) (by omega) (by omega) (by omega)).mono ?_; rintro e w1 ⟨rfl, hk⟩))
    go_ret3
    exact ⟨by simp [lowT, lowB, h1], hk⟩
  · simp only [Bool.not_eq_true] at *
    go_enter Try.func11, Try.ntmps11
    go_wp2_with ((go_at_call 57; refine (isPart_any _ _ _).mono ?_; rintro e w' ⟨rfl, rfl⟩))
    go_ret3
    exact ⟨by simp [lowT, lowB, h1], Kept.refl _⟩

def adN (a b c d : Int) : Int := a * d + c * b
def adD (b d : Int) : Int := b * d
def adT (a b c d : Int) : Int := (adN a b c d).tdiv (Int.gcd (adN a b c d) (adD b d))
def adB (a b c d : Int) : Int := (adD b d) / (Int.gcd (adN a b c d) (adD b d))
def addOk (a b c d : Int) : Bool := partB a b && partB c d && partB (adT a b c d) (adB a b c d)
def addT (a b c d : Int) : Int := if addOk a b c d then adT a b c d else 0
def addB (a b c d : Int) : Int := if addOk a b c d then adB a b c d else 0
theorem ad_bd {a b c d : Int} (h1 : partB a b = true) (h2 : partB c d = true) :
    (-4611686018427387904 ≤ a * d + c * b ∧ a * d + c * b ≤ 4611686018427387904 ∧ 1 ≤ b * d ∧ b * d ≤ 4611686018427387904) := by
  have q1 := part_mul h1 h2
  have q2 := part_mul h2 h1
  have e1 := partB_true h1
  have e2 := partB_true h2
  have q3 := mul_bd (a := b) (d := d) (A := 1000000) (D := 1000000) (by omega) (by omega) (by omega) (by omega)
  have q4 : 1 * 1 ≤ b * d := Int.mul_le_mul (by omega) (by omega) (by omega) (by omega)
  omega
theorem specAdd_any (a b c d : Int) (w : World) :
    Calls Try.prog 17 #[.int .i64 a, .int .i64 b, .int .i64 c, .int .i64 d] w fun e w' => e = .returned (.tuple #[.int .i64 (addT a b c d), .int .i64 (addB a b c d), .bool (addOk a b c d)]) ∧ Kept w w' := by
  by_cases h1 : partB a b = true <;> by_cases h2 : partB c d = true
  · have ⟨g1, g2, g3, g4⟩ := ad_bd h1 h2
    obtain ⟨q1, q2⟩ := part_mul h1 h2
    obtain ⟨q3, q4⟩ := part_mul h2 h1
    go_enter Try.func17, Try.ntmps17
    go_wp2_with (first | (go_at_call 60; refine (poPart_any _ _ _).mono ?_; rintro e w' ⟨rfl, rfl⟩) | (go_at_call 64; refine (poLowest_any _ _ _ (by omega) (by omega) (by omega) (by omega)).mono ?_; rintro e w1 ⟨rfl, hk⟩))
    all_goals
      go_ret3
      refine ⟨?_, hk⟩
      rename_i hh
      simp at hh
      simp [addT, addB, addOk, adT, adB, adN, adD, h1, h2, hh]
  all_goals
    simp only [Bool.not_eq_true] at *
    go_enter Try.func17, Try.ntmps17
    go_wp2_with ((go_at_call 60; refine (poPart_any _ _ _).mono ?_; rintro e w' ⟨rfl, rfl⟩))
    go_ret3
    exact ⟨by simp [addT, addB, addOk, h1, h2], Kept.refl _⟩
theorem implAdd_any (a b c d : Int) (w : World) :
    Calls Try.prog 16 #[.int .i64 a, .int .i64 b, .int .i64 c, .int .i64 d] w fun e w' => e = .returned (.tuple #[.int .i64 (addT a b c d), .int .i64 (addB a b c d), .bool (addOk a b c d)]) ∧ Kept w w' := by
  by_cases h1 : partB a b = true <;> by_cases h2 : partB c d = true
  · have ⟨g1, g2, g3, g4⟩ := ad_bd h1 h2
    obtain ⟨q1, q2⟩ := part_mul h1 h2
    obtain ⟨q3, q4⟩ := part_mul h2 h1
    go_enter Try.func16, Try.ntmps16
    go_wp2_with (first | (go_at_call 57; refine (isPart_any _ _ _).mono ?_; rintro e w' ⟨rfl, rfl⟩) | (go_at_call 63; refine (lowestTerms_any _ _ _ (by omega) (by omega) (by omega) (by omega)).mono ?_; rintro e w1 ⟨rfl, hk⟩))
    all_goals
      go_ret3
      refine ⟨?_, hk⟩
      rename_i hh
      simp at hh
      simp [addT, addB, addOk, adT, adB, adN, adD, h1, h2, hh]
  all_goals
    simp only [Bool.not_eq_true] at *
    go_enter Try.func16, Try.ntmps16
    go_wp2_with ((go_at_call 57; refine (isPart_any _ _ _).mono ?_; rintro e w' ⟨rfl, rfl⟩))
    go_ret3
    exact ⟨by simp [addT, addB, addOk, h1, h2], Kept.refl _⟩

theorem fdiv_of (a b : Int) (hb : 1 ≤ b) : a / b = if a.tmod b < 0 then a.tdiv b - 1 else a.tdiv b := by
  have h1 := Int.mul_tdiv_add_tmod a b
  have h2 : (a.tmod b) < b := Int.tmod_lt_of_pos a (by omega)
  have h3 : -b < a.tmod b := by
    have h := Int.tmod_lt_of_pos (-a) (show 0 < b by omega)
    rw [Int.neg_tmod] at h
    omega
  split
  · rw [Int.ediv_eq_iff_of_pos (by omega)]
    rw [Int.sub_mul]
    have := Int.mul_comm b (a.tdiv b)
    constructor <;> omega
  · rw [Int.ediv_eq_iff_of_pos (by omega)]
    have := Int.mul_comm b (a.tdiv b)
    constructor <;> omega
theorem tdiv_bd (a b A : Int) (h1 : -A ≤ a) (h2 : a ≤ A) : -A ≤ a.tdiv b ∧ a.tdiv b ≤ A := by
  have h3 : (a.tdiv b).natAbs = a.natAbs / b.natAbs := Int.natAbs_tdiv a b
  have h4 := Nat.div_le_self a.natAbs b.natAbs
  omega
theorem ediv_bd (a b A : Int) (hb : 1 ≤ b) (h1 : -A ≤ a) (h2 : a ≤ A) : -A - 1 ≤ a / b ∧ a / b ≤ A := by
  have h3 := fdiv_of a b hb
  have h4 := tdiv_bd a b A h1 h2
  split at h3 <;> omega
theorem poDown_any (a b : Int) (w : World) (h1 : -4611686018427387904 ≤ a) (h2 : a ≤ 4611686018427387904) (h3 : 1 ≤ b) (h4 : b ≤ 4611686018427387904) :
    Calls Try.prog 111 #[.int .i64 a, .int .i64 b] w fun e w' => e = .returned (.int .i64 (a / b)) ∧ w = w' := by
  have HF := Lib.hid (fdiv_of a b h3)
  obtain ⟨t1, t2⟩ := tdiv_bd a b 4611686018427387904 (by omega) h2
  have hne : (b == 0) = false := by simp; omega
  go_enter Try.func111, Try.ntmps111
  go_wp2
  all_goals
    go_ret
    exact ⟨ret_int (by rw [HF.out]; split <;> omega), rfl⟩
theorem floorDiv_any (a b : Int) (w : World) (h1 : -4611686018427387904 ≤ a) (h2 : a ≤ 4611686018427387904) (h3 : 1 ≤ b) (h4 : b ≤ 4611686018427387904) :
    Calls Try.prog 109 #[.int .i64 a, .int .i64 b] w fun e w' => e = .returned (.int .i64 (a / b)) ∧ w = w' := by
  have HF := Lib.hid (fdiv_of a b h3)
  obtain ⟨t1, t2⟩ := tdiv_bd a b 4611686018427387904 (by omega) h2
  have hne : (b == 0) = false := by simp; omega
  go_enter Try.func109, Try.ntmps109
  go_wp2
  all_goals
    go_ret
    exact ⟨ret_int (by rw [HF.out]; split <;> omega), rfl⟩
theorem poRound_any (a b : Int) (w : World) (h1 : -1000000000000000000 ≤ a) (h2 : a ≤ 1000000000000000000) (h3 : 1 ≤ b) (h4 : b ≤ 1000000000000000000) :
    Calls Try.prog 112 #[.int .i64 a, .int .i64 b] w fun e w' => e = .returned (.int .i64 ((2 * a + b) / (2 * b))) ∧ w = w' := by
  go_enter Try.func112, Try.ntmps112
  go_wp2_with (go_at_call 111; refine (poDown_any _ _ _ (by omega) (by omega) (by omega) (by omega)).mono ?_; rintro e w' ⟨rfl, rfl⟩)
  go_ret
  exact ⟨rfl, rfl⟩
theorem roundDiv_any (a b : Int) (w : World) (h1 : -1000000000000000000 ≤ a) (h2 : a ≤ 1000000000000000000) (h3 : 1 ≤ b) (h4 : b ≤ 1000000000000000000) :
    Calls Try.prog 110 #[.int .i64 a, .int .i64 b] w fun e w' => e = .returned (.int .i64 ((2 * a + b) / (2 * b))) ∧ w = w' := by
  go_enter Try.func110, Try.ntmps110
  go_wp2_with (go_at_call 109; refine (floorDiv_any _ _ _ (by omega) (by omega) (by omega) (by omega)).mono ?_; rintro e w' ⟨rfl, rfl⟩)
  go_ret
  exact ⟨rfl, rfl⟩
theorem poMode_any (a b mode : Int) (w : World) (h1 : -1000000000000000000 ≤ a) (h2 : a ≤ 1000000000000000000) (h3 : 1 ≤ b) (h4 : b ≤ 1000000000000000000) (h5 : inB mode (-1) 1 = true) :
    Calls Try.prog 62 #[.int .i64 a, .int .i64 b, .int .i64 mode] w fun e w' => e = .returned (.int .i64 (poMd a b mode)) ∧ w = w' := by
  have hm := inB_true h5
  obtain ⟨t1, t2⟩ := ediv_bd (-a) b 1000000000000000000 h3 (by omega) (by omega)
  have hc : mode = -1 ∨ mode = 0 ∨ mode = 1 := by omega
  rcases hc with rfl | rfl | rfl
  all_goals
    clear h5 hm
    go_enter Try.func62, Try.ntmps62
    go_wp2_with (first | (go_at_call 111; refine (poDown_any _ _ _ (by omega) (by omega) (by omega) (by omega)).mono ?_; rintro e w' ⟨rfl, rfl⟩) | (go_at_call 112; refine (poRound_any _ _ _ (by omega) (by omega) (by omega) (by omega)).mono ?_; rintro e w' ⟨rfl, rfl⟩))
    go_ret
    exact ⟨by simp [poMd], rfl⟩
theorem roundPart_any (a b mode : Int) (w : World) (h1 : -1000000000000000000 ≤ a) (h2 : a ≤ 1000000000000000000) (h3 : 1 ≤ b) (h4 : b ≤ 1000000000000000000) (h5 : inB mode (-1) 1 = true) :
    Calls Try.prog 59 #[.int .i64 a, .int .i64 b, .int .i64 mode] w fun e w' => e = .returned (.int .i64 (poMd a b mode)) ∧ w = w' := by
  have hm := inB_true h5
  obtain ⟨t1, t2⟩ := ediv_bd (-a) b 1000000000000000000 h3 (by omega) (by omega)
  have hc : mode = -1 ∨ mode = 0 ∨ mode = 1 := by omega
  rcases hc with rfl | rfl | rfl
  all_goals
    clear h5 hm
    go_enter Try.func59, Try.ntmps59
    go_wp2_with (first | (go_at_call 109; refine (floorDiv_any _ _ _ (by omega) (by omega) (by omega) (by omega)).mono ?_; rintro e w' ⟨rfl, rfl⟩) | (go_at_call 110; refine (roundDiv_any _ _ _ (by omega) (by omega) (by omega) (by omega)).mono ?_; rintro e w' ⟨rfl, rfl⟩))
    go_ret
    exact ⟨by simp [poMd], rfl⟩
theorem poIsMode_any (mode : Int) (w : World) :
    Calls Try.prog 61 #[.int .i64 mode] w fun e w' => e = .returned (.bool (inB mode (-1) 1)) ∧ w = w' := by
  go_enter Try.func61, Try.ntmps61
  go_wp2_with (go_at_call 84; refine (l1In_any _ _ _ _).mono ?_; rintro e w' ⟨rfl, rfl⟩)
  go_ret
  exact ⟨rfl, rfl⟩
theorem isMode_any (mode : Int) (w : World) :
    Calls Try.prog 58 #[.int .i64 mode] w fun e w' => e = .returned (.bool (inB mode (-1) 1)) ∧ w = w' := by
  go_enter Try.func58, Try.ntmps58
  go_wp2_with (go_at_call 81; refine (within_any _ _ _ _).mono ?_; rintro e w' ⟨rfl, rfl⟩)
  go_ret
  exact ⟨rfl, rfl⟩
def rndOk (a b mode : Int) : Bool := partB a b && inB mode (-1) 1
def rndV (a b mode : Int) : Int := if rndOk a b mode then poMd a b mode else 0
theorem specRound_any (a b mode : Int) (w : World) :
    Calls Try.prog 9 #[.int .i64 a, .int .i64 b, .int .i64 mode] w fun e w' => e = .returned (.tuple #[.int .i64 (rndV a b mode), .bool (rndOk a b mode)]) ∧ Kept w w' := by
  by_cases h1 : partB a b = true <;> by_cases h2 : inB mode (-1) 1 = true
  · have hb := partB_true h1
    go_enter Try.func9, Try.ntmps9
    go_wp2_with (first | (go_at_call 60; refine (poPart_any _ _ _).mono ?_; rintro e w' ⟨rfl, rfl⟩) | (go_at_call 61; refine (poIsMode_any _ _).mono ?_; rintro e w' ⟨rfl, rfl⟩) | (go_at_call 62; refine (poMode_any _ _ _ _ (by omega) (by omega) (by omega) (by omega) h2).mono ?_; rintro e w' ⟨rfl, rfl⟩))
    go_ret2
    exact ⟨by simp [rndV, rndOk, h1, h2], Kept.refl _⟩
  all_goals
    simp only [Bool.not_eq_true] at *
    go_enter Try.func9, Try.ntmps9
    go_wp2_with (first | (go_at_call 60; refine (poPart_any _ _ _).mono ?_; rintro e w' ⟨rfl, rfl⟩) | (go_at_call 61; refine (poIsMode_any _ _).mono ?_; rintro e w' ⟨rfl, rfl⟩))
    go_ret2
    exact ⟨by simp [rndV, rndOk, h1, h2], Kept.refl _⟩
theorem implRound_any (a b mode : Int) (w : World) :
    Calls Try.prog 8 #[.int .i64 a, .int .i64 b, .int .i64 mode] w fun e w' => e = .returned (.tuple #[.int .i64 (rndV a b mode), .bool (rndOk a b mode)]) ∧ Kept w w' := by
  by_cases h1 : partB a b = true <;> by_cases h2 : inB mode (-1) 1 = true
  · have hb := partB_true h1
    go_enter Try.func8, Try.ntmps8
    go_wp2_with (first | (go_at_call 57; refine (isPart_any _ _ _).mono ?_; rintro e w' ⟨rfl, rfl⟩) | (go_at_call 58; refine (isMode_any _ _).mono ?_; rintro e w' ⟨rfl, rfl⟩) | (go_at_call 59; refine (roundPart_any _ _ _ _ (by omega) (by omega) (by omega) (by omega) h2).mono ?_; rintro e w' ⟨rfl, rfl⟩))
    go_ret2
    exact ⟨by simp [rndV, rndOk, h1, h2], Kept.refl _⟩
  all_goals
    simp only [Bool.not_eq_true] at *
    go_enter Try.func8, Try.ntmps8
    go_wp2_with (first | (go_at_call 57; refine (isPart_any _ _ _).mono ?_; rintro e w' ⟨rfl, rfl⟩) | (go_at_call 58; refine (isMode_any _ _).mono ?_; rintro e w' ⟨rfl, rfl⟩))
    go_ret2
    exact ⟨by simp [rndV, rndOk, h1, h2], Kept.refl _⟩
end Go.Proofs.Ytfemfkmjfplcmaa

/- Contracts of chapter 1: lists of points. -/
namespace Go.Proofs.Ytfemfkmjfplcmaa
set_option linter.unusedVariables false
set_option linter.unusedSimpArgs false
open Go.RowKit
theorem sum_bd (zs : List Int) (M : Int) (hM : 0 ≤ M) (h : ∀ z ∈ zs, -M ≤ z ∧ z ≤ M) (k : Nat) : -((k : Int) * M) ≤ (zs.take k).sum ∧ (zs.take k).sum ≤ (k : Int) * M := by
  induction zs generalizing k with
  | nil =>
    have : 0 ≤ (k : Int) * M := Int.mul_nonneg (by omega) hM
    simp
    omega
  | cons z zs ih =>
    cases k with
    | zero => simp
    | succ k =>
      have h1 := h z (by simp)
      have h2 := ih (fun y hy => h y (by simp [hy])) k
      have h3 : ((k + 1 : Nat) : Int) * M = (k : Int) * M + M := by rw [Int.natCast_add, Int.add_mul]; simp
      rw [List.take_succ_cons, List.sum_cons, h3]
      omega
theorem poSum_any (v : Value) (zs : List Int) (w : World) (h : Ints w v zs) (hn : zs.length ≤ 60) (hp : zs.all (inB · (-1000000) 1000000) = true) :
    Calls Try.prog 72 #[v] w fun e w' => e = .returned (.int .i64 zs.sum) ∧ w = w' := by
  obtain ⟨A, c, rfl, hnc, hcm, hl⟩ := h.out
  unfold maxLen at hcm
  have HL := Lib.hid hl
  have HP := Lib.hid hp
  clear hl h hp
  go_enter Try.func72, Try.ntmps72
  go_wp2
  go_loop [3, 8] (fun s i => ∃ k : Nat, k ≤ zs.length ∧ i = .int .i64 k ∧ s = .int .i64 (zs.take k).sum) (fun _ i => zs.length - (intOf i).toNat)
  case atStart => exact ⟨0, Nat.zero_le _, rfl, rfl⟩
  case round =>
    obtain ⟨k, hk, rfl, rfl⟩ := hrel
    have hb1 := sum_bd zs 1000000 (by omega) (fun z hz => inB_true (List.all_eq_true.1 HP.out z hz)) k
    by_cases hlt : k < zs.length
    · obtain ⟨b, o, z, rfl, hb, hz, hc⟩ := ints_at HL.out hlt
      have hzb := inB_true (List.all_eq_true.1 HP.out z (List.mem_of_getElem? hz))
      have HZ := Lib.hid hz
      clear hz
      go_wp2
      go_round
      case rel => exact ⟨k + 1, by omega, by go_num, by rw [take_snoc HZ.out, List.sum_append]; simp⟩
      case measure => simp [intOf]; omega
    · go_wp2
      go_ret
      exact ⟨ret_int (by rw [List.take_of_length_le (by omega)]), rfl⟩
theorem sumInts_any (v : Value) (zs : List Int) (w : World) (h : Ints w v zs) (hn : zs.length ≤ 60) (hp : zs.all (inB · (-1000000) 1000000) = true) :
    Calls Try.prog 70 #[v] w fun e w' => e = .returned (.int .i64 zs.sum) ∧ w = w' := by
  obtain ⟨A, c, rfl, hnc, hcm, hl⟩ := h.out
  unfold maxLen at hcm
  have HL := Lib.hid hl
  have HP := Lib.hid hp
  clear hl h hp
  go_enter Try.func70, Try.ntmps70
  go_wp2
  go_loop [3, 8] (fun s i => ∃ k : Nat, k ≤ zs.length ∧ i = .int .i64 k ∧ s = .int .i64 (zs.take k).sum) (fun _ i => zs.length - (intOf i).toNat)
  case atStart => exact ⟨0, Nat.zero_le _, rfl, rfl⟩
  case round =>
    obtain ⟨k, hk, rfl, rfl⟩ := hrel
    have hb1 := sum_bd zs 1000000 (by omega) (fun z hz => inB_true (List.all_eq_true.1 HP.out z hz)) k
    by_cases hlt : k < zs.length
    · obtain ⟨b, o, z, rfl, hb, hz, hc⟩ := ints_at HL.out hlt
      have hzb := inB_true (List.all_eq_true.1 HP.out z (List.mem_of_getElem? hz))
      have HZ := Lib.hid hz
      clear hz
      go_wp2
      go_round
      case rel => exact ⟨k + 1, by omega, by go_num, by rw [take_snoc HZ.out, List.sum_append]; simp⟩
      case measure => simp [intOf]; omega
    · go_wp2
      go_ret
      exact ⟨ret_int (by rw [List.take_of_length_le (by omega)]), rfl⟩
theorem arePoints_any (v : Value) (zs : List Int) (w : World) (h : Ints w v zs) :
    Calls Try.prog 116 #[v] w fun e w' => e = .returned (.bool (zs.all (inB · (-1000000) 1000000))) ∧ w = w' := by
  have HI := Lib.hid h
  clear h
  go_enter Try.func116, Try.ntmps116
  go_wp2_with (go_at_call 119; refine (allWithin_any _ _ _ _ _ HI.out).mono ?_; rintro e w' ⟨rfl, rfl⟩)
  go_ret
  exact ⟨rfl, rfl⟩
theorem ints_one (w : World) (x : Int) (t : TypeId) : Ints (w.alloc (.cells #[.int .i64 x] t)) (.slice (some ⟨w.heap.size, 0, none⟩) 1 1) [x] :=
  ⟨_, 1, rfl, Nat.le_refl _, by decide, (fun h => by cases h), fun _ => ⟨w.heap.size, 0, rfl, by simp, fun j u hu => by
    have hj : j = 0 := by
      have := (List.getElem?_eq_some_iff.1 hu).1
      simpa using this
    subst hj
    simp at hu
    subst hu
    simp⟩⟩
theorem ints_new (w : World) (b : Nat) (hb : b = w.heap.size) (x : Int) (t : TypeId) : Ints (w.alloc (.cells #[.int .i64 x] t)) (.slice (some ⟨b, 0, none⟩) 1 1) [x] := by
  subst hb
  exact ints_one w x t
def ptsB (zs : List Int) : Bool := decide (zs.length ≤ 60) && zs.all (inB · (-1000000) 1000000)
theorem ptsB_true {zs : List Int} (h : ptsB zs = true) : zs.length ≤ 60 ∧ zs.all (inB · (-1000000) 1000000) = true := by
  unfold ptsB at h
  rw [Bool.and_eq_true] at h
  exact ⟨by simpa using h.1, h.2⟩
theorem poList_any (v : Value) (zs : List Int) (w : World) (h : Ints w v zs) :
    Calls Try.prog 71 #[v] w fun e w' => e = .returned (.bool (ptsB zs)) ∧ w = w' := by
  have h0 := h
  obtain ⟨A, c, rfl, hnc, hcm, _⟩ := h0.out
  unfold maxLen at hcm
  have HI := Lib.hid h
  clear h h0
  go_enter Try.func71, Try.ntmps71
  go_wp2_with (go_at_call 117; refine (l1All_any _ _ _ _ _ HI.out).mono ?_; rintro e w' ⟨rfl, rfl⟩)
  all_goals
    go_ret
    exact ⟨ret_bool (by simp [ptsB]; omega), rfl⟩
theorem isPointsList_any (v : Value) (zs : List Int) (w : World) (h : Ints w v zs) :
    Calls Try.prog 69 #[v] w fun e w' => e = .returned (.bool (ptsB zs)) ∧ w = w' := by
  have h0 := h
  obtain ⟨A, c, rfl, hnc, hcm, _⟩ := h0.out
  unfold maxLen at hcm
  have HI := Lib.hid h
  clear h h0
  go_enter Try.func69, Try.ntmps69
  go_wp2_with (go_at_call 116; refine (arePoints_any _ _ _ HI.out).mono ?_; rintro e w' ⟨rfl, rfl⟩)
  all_goals
    go_ret
    exact ⟨ret_bool (by simp [ptsB]; omega), rfl⟩
end Go.Proofs.Ytfemfkmjfplcmaa

/- Contracts of chapter 1: sums, places and means of lists of points, percents. -/
namespace Go.Proofs.Ytfemfkmjfplcmaa
set_option linter.unusedVariables false
set_option linter.unusedSimpArgs false
open Go.RowKit

def sumOk (zs : List Int) : Bool := ptsB zs && inB zs.sum (-1000000) 1000000
def sumV (zs : List Int) : Int := if sumOk zs then zs.sum else 0
theorem pts_sum_bd {zs : List Int} (h : ptsB zs = true) : -60000000 ≤ zs.sum ∧ zs.sum ≤ 60000000 := by
  obtain ⟨h1, h2⟩ := ptsB_true h
  have := sum_bd zs 1000000 (by omega) (fun z hz => inB_true (List.all_eq_true.1 h2 z hz)) zs.length
  rw [List.take_of_length_le (Nat.le_refl _)] at this
  omega
def place (zs : List Int) (n : Int) : Int := 1 + ((zs.filter fun x => decide (n < x)).length : Int)
theorem place_snoc {zs : List Int} {k : Nat} {z n : Int} (h : zs[k]? = some z) : place (zs.take (k + 1)) n = place (zs.take k) n + if n < z then 1 else 0 := by
  unfold place
  rw [take_snoc h, List.filter_append]
  by_cases hz : n < z <;> simp [List.filter_cons, hz]; omega
theorem place_bd (zs : List Int) (n : Int) (k : Nat) : 1 ≤ place (zs.take k) n ∧ place (zs.take k) n ≤ 1 + (k : Int) := by
  unfold place
  have h1 := List.length_filter_le (fun x => decide (n < x)) (zs.take k)
  have h2 := List.length_take_le k zs
  omega
def placeOk (zs : List Int) (n : Int) : Bool := ptsB zs && inB n (-1000000) 1000000
def placeV (zs : List Int) (n : Int) : Int := if placeOk zs n then place zs n else 0
def meanOk (zs : List Int) : Bool := ptsB zs && !(zs.length == 0)
def meanT (zs : List Int) : Int := if meanOk zs then zs.sum.tdiv (Int.gcd zs.sum zs.length) else 0
def meanB (zs : List Int) : Int := if meanOk zs then (zs.length : Int) / (Int.gcd zs.sum zs.length) else 0
theorem specMean_any (v : Value) (zs : List Int) (w : World) (h : Ints w v zs) :
    Calls Try.prog 20 #[v] w fun e w' => e = .returned (.tuple #[.int .i64 (meanT zs), .int .i64 (meanB zs), .bool (meanOk zs)]) ∧ Kept w w' := by
  have h0 := h
  obtain ⟨A, c, rfl, hnc, hcm, _⟩ := h0.out
  unfold maxLen at hcm
  have HI := Lib.hid h
  clear h h0
  by_cases h1 : ptsB zs = true <;> by_cases h2 : zs.length = 0
  · have hz : ((zs.length : Int) == 0) = true := by simp [h2]
    have H2 := Lib.hid h2
    clear h2
    go_enter Try.func20, Try.ntmps20
    go_wp2_with (first | (go_at_call 71; refine (poList_any _ _ _ HI.out).mono ?_; rintro e w' ⟨rfl, rfl⟩))
    go_ret3
    exact ⟨by simp [meanT, meanB, meanOk, h1, H2.out], Kept.refl _⟩
  · obtain ⟨q1, q2⟩ := ptsB_true h1
    obtain ⟨q3, q4⟩ := pts_sum_bd h1
    have HQ := Lib.hid q2
    have hz : ((zs.length : Int) == 0) = false := beq_eq_false_iff_ne.2 (by omega)
    have H2 := Lib.hid h2
    have hpos : 1 ≤ (zs.length : Int) := by omega
    clear q2 h2
    go_enter Try.func20, Try.ntmps20
    go_wp2_with (first | (go_at_call 71; refine (poList_any _ _ _ HI.out).mono ?_; rintro e w' ⟨rfl, rfl⟩) | (go_at_call 72; refine (poSum_any _ _ _ HI.out q1 HQ.out).mono ?_; rintro e w' ⟨rfl, rfl⟩) | (go_at_call 64; refine (poLowest_any _ _ _ (by omega) (by omega) (by omega) (by omega)).mono ?_; rintro e w1 ⟨rfl, hk⟩))
    go_ret3
    exact ⟨by simp [meanT, meanB, meanOk, h1, H2.out], hk⟩
  all_goals
    have H2 := Lib.hid h2
    clear h2
    simp only [Bool.not_eq_true] at h1
    go_enter Try.func20, Try.ntmps20
    go_wp2_with (first | (go_at_call 71; refine (poList_any _ _ _ HI.out).mono ?_; rintro e w' ⟨rfl, rfl⟩))
    go_ret3
    exact ⟨by simp [meanT, meanB, meanOk, h1], Kept.refl _⟩
theorem implMean_any (v : Value) (zs : List Int) (w : World) (h : Ints w v zs) :
    Calls Try.prog 19 #[v] w fun e w' => e = .returned (.tuple #[.int .i64 (meanT zs), .int .i64 (meanB zs), .bool (meanOk zs)]) ∧ Kept w w' := by
  have h0 := h
  obtain ⟨A, c, rfl, hnc, hcm, _⟩ := h0.out
  unfold maxLen at hcm
  have HI := Lib.hid h
  clear h h0
  by_cases h1 : ptsB zs = true <;> by_cases h2 : zs.length = 0
  · have hz : ((zs.length : Int) == 0) = true := by simp [h2]
    have H2 := Lib.hid h2
    clear h2
    go_enter Try.func19, Try.ntmps19
    go_wp2_with (first | (go_at_call 69; refine (isPointsList_any _ _ _ HI.out).mono ?_; rintro e w' ⟨rfl, rfl⟩))
    go_ret3
    exact ⟨by simp [meanT, meanB, meanOk, h1, H2.out], Kept.refl _⟩
  · obtain ⟨q1, q2⟩ := ptsB_true h1
    obtain ⟨q3, q4⟩ := pts_sum_bd h1
    have HQ := Lib.hid q2
    have hz : ((zs.length : Int) == 0) = false := beq_eq_false_iff_ne.2 (by omega)
    have H2 := Lib.hid h2
    have hpos : 1 ≤ (zs.length : Int) := by omega
    clear q2 h2
    go_enter Try.func19, Try.ntmps19
    go_wp2_with (first | (go_at_call 69; refine (isPointsList_any _ _ _ HI.out).mono ?_; rintro e w' ⟨rfl, rfl⟩) | (go_at_call 70; refine (sumInts_any _ _ _ HI.out q1 HQ.out).mono ?_; rintro e w' ⟨rfl, rfl⟩) | (go_at_call 63; refine (lowestTerms_any _ _ _ (by omega) (by omega) (by omega) (by omega)).mono ?_; rintro e w1 ⟨rfl, hk⟩))
    go_ret3
    exact ⟨by simp [meanT, meanB, meanOk, h1, H2.out], hk⟩
  all_goals
    have H2 := Lib.hid h2
    clear h2
    simp only [Bool.not_eq_true] at h1
    go_enter Try.func19, Try.ntmps19
    go_wp2_with (first | (go_at_call 69; refine (isPointsList_any _ _ _ HI.out).mono ?_; rintro e w' ⟨rfl, rfl⟩))
    go_ret3
    exact ⟨by simp [meanT, meanB, meanOk, h1], Kept.refl _⟩
end Go.Proofs.Ytfemfkmjfplcmaa

/- Fractions, plain: what the law FnParts asks of them. -/
namespace Go.Proofs.Ytfemfkmjfplcmaa
set_option linter.unusedVariables false
set_option linter.unusedSimpArgs false

theorem rnd_modes {a b c : Int} (h : rndOk a b c = true) : rndOk a b (-1) = true ∧ rndOk a b 1 = true ∧ partB a b = true := by
  unfold rndOk at h ⊢
  rw [Bool.and_eq_true] at h
  rw [h.1]
  exact ⟨by decide, by decide, rfl⟩
theorem rnd_facts {a b c : Int} (h : rndOk a b c = true) : rndV a b (-1) * b ≤ a ∧ a ≤ rndV a b 1 * b ∧ rndV a b 1 - rndV a b (-1) ≤ 1 ∧ rndV a b (-1) ≤ rndV a b c ∧ rndV a b c ≤ rndV a b 1 := by
  obtain ⟨h1, h2, hp⟩ := rnd_modes h
  obtain ⟨ha0, ha1, hb0, hb1⟩ := partB_true hp
  have hm : inB c (-1) 1 = true := by unfold rndOk at h; rw [Bool.and_eq_true] at h; exact h.2
  have hc := inB_true hm
  have e1 : rndV a b (-1) = a / b := by unfold rndV; rw [if_pos h1]; unfold poMd; rw [if_pos rfl]
  have e2 : rndV a b 1 = -(-a / b) := by unfold rndV; rw [if_pos h2]; unfold poMd; rw [if_neg (by decide), if_neg (by decide)]
  have e3 : rndV a b c = poMd a b c := by unfold rndV; rw [if_pos h]
  rw [e1, e2, e3]
  clear e1 e2 e3
  have q1 := Int.ediv_mul_le a (b := b) (by omega)
  have q2 := Int.lt_ediv_add_one_mul_self a (b := b) (by omega)
  have r1 := Int.ediv_mul_le (-a) (b := b) (by omega)
  have r2 := Int.lt_ediv_add_one_mul_self (-a) (b := b) (by omega)
  have p1 := Int.ediv_mul_le (2 * a + b) (b := 2 * b) (by omega)
  have p2 := Int.lt_ediv_add_one_mul_self (2 * a + b) (b := 2 * b) (by omega)
  unfold poMd
  generalize a / b = q at *
  generalize (2 * a + b) / (2 * b) = p at *
  generalize -a / b = r at *
  have e1 : (q + 1) * b = q * b + b := by rw [Int.add_mul, Int.one_mul]
  have e2 : (r + 1) * b = r * b + b := by rw [Int.add_mul, Int.one_mul]
  have e3 : p * (2 * b) = 2 * (p * b) := by rw [Int.mul_left_comm]
  have e4 : (p + 1) * (2 * b) = 2 * (p * b) + 2 * b := by rw [Int.add_mul, Int.one_mul, e3]
  have e5 : -r * b = -(r * b) := by rw [Int.neg_mul]
  rw [e1] at q2
  rw [e2] at r2
  rw [e3] at p1
  rw [e4] at p2
  have cmp : ∀ {x y : Int}, x * b < y * b + b → x ≤ y := fun {x y} hh => by
    have h3 : x * b < (y + 1) * b := by rw [Int.add_mul, Int.one_mul]; exact hh
    have := Int.lt_of_mul_lt_mul_right h3 (by omega)
    omega
  have k1 : -r ≤ q + 1 := cmp (by rw [e5, e1]; omega)
  have k2 : q ≤ p := cmp (by omega)
  have k3 : p ≤ -r := cmp (by rw [e5]; omega)
  have k4 : q ≤ -r := by omega
  refine ⟨q1, by rw [e5]; omega, by omega, ?_, ?_⟩
  · split
    · exact Int.le_refl _
    · split
      · exact k2
      · exact k4
  · split
    · exact k4
    · split
      · exact k3
      · exact Int.le_refl _
theorem rnd_bd {a b c : Int} (h : rndOk a b c = true) : -1000000000001 ≤ rndV a b c ∧ rndV a b c ≤ 1000000000001 := by
  obtain ⟨h1, h2, hp⟩ := rnd_modes h
  obtain ⟨ha0, ha1, hb0, hb1⟩ := partB_true hp
  obtain ⟨f1, f2, f3, f4, f5⟩ := rnd_facts h
  have e1 : rndV a b (-1) = a / b := by unfold rndV; rw [if_pos h1]; unfold poMd; rw [if_pos rfl]
  have l1 : -1000000000000 ≤ a / b := by
    refine Int.le_ediv_of_mul_le (by omega) ?_
    omega
  have l2 : a / b ≤ 1000000000000 := by
    have q1 := Int.ediv_mul_le a (b := b) (by omega)
    rcases Int.le_total (a / b) 0 with hh | hh
    · omega
    · have := Int.mul_le_mul_of_nonneg_left (show (1 : Int) ≤ b by omega) hh
      omega
  omega
theorem low_facts {c d : Int} (h : partB c d = true) : partB (lowT c d) (lowB c d) = true ∧ cmpV c d (lowT c d) (lowB c d) = 0 := by
  obtain ⟨hc0, hc1, hd0, hd1⟩ := partB_true h
  have hgp := gcd_pos (a := c) (b := d) hd0
  obtain ⟨x, hx⟩ := Int.gcd_dvd_left (a := c) (b := d)
  obtain ⟨y, hy⟩ := Int.gcd_dvd_right (a := c) (b := d)
  have e0 : lowT c d = c.tdiv (Int.gcd c d) ∧ lowB c d = d / (Int.gcd c d) := by unfold lowT lowB; rw [if_pos h, if_pos h]; exact ⟨rfl, rfl⟩
  rw [e0.1, e0.2]
  clear e0
  have hb := tdiv_bd c (Int.gcd c d) 1000000000000 hc0 hc1
  obtain ⟨g, hg⟩ : ∃ g : Int, g = (Int.gcd c d : Int) := ⟨_, rfl⟩
  have hg1 : 1 ≤ g := by omega
  rw [← hg] at hx hy hb ⊢
  clear hg hgp
  have e1 : c.tdiv g = x := by rw [hx]; exact Int.mul_tdiv_cancel_left x (by omega)
  have e2 : d / g = y := by rw [hy]; exact Int.mul_ediv_cancel_left y (by omega)
  rw [e1] at hb ⊢
  rw [e2]
  have hy1 : 1 ≤ y := by
    rcases Int.lt_or_le 0 y with h0 | h0
    · omega
    · have := Int.mul_nonneg (show (0 : Int) ≤ g by omega) (show (0 : Int) ≤ -y by omega)
      rw [Int.mul_neg] at this
      omega
  have hy2 : y ≤ d := by
    have := Int.mul_nonneg (show (0 : Int) ≤ g - 1 by omega) (show (0 : Int) ≤ y by omega)
    rw [Int.sub_mul, Int.one_mul] at this
    omega
  have hp : partB x y = true := by
    unfold partB inB
    simp
    omega
  refine ⟨hp, ?_⟩
  unfold cmpV
  rw [h, hp]
  simp only [Bool.and_self, if_true]
  have : c * y - x * d = 0 := by
    rw [hx, hy, Int.mul_assoc g x y, Int.mul_left_comm x g y, Int.sub_self]
  rw [this]
  rfl
theorem cmp_back (a b c d : Int) : cmpV c d a b = -cmpV a b c d ∧ (partB c d && partB a b) = (partB a b && partB c d) := by
  refine ⟨?_, Bool.and_comm _ _⟩
  unfold cmpV
  rw [Bool.and_comm (partB c d)]
  cases partB a b && partB c d with
  | false => rfl
  | true =>
    simp only [if_true]
    unfold sgn
    have : c * b - a * d = -(a * d - c * b) := by omega
    rw [this]
    generalize a * d - c * b = n
    by_cases h1 : 0 < n
    · rw [if_pos h1, if_neg (by omega), if_pos (by omega)]
    · by_cases h2 : n < 0
      · rw [if_neg h1, if_pos h2, if_pos (by omega)]; rfl
      · rw [if_neg h1, if_neg h2, if_neg (by omega), if_neg (by omega)]; rfl
theorem cmp_bd (a b c d : Int) : -1 ≤ cmpV a b c d ∧ cmpV a b c d ≤ 1 := by
  unfold cmpV
  split
  · unfold sgn
    split
    · omega
    · split <;> omega
  · omega
/-- the least and the greatest of the first k numbers (and of the first one) -/
def lowN (zs : List Int) (k : Nat) : Int := (zs.take k).foldl (fun l n => if n < l then n else l) (zs.headD 0)
def highN (zs : List Int) (k : Nat) : Int := (zs.take k).foldl (fun l n => if n > l then n else l) (zs.headD 0)
theorem lowN_succ {zs : List Int} {k : Nat} {z : Int} (h : zs[k]? = some z) : lowN zs (k + 1) = if z < lowN zs k then z else lowN zs k := by unfold lowN; rw [take_snoc h, List.foldl_append]; rfl
theorem highN_succ {zs : List Int} {k : Nat} {z : Int} (h : zs[k]? = some z) : highN zs (k + 1) = if z > highN zs k then z else highN zs k := by unfold highN; rw [take_snoc h, List.foldl_append]; rfl
theorem low_sum {zs : List Int} : ∀ k, k ≤ zs.length → lowN zs k * k ≤ (zs.take k).sum ∧ (zs.take k).sum ≤ highN zs k * k
  | 0, _ => by simp
  | k + 1, hk => by
    obtain ⟨i1, i2⟩ := low_sum (zs := zs) k (by omega)
    have hz : zs[k]? = some zs[k] := List.getElem?_eq_getElem (by omega)
    rw [lowN_succ hz, highN_succ hz, take_snoc hz, List.sum_append, List.sum_cons, List.sum_nil]
    generalize zs[k] = z at *
    generalize (zs.take k).sum = s at *
    generalize lowN zs k = l at *
    generalize highN zs k = u at *
    have hk0 : (0 : Int) ≤ (k : Int) := by omega
    rw [Int.natCast_succ, Int.mul_add, Int.mul_add, Int.mul_one, Int.mul_one]
    constructor
    · split
      · have := Int.mul_le_mul_of_nonneg_right (show z ≤ l by omega) hk0
        omega
      · omega
    · split
      · have := Int.mul_le_mul_of_nonneg_right (show u ≤ z by omega) hk0
        omega
      · omega
theorem low_bd {zs : List Int} (h : ∀ n ∈ zs, -1000000 ≤ n ∧ n ≤ 1000000) : ∀ k, k ≤ zs.length → (-1000000 ≤ lowN zs k ∧ lowN zs k ≤ 1000000) ∧ (-1000000 ≤ highN zs k ∧ highN zs k ≤ 1000000)
  | 0, _ => by
    unfold lowN highN
    cases zs with
    | nil => simp
    | cons a t => have := h a (by simp); simp; omega
  | k + 1, hk => by
    obtain ⟨i1, i2⟩ := low_bd h k (by omega)
    have hz : zs[k]? = some zs[k] := List.getElem?_eq_getElem (by omega)
    have := h zs[k] (List.getElem_mem _)
    rw [lowN_succ hz, highN_succ hz]
    constructor
    · split <;> omega
    · split <;> omega
theorem pts_bd {zs : List Int} (h : ptsB zs = true) : zs.length ≤ 60 ∧ ∀ n ∈ zs, -1000000 ≤ n ∧ n ≤ 1000000 := by
  obtain ⟨h1, h2⟩ := ptsB_true h
  exact ⟨h1, fun n hn => inB_true (List.all_eq_true.1 h2 n hn)⟩
/-- the mean: what the law asks at the end -/
theorem mean_facts {zs : List Int} (h : meanOk zs = true) : ptsB zs = true ∧ 0 < zs.length ∧ meanT zs * zs.length = zs.sum * meanB zs ∧ lowN zs zs.length * meanB zs ≤ meanT zs ∧ meanT zs ≤ highN zs zs.length * meanB zs ∧
    (-60000000 ≤ meanT zs ∧ meanT zs ≤ 60000000) ∧ 1 ≤ meanB zs ∧ meanB zs ≤ 60 ∧ -60000000 ≤ zs.sum ∧ zs.sum ≤ 60000000 := by
  have h0 := h
  unfold meanOk at h0
  simp only [Bool.and_eq_true, Bool.not_eq_true', beq_eq_false_iff_ne] at h0
  obtain ⟨hp, hne⟩ := h0
  have hn : 0 < zs.length := by omega
  obtain ⟨hl60, hb⟩ := pts_bd hp
  have hsb := low_sum (zs := zs) zs.length (Nat.le_refl _)
  have hlb := low_bd hb zs.length (Nat.le_refl _)
  rw [List.take_length] at hsb
  have hd0 : (1 : Int) ≤ (zs.length : Int) := by omega
  have hgp := gcd_pos (a := zs.sum) (b := (zs.length : Int)) hd0
  obtain ⟨x, hx⟩ := Int.gcd_dvd_left (a := zs.sum) (b := (zs.length : Int))
  obtain ⟨y, hy⟩ := Int.gcd_dvd_right (a := zs.sum) (b := (zs.length : Int))
  have e0 : meanT zs = zs.sum.tdiv (Int.gcd zs.sum zs.length) ∧ meanB zs = (zs.length : Int) / (Int.gcd zs.sum zs.length) := by unfold meanT meanB; rw [if_pos h, if_pos h]; exact ⟨rfl, rfl⟩
  rw [e0.1, e0.2]
  clear e0
  have hS : -60000000 ≤ zs.sum ∧ zs.sum ≤ 60000000 := by
    have h1 := Int.mul_le_mul_of_nonneg_right hlb.1.1 (show (0 : Int) ≤ (zs.length : Int) by omega)
    have h2 := Int.mul_le_mul_of_nonneg_right hlb.2.2 (show (0 : Int) ≤ (zs.length : Int) by omega)
    have h3 : (zs.length : Int) ≤ 60 := by omega
    omega
  have hbd := tdiv_bd zs.sum (Int.gcd zs.sum zs.length) 60000000 hS.1 hS.2
  obtain ⟨g, hg⟩ : ∃ g : Int, g = (Int.gcd zs.sum zs.length : Int) := ⟨_, rfl⟩
  have hg1 : 1 ≤ g := by omega
  rw [← hg] at hx hy hbd ⊢
  clear hg hgp
  have e1 : zs.sum.tdiv g = x := by rw [hx]; exact Int.mul_tdiv_cancel_left x (by omega)
  have e2 : (zs.length : Int) / g = y := by rw [hy]; exact Int.mul_ediv_cancel_left y (by omega)
  rw [e1] at hbd ⊢
  rw [e2]
  have hy1 : 1 ≤ y := by
    rcases Int.lt_or_le 0 y with h0 | h0
    · omega
    · have := Int.mul_nonneg (show (0 : Int) ≤ g by omega) (show (0 : Int) ≤ -y by omega)
      rw [Int.mul_neg] at this
      omega
  have hy2 : y ≤ (zs.length : Int) := by
    have := Int.mul_nonneg (show (0 : Int) ≤ g - 1 by omega) (show (0 : Int) ≤ y by omega)
    rw [Int.sub_mul, Int.one_mul] at this
    omega
  obtain ⟨s1, s2⟩ := hsb
  generalize lowN zs zs.length = l at *
  generalize highN zs zs.length = u at *
  have cancel : ∀ {p q : Int}, g * p ≤ g * q → p ≤ q := fun {p q} hh => Int.le_of_mul_le_mul_left hh (by omega)
  refine ⟨hp, hn, ?_, ?_, ?_, hbd, hy1, by omega, hS.1, hS.2⟩
  · rw [hy, hx, Int.mul_left_comm x g y, Int.mul_assoc g x y]
  · apply cancel
    rw [Int.mul_left_comm, ← hy, ← hx]
    exact s1
  · apply cancel
    rw [Int.mul_left_comm, ← hy, ← hx]
    exact s2
end Go.Proofs.Ytfemfkmjfplcmaa
