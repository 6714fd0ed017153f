/- Contracts of chapter 1: lowest terms, sums of fractions, rounding. -/
import Derived.Test.YthlefmkimbefnaaA
namespace Go.Proofs.Ythlefmkimbefnaa
open Go.RowKit

theorem l1Most_any (a b : Int) (w : World) :
    Calls Try.prog 82 #[.int .i64 a, .int .i64 b] w fun e w' => e = .returned (.int .i64 (max a b)) ∧ w = w' := by
  go_enter Try.func82, Try.ntmps82
  go_wp2
  all_goals
    go_ret
    exact ⟨ret_int (by omega), rfl⟩
theorem l1Abs_any (a : Int) (w : World) (h1 : -9223372036854775807 ≤ a) (h2 : a ≤ 9223372036854775807) :
    Calls Try.prog 69 #[.int .i64 a] w fun e w' => e = .returned (.int .i64 (a.natAbs : Int)) ∧ w = w' := by
  go_enter Try.func69, Try.ntmps69
  go_wp2_with (go_at_call 82; refine (l1Most_any _ _ _).mono ?_; rintro e w' ⟨rfl, rfl⟩)
  go_ret
  exact ⟨ret_int (by omega), rfl⟩

theorem gcd_step (m k : Nat) : Nat.gcd k (m % k) = Nat.gcd m k := by rw [Nat.gcd_comm k, ← Nat.gcd_rec, Nat.gcd_comm]
/-- the greatest common divisor by the loop of the reference -/
theorem poLowest_any (a b : Int) (w : World) (h1 : -4611686018427387904 ≤ a) (h2 : a ≤ 4611686018427387904) (h3 : 1 ≤ b) (h4 : b ≤ 4611686018427387904) :
    Calls Try.prog 46 #[.int .i64 a, .int .i64 b] w fun e w' => e = .returned (.tuple #[.int .i64 (a.tdiv (Int.gcd a b)), .int .i64 (b / (Int.gcd a b))]) ∧ Kept w w' := by
  go_enter Try.func46, Try.ntmps46
  go_wp2_with (go_at_call 69; refine (l1Abs_any _ _ (by omega) (by omega)).mono ?_; rintro e w' ⟨rfl, rfl⟩)
  go_loop [6, 7, 8] (fun x y r => ∃ m k : Nat, x = .int .i64 m ∧ y = .int .i64 k ∧ m ≤ 4611686018427387904 ∧ k ≤ 4611686018427387904 ∧ 0 < m + k ∧ Nat.gcd m k = Int.gcd a b) (fun _ y _ => (intOf y).toNat)
  case atStart => exact ⟨a.natAbs, b.natAbs, rfl, by congr 1; omega, by omega, by omega, by omega, rfl⟩
  case round =>
    obtain ⟨m, k, rfl, rfl, hm, hk, hmk, hg⟩ := hrel
    by_cases hk0 : 0 < k
    · have hlt : m % k < k := Nat.mod_lt _ hk0
      have HG := Lib.hid hg
      clear hg
      go_wp2
      go_round
      case rel => exact ⟨k, m % k, rfl, by go_num, by omega, by omega, by omega, by rw [gcd_step]; exact HG.out⟩
      case measure => simp [intOf]; omega
    · obtain rfl : k = 0 := by omega
      have hm0 : 1 ≤ (m : Int) := by omega
      rw [Nat.gcd_zero_right] at hg
      have HG := Lib.hid hg
      clear hg
      have hne : ((m : Int) == 0) = false := by simp; omega
      go_wp2
      go_quiet (fail)
      go_wp2
      go_ret2
      exact ⟨by rw [← HG.out]; rfl, (Kept.refl _).drewN _⟩
theorem gcdOf_any (a b : Int) (w : World) (h1 : -4611686018427387904 ≤ a) (h2 : a ≤ 4611686018427387904) (h3 : 1 ≤ b) (h4 : b ≤ 4611686018427387904) :
    Calls Try.prog 70 #[.int .i64 a, .int .i64 b] w fun e w' => e = .returned (.int .i64 (Int.gcd a b)) ∧ Kept w w' := by
  go_enter Try.func70, Try.ntmps70
  go_wp2
  all_goals
    go_loopw [0, 1] (fun x y wr => ∃ m k : Nat, x = .int .i64 m ∧ y = .int .i64 k ∧ m ≤ 4611686018427387904 ∧ k ≤ 4611686018427387904 ∧ Nat.gcd m k = Int.gcd a b ∧ Kept w wr) (fun _ y _ => (intOf y).toNat)
    case atStart => exact ⟨a.natAbs, b.natAbs, by congr 1; omega, by congr 1; omega, by omega, by omega, rfl, Kept.refl _⟩
    case round =>
      obtain ⟨m, k, rfl, rfl, hm, hk, hg, hkept⟩ := hrel
      by_cases hk0 : 0 < k
      · have hlt : m % k < k := Nat.mod_lt _ hk0
        have HG := Lib.hid hg
        have hne : ((k : Int) != 0) = true := by simp; omega
        have hne' : ((k : Int) == 0) = false := by simp; omega
        clear hg
        go_wp2
        go_quiet (fail)
        go_wp2
        go_roundw
        case rel => exact ⟨k, m % k, rfl, by go_num, by omega, by omega, by rw [gcd_step]; exact HG.out, hkept.drewN _⟩
        case measure => simp [intOf]; omega
      · obtain rfl : k = 0 := by omega
        rw [Nat.gcd_zero_right] at hg
        have HG := Lib.hid hg
        clear hg
        go_wp2
        go_ret
        exact ⟨by rw [← HG.out]; rfl, hkept⟩
theorem gcd_pos {a b : Int} (h : 1 ≤ b) : 1 ≤ Int.gcd a b := by
  have : Int.gcd a b ≠ 0 := by
    intro h0
    rw [Int.gcd_eq_zero_iff] at h0
    omega
  omega
theorem lowestTerms_any (a b : Int) (w : World) (h1 : -4611686018427387904 ≤ a) (h2 : a ≤ 4611686018427387904) (h3 : 1 ≤ b) (h4 : b ≤ 4611686018427387904) :
    Calls Try.prog 47 #[.int .i64 a, .int .i64 b] w fun e w' => e = .returned (.tuple #[.int .i64 (a.tdiv (Int.gcd a b)), .int .i64 (b / (Int.gcd a b))]) ∧ Kept w w' := by
  have hg := gcd_pos (a := a) h3
  go_enter Try.func47, Try.ntmps47
  go_wp2_with (go_at_call 70; refine (gcdOf_any _ _ _ (by omega) (by omega) (by omega) (by omega)).mono ?_; rintro e w1 ⟨rfl, hk⟩)
  generalize hgd : Int.gcd a b = g at *
  have HG := Lib.hid hgd
  clear hgd
  have hne : ((g : Int) == 0) = false := by simp; omega
  go_quiet (fail)
  go_wp2
  go_ret2
  exact ⟨by rw [HG.out]; rfl, hk.drewN _⟩
def lowT (a b : Int) : Int := if partB a b then a.tdiv (Int.gcd a b) else 0
def lowB (a b : Int) : Int := if partB a b then b / (Int.gcd a b) else 0
theorem specLowest_any (a b : Int) (w : World) :
    Calls Try.prog 16 #[.int .i64 a, .int .i64 b] w fun e w' => e = .returned (.tuple #[.int .i64 (lowT a b), .int .i64 (lowB a b), .bool (partB a b)]) ∧ Kept w w' := by
  by_cases h1 : partB a b = true
  · have hb := partB_true h1
    go_enter Try.func16, Try.ntmps16
    go_wp2_with (first | (go_at_call 42; refine (poPart_any _ _ _).mono ?_; rintro e w' ⟨rfl, rfl⟩) | (go_at_call 46; refine (poLowest_any _ _ _ (by omega) (by omega) (by omega) (by omega)).mono ?_; rintro e w1 ⟨rfl, hk⟩))
    go_ret3
    exact ⟨by simp [lowT, lowB, h1], hk⟩
  · simp only [Bool.not_eq_true] at *
    go_enter Try.func16, Try.ntmps16
    go_wp2_with ((go_at_call 42; refine (poPart_any _ _ _).mono ?_; rintro e w' ⟨rfl, rfl⟩))
    go_ret3
    exact ⟨by simp [lowT, lowB, h1], Kept.refl _⟩
theorem implLowest_any (a b : Int) (w : World) :
    Calls Try.prog 17 #[.int .i64 a, .int .i64 b] w fun e w' => e = .returned (.tuple #[.int .i64 (lowT a b), .int .i64 (lowB a b), .bool (partB a b)]) ∧ Kept w w' := by
  by_cases h1 : partB a b = true
  · have hb := partB_true h1
    go_enter Try.func17, Try.ntmps17
    go_wp2_with (first | (go_at_call 44; refine (isPart_any _ _ _).mono ?_; rintro e w' ⟨rfl, rfl⟩) | (go_at_call 47; refine (lowestTerms_any _ _ _ (by omega) (by omega) (by omega) (by omega)).mono ?_; rintro e w1 ⟨rfl, hk⟩))
    go_ret3
    exact ⟨by simp [lowT, lowB, h1], hk⟩
  · simp only [Bool.not_eq_true] at *
    go_enter Try.func17, Try.ntmps17
    go_wp2_with ((go_at_call 44; refine (isPart_any _ _ _).mono ?_; rintro e w' ⟨rfl, rfl⟩))
    go_ret3
    exact ⟨by simp [lowT, lowB, h1], Kept.refl _⟩
theorem lawLowest_any (a b : Int) (_ : (Lit.int .i64 a).wf = true) (_ : (Lit.int .i64 b).wf = true) (w : World) :
    Calls Try.prog 5 #[.int .i64 a, .int .i64 b] w fun e w' => e = .returned (.bool true) ∧ Kept w w' := by
  go_enter Try.func5, Try.ntmps5
  go_wp2_with (first | (go_at_call 16; refine (specLowest_any _ _ _).mono ?_; rintro e w1 ⟨rfl, hk1⟩) | (go_at_call 17; refine (implLowest_any _ _ _).mono ?_; rintro e w2 ⟨rfl, hk2⟩))
  go_ret
  exact ⟨rfl, hk1.trans hk2⟩

def adN (a b c d : Int) : Int := a * d + c * b
def adD (b d : Int) : Int := b * d
def adT (a b c d : Int) : Int := (adN a b c d).tdiv (Int.gcd (adN a b c d) (adD b d))
def adB (a b c d : Int) : Int := (adD b d) / (Int.gcd (adN a b c d) (adD b d))
def addOk (a b c d : Int) : Bool := partB a b && partB c d && partB (adT a b c d) (adB a b c d)
def addT (a b c d : Int) : Int := if addOk a b c d then adT a b c d else 0
def addB (a b c d : Int) : Int := if addOk a b c d then adB a b c d else 0
theorem ad_bd {a b c d : Int} (h1 : partB a b = true) (h2 : partB c d = true) :
    (-4611686018427387904 ≤ a * d + c * b ∧ a * d + c * b ≤ 4611686018427387904 ∧ 1 ≤ b * d ∧ b * d ≤ 4611686018427387904) := by
  have q1 := part_mul h1 h2
  have q2 := part_mul h2 h1
  have e1 := partB_true h1
  have e2 := partB_true h2
  have q3 := mul_bd (a := b) (d := d) (A := 1000000) (D := 1000000) (by omega) (by omega) (by omega) (by omega)
  have q4 : 1 * 1 ≤ b * d := Int.mul_le_mul (by omega) (by omega) (by omega) (by omega)
  omega
theorem specAdd_any (a b c d : Int) (w : World) :
    Calls Try.prog 18 #[.int .i64 a, .int .i64 b, .int .i64 c, .int .i64 d] w fun e w' => e = .returned (.tuple #[.int .i64 (addT a b c d), .int .i64 (addB a b c d), .bool (addOk a b c d)]) ∧ Kept w w' := by
  by_cases h1 : partB a b = true <;> by_cases h2 : partB c d = true
  · have ⟨g1, g2, g3, g4⟩ := ad_bd h1 h2
    obtain ⟨q1, q2⟩ := part_mul h1 h2
    obtain ⟨q3, q4⟩ := part_mul h2 h1
    go_enter Try.func18, Try.ntmps18
    go_wp2_with (first | (go_at_call 42; refine (poPart_any _ _ _).mono ?_; rintro e w' ⟨rfl, rfl⟩) | (go_at_call 46; refine (poLowest_any _ _ _ (by omega) (by omega) (by omega) (by omega)).mono ?_; rintro e w1 ⟨rfl, hk⟩))
    all_goals
      go_ret3
      refine ⟨?_, hk⟩
      rename_i hh
      simp at hh
      simp [addT, addB, addOk, adT, adB, adN, adD, h1, h2, hh]
  all_goals
    simp only [Bool.not_eq_true] at *
    go_enter Try.func18, Try.ntmps18
    go_wp2_with ((go_at_call 42; refine (poPart_any _ _ _).mono ?_; rintro e w' ⟨rfl, rfl⟩))
    go_ret3
    exact ⟨by simp [addT, addB, addOk, h1, h2], Kept.refl _⟩
theorem implAdd_any (a b c d : Int) (w : World) :
    Calls Try.prog 19 #[.int .i64 a, .int .i64 b, .int .i64 c, .int .i64 d] w fun e w' => e = .returned (.tuple #[.int .i64 (addT a b c d), .int .i64 (addB a b c d), .bool (addOk a b c d)]) ∧ Kept w w' := by
  by_cases h1 : partB a b = true <;> by_cases h2 : partB c d = true
  · have ⟨g1, g2, g3, g4⟩ := ad_bd h1 h2
    obtain ⟨q1, q2⟩ := part_mul h1 h2
    obtain ⟨q3, q4⟩ := part_mul h2 h1
    go_enter Try.func19, Try.ntmps19
    go_wp2_with (first | (go_at_call 44; refine (isPart_any _ _ _).mono ?_; rintro e w' ⟨rfl, rfl⟩) | (go_at_call 47; refine (lowestTerms_any _ _ _ (by omega) (by omega) (by omega) (by omega)).mono ?_; rintro e w1 ⟨rfl, hk⟩))
    all_goals
      go_ret3
      refine ⟨?_, hk⟩
      rename_i hh
      simp at hh
      simp [addT, addB, addOk, adT, adB, adN, adD, h1, h2, hh]
  all_goals
    simp only [Bool.not_eq_true] at *
    go_enter Try.func19, Try.ntmps19
    go_wp2_with ((go_at_call 44; refine (isPart_any _ _ _).mono ?_; rintro e w' ⟨rfl, rfl⟩))
    go_ret3
    exact ⟨by simp [addT, addB, addOk, h1, h2], Kept.refl _⟩
theorem lawAdd_any (a b c d : Int) (_ : (Lit.int .i64 a).wf = true) (_ : (Lit.int .i64 b).wf = true) (_ : (Lit.int .i64 c).wf = true) (_ : (Lit.int .i64 d).wf = true) (w : World) :
    Calls Try.prog 6 #[.int .i64 a, .int .i64 b, .int .i64 c, .int .i64 d] w fun e w' => e = .returned (.bool true) ∧ Kept w w' := by
  go_enter Try.func6, Try.ntmps6
  go_wp2_with (first | (go_at_call 18; refine (specAdd_any _ _ _ _ _).mono ?_; rintro e w1 ⟨rfl, hk1⟩) | (go_at_call 19; refine (implAdd_any _ _ _ _ _).mono ?_; rintro e w2 ⟨rfl, hk2⟩))
  go_ret
  exact ⟨rfl, hk1.trans hk2⟩

theorem fdiv_of (a b : Int) (hb : 1 ≤ b) : a / b = if a.tmod b < 0 then a.tdiv b - 1 else a.tdiv b := by
  have h1 := Int.mul_tdiv_add_tmod a b
  have h2 : (a.tmod b) < b := Int.tmod_lt_of_pos a (by omega)
  have h3 : -b < a.tmod b := by
    have h := Int.tmod_lt_of_pos (-a) (show 0 < b by omega)
    rw [Int.neg_tmod] at h
    omega
  split
  · rw [Int.ediv_eq_iff_of_pos (by omega)]
    rw [Int.sub_mul]
    have := Int.mul_comm b (a.tdiv b)
    constructor <;> omega
  · rw [Int.ediv_eq_iff_of_pos (by omega)]
    have := Int.mul_comm b (a.tdiv b)
    constructor <;> omega
theorem tdiv_bd (a b A : Int) (h1 : -A ≤ a) (h2 : a ≤ A) : -A ≤ a.tdiv b ∧ a.tdiv b ≤ A := by
  have h3 : (a.tdiv b).natAbs = a.natAbs / b.natAbs := Int.natAbs_tdiv a b
  have h4 := Nat.div_le_self a.natAbs b.natAbs
  omega
theorem ediv_bd (a b A : Int) (hb : 1 ≤ b) (h1 : -A ≤ a) (h2 : a ≤ A) : -A - 1 ≤ a / b ∧ a / b ≤ A := by
  have h3 := fdiv_of a b hb
  have h4 := tdiv_bd a b A h1 h2
  split at h3 <;> omega
theorem poDown_any (a b : Int) (w : World) (h1 : -4611686018427387904 ≤ a) (h2 : a ≤ 4611686018427387904) (h3 : 1 ≤ b) (h4 : b ≤ 4611686018427387904) :
    Calls Try.prog 71 #[.int .i64 a, .int .i64 b] w fun e w' => e = .returned (.int .i64 (a / b)) ∧ w = w' := by
  have HF := Lib.hid (fdiv_of a b h3)
  obtain ⟨t1, t2⟩ := tdiv_bd a b 4611686018427387904 (by omega) h2
  have hne : (b == 0) = false := by simp; omega
  go_enter Try.func71, Try.ntmps71
  go_wp2
  all_goals
    go_ret
    exact ⟨ret_int (by rw [HF.out]; split <;> omega), rfl⟩
theorem floorDiv_any (a b : Int) (w : World) (h1 : -4611686018427387904 ≤ a) (h2 : a ≤ 4611686018427387904) (h3 : 1 ≤ b) (h4 : b ≤ 4611686018427387904) :
    Calls Try.prog 73 #[.int .i64 a, .int .i64 b] w fun e w' => e = .returned (.int .i64 (a / b)) ∧ w = w' := by
  have HF := Lib.hid (fdiv_of a b h3)
  obtain ⟨t1, t2⟩ := tdiv_bd a b 4611686018427387904 (by omega) h2
  have hne : (b == 0) = false := by simp; omega
  go_enter Try.func73, Try.ntmps73
  go_wp2
  all_goals
    go_ret
    exact ⟨ret_int (by rw [HF.out]; split <;> omega), rfl⟩
theorem poRound_any (a b : Int) (w : World) (h1 : -1000000000000000000 ≤ a) (h2 : a ≤ 1000000000000000000) (h3 : 1 ≤ b) (h4 : b ≤ 1000000000000000000) :
    Calls Try.prog 72 #[.int .i64 a, .int .i64 b] w fun e w' => e = .returned (.int .i64 ((2 * a + b) / (2 * b))) ∧ w = w' := by
  go_enter Try.func72, Try.ntmps72
  go_wp2_with (go_at_call 71; refine (poDown_any _ _ _ (by omega) (by omega) (by omega) (by omega)).mono ?_; rintro e w' ⟨rfl, rfl⟩)
  go_ret
  exact ⟨rfl, rfl⟩
theorem roundDiv_any (a b : Int) (w : World) (h1 : -1000000000000000000 ≤ a) (h2 : a ≤ 1000000000000000000) (h3 : 1 ≤ b) (h4 : b ≤ 1000000000000000000) :
    Calls Try.prog 74 #[.int .i64 a, .int .i64 b] w fun e w' => e = .returned (.int .i64 ((2 * a + b) / (2 * b))) ∧ w = w' := by
  go_enter Try.func74, Try.ntmps74
  go_wp2_with (go_at_call 73; refine (floorDiv_any _ _ _ (by omega) (by omega) (by omega) (by omega)).mono ?_; rintro e w' ⟨rfl, rfl⟩)
  go_ret
  exact ⟨rfl, rfl⟩
theorem poMode_any (a b mode : Int) (w : World) (h1 : -1000000000000000000 ≤ a) (h2 : a ≤ 1000000000000000000) (h3 : 1 ≤ b) (h4 : b ≤ 1000000000000000000) (h5 : inB mode (-1) 1 = true) :
    Calls Try.prog 49 #[.int .i64 a, .int .i64 b, .int .i64 mode] w fun e w' => e = .returned (.int .i64 (poMd a b mode)) ∧ w = w' := by
  have hm := inB_true h5
  obtain ⟨t1, t2⟩ := ediv_bd (-a) b 1000000000000000000 h3 (by omega) (by omega)
  have hc : mode = -1 ∨ mode = 0 ∨ mode = 1 := by omega
  rcases hc with rfl | rfl | rfl
  all_goals
    clear h5 hm
    go_enter Try.func49, Try.ntmps49
    go_wp2_with (first | (go_at_call 71; refine (poDown_any _ _ _ (by omega) (by omega) (by omega) (by omega)).mono ?_; rintro e w' ⟨rfl, rfl⟩) | (go_at_call 72; refine (poRound_any _ _ _ (by omega) (by omega) (by omega) (by omega)).mono ?_; rintro e w' ⟨rfl, rfl⟩))
    go_ret
    exact ⟨by simp [poMd], rfl⟩
theorem roundPart_any (a b mode : Int) (w : World) (h1 : -1000000000000000000 ≤ a) (h2 : a ≤ 1000000000000000000) (h3 : 1 ≤ b) (h4 : b ≤ 1000000000000000000) (h5 : inB mode (-1) 1 = true) :
    Calls Try.prog 51 #[.int .i64 a, .int .i64 b, .int .i64 mode] w fun e w' => e = .returned (.int .i64 (poMd a b mode)) ∧ w = w' := by
  have hm := inB_true h5
  obtain ⟨t1, t2⟩ := ediv_bd (-a) b 1000000000000000000 h3 (by omega) (by omega)
  have hc : mode = -1 ∨ mode = 0 ∨ mode = 1 := by omega
  rcases hc with rfl | rfl | rfl
  all_goals
    clear h5 hm
    go_enter Try.func51, Try.ntmps51
    go_wp2_with (first | (go_at_call 73; refine (floorDiv_any _ _ _ (by omega) (by omega) (by omega) (by omega)).mono ?_; rintro e w' ⟨rfl, rfl⟩) | (go_at_call 74; refine (roundDiv_any _ _ _ (by omega) (by omega) (by omega) (by omega)).mono ?_; rintro e w' ⟨rfl, rfl⟩))
    go_ret
    exact ⟨by simp [poMd], rfl⟩
theorem poIsMode_any (mode : Int) (w : World) :
    Calls Try.prog 48 #[.int .i64 mode] w fun e w' => e = .returned (.bool (inB mode (-1) 1)) ∧ w = w' := by
  go_enter Try.func48, Try.ntmps48
  go_wp2_with (go_at_call 53; refine (l1In_any _ _ _ _).mono ?_; rintro e w' ⟨rfl, rfl⟩)
  go_ret
  exact ⟨rfl, rfl⟩
theorem isMode_any (mode : Int) (w : World) :
    Calls Try.prog 50 #[.int .i64 mode] w fun e w' => e = .returned (.bool (inB mode (-1) 1)) ∧ w = w' := by
  go_enter Try.func50, Try.ntmps50
  go_wp2_with (go_at_call 55; refine (within_any _ _ _ _).mono ?_; rintro e w' ⟨rfl, rfl⟩)
  go_ret
  exact ⟨rfl, rfl⟩
def rndOk (a b mode : Int) : Bool := partB a b && inB mode (-1) 1
def rndV (a b mode : Int) : Int := if rndOk a b mode then poMd a b mode else 0
theorem specRound_any (a b mode : Int) (w : World) :
    Calls Try.prog 20 #[.int .i64 a, .int .i64 b, .int .i64 mode] w fun e w' => e = .returned (.tuple #[.int .i64 (rndV a b mode), .bool (rndOk a b mode)]) ∧ Kept w w' := by
  by_cases h1 : partB a b = true <;> by_cases h2 : inB mode (-1) 1 = true
  · have hb := partB_true h1
    go_enter Try.func20, Try.ntmps20
    go_wp2_with (first | (go_at_call 42; refine (poPart_any _ _ _).mono ?_; rintro e w' ⟨rfl, rfl⟩) | (go_at_call 48; refine (poIsMode_any _ _).mono ?_; rintro e w' ⟨rfl, rfl⟩) | (go_at_call 49; refine (poMode_any _ _ _ _ (by omega) (by omega) (by omega) (by omega) h2).mono ?_; rintro e w' ⟨rfl, rfl⟩))
    go_ret2
    exact ⟨by simp [rndV, rndOk, h1, h2], Kept.refl _⟩
  all_goals
    simp only [Bool.not_eq_true] at *
    go_enter Try.func20, Try.ntmps20
    go_wp2_with (first | (go_at_call 42; refine (poPart_any _ _ _).mono ?_; rintro e w' ⟨rfl, rfl⟩) | (go_at_call 48; refine (poIsMode_any _ _).mono ?_; rintro e w' ⟨rfl, rfl⟩))
    go_ret2
    exact ⟨by simp [rndV, rndOk, h1, h2], Kept.refl _⟩
theorem implRound_any (a b mode : Int) (w : World) :
    Calls Try.prog 21 #[.int .i64 a, .int .i64 b, .int .i64 mode] w fun e w' => e = .returned (.tuple #[.int .i64 (rndV a b mode), .bool (rndOk a b mode)]) ∧ Kept w w' := by
  by_cases h1 : partB a b = true <;> by_cases h2 : inB mode (-1) 1 = true
  · have hb := partB_true h1
    go_enter Try.func21, Try.ntmps21
    go_wp2_with (first | (go_at_call 44; refine (isPart_any _ _ _).mono ?_; rintro e w' ⟨rfl, rfl⟩) | (go_at_call 50; refine (isMode_any _ _).mono ?_; rintro e w' ⟨rfl, rfl⟩) | (go_at_call 51; refine (roundPart_any _ _ _ _ (by omega) (by omega) (by omega) (by omega) h2).mono ?_; rintro e w' ⟨rfl, rfl⟩))
    go_ret2
    exact ⟨by simp [rndV, rndOk, h1, h2], Kept.refl _⟩
  all_goals
    simp only [Bool.not_eq_true] at *
    go_enter Try.func21, Try.ntmps21
    go_wp2_with (first | (go_at_call 44; refine (isPart_any _ _ _).mono ?_; rintro e w' ⟨rfl, rfl⟩) | (go_at_call 50; refine (isMode_any _ _).mono ?_; rintro e w' ⟨rfl, rfl⟩))
    go_ret2
    exact ⟨by simp [rndV, rndOk, h1, h2], Kept.refl _⟩
theorem lawRound_any (a b c : Int) (_ : (Lit.int .i64 a).wf = true) (_ : (Lit.int .i64 b).wf = true) (_ : (Lit.int .i64 c).wf = true) (w : World) :
    Calls Try.prog 7 #[.int .i64 a, .int .i64 b, .int .i64 c] w fun e w' => e = .returned (.bool true) ∧ Kept w w' := by
  go_enter Try.func7, Try.ntmps7
  go_wp2_with (first | (go_at_call 20; refine (specRound_any _ _ _ _).mono ?_; rintro e w1 ⟨rfl, hk1⟩) | (go_at_call 21; refine (implRound_any _ _ _ _).mono ?_; rintro e w2 ⟨rfl, hk2⟩))
  go_ret
  exact ⟨rfl, hk1.trans hk2⟩
end Go.Proofs.Ythlefmkimbefnaa
