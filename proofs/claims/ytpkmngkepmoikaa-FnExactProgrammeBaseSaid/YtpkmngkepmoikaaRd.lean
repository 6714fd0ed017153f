/- Rounding and sums. -/
import Derived.Test.YtpkmngkepmoikaaM
namespace Go.Proofs.Ytpkmngkepmoikaa
set_option linter.unusedVariables false
set_option linter.unusedSimpArgs false
open Go.RowKit

theorem fdiv_of (a b : Int) (hb : 1 ≤ b) : a / b = if a.tmod b < 0 then a.tdiv b - 1 else a.tdiv b := by
  have h1 := Int.mul_tdiv_add_tmod a b
  have h2 : (a.tmod b) < b := Int.tmod_lt_of_pos a (by omega)
  have h3 : -b < a.tmod b := by
    have h := Int.tmod_lt_of_pos (-a) (show 0 < b by omega)
    rw [Int.neg_tmod] at h
    omega
  split
  · rw [Int.ediv_eq_iff_of_pos (by omega)]
    rw [Int.sub_mul]
    have := Int.mul_comm b (a.tdiv b)
    constructor <;> omega
  · rw [Int.ediv_eq_iff_of_pos (by omega)]
    have := Int.mul_comm b (a.tdiv b)
    constructor <;> omega
theorem tdiv_bd (a b A : Int) (h1 : -A ≤ a) (h2 : a ≤ A) : -A ≤ a.tdiv b ∧ a.tdiv b ≤ A := by
  have h3 : (a.tdiv b).natAbs = a.natAbs / b.natAbs := Int.natAbs_tdiv a b
  have h4 := Nat.div_le_self a.natAbs b.natAbs
  omega
theorem ediv_bd (a b A : Int) (hb : 1 ≤ b) (h1 : -A ≤ a) (h2 : a ≤ A) : -A - 1 ≤ a / b ∧ a / b ≤ A := by
  have h3 := fdiv_of a b hb
  have h4 := tdiv_bd a b A h1 h2
  split at h3 <;> omega
theorem poDown_any (a b : Int) (w : World) (h1 : -4611686018427387904 ≤ a) (h2 : a ≤ 4611686018427387904) (h3 : 1 ≤ b) (h4 : b ≤ 4611686018427387904) :
    Calls Try.prog 119 #[.int .i64 a, .int .i64 b] w fun e w' => e = .returned (.int .i64 (a / b)) ∧ w = w' := by
  have HF := Lib.hid (fdiv_of a b h3)
  obtain ⟨t1, t2⟩ := tdiv_bd a b 4611686018427387904 (by omega) h2
  have hne : (b == 0) = false := by simp; omega
  go_enter Try.func119, Try.ntmps119
  go_wp2
  all_goals
    go_ret
    exact ⟨ret_int (by rw [HF.out]; split <;> omega), rfl⟩
theorem floorDiv_any (a b : Int) (w : World) (h1 : -4611686018427387904 ≤ a) (h2 : a ≤ 4611686018427387904) (h3 : 1 ≤ b) (h4 : b ≤ 4611686018427387904) :
    Calls Try.prog 121 #[.int .i64 a, .int .i64 b] w fun e w' => e = .returned (.int .i64 (a / b)) ∧ w = w' := by
  have HF := Lib.hid (fdiv_of a b h3)
  obtain ⟨t1, t2⟩ := tdiv_bd a b 4611686018427387904 (by omega) h2
  have hne : (b == 0) = false := by simp; omega
  go_enter Try.func121, Try.ntmps121
  go_wp2
  all_goals
    go_ret
    exact ⟨ret_int (by rw [HF.out]; split <;> omega), rfl⟩
theorem poRound_any (a b : Int) (w : World) (h1 : -1000000000000000000 ≤ a) (h2 : a ≤ 1000000000000000000) (h3 : 1 ≤ b) (h4 : b ≤ 1000000000000000000) :
    Calls Try.prog 105 #[.int .i64 a, .int .i64 b] w fun e w' => e = .returned (.int .i64 ((2 * a + b) / (2 * b))) ∧ w = w' := by
  go_enter Try.func105, Try.ntmps105
  go_wp2_with (go_at_call 119; refine (poDown_any _ _ _ (by omega) (by omega) (by omega) (by omega)).mono ?_; rintro e w' ⟨rfl, rfl⟩)
  go_ret
  exact ⟨rfl, rfl⟩
theorem roundDiv_any (a b : Int) (w : World) (h1 : -1000000000000000000 ≤ a) (h2 : a ≤ 1000000000000000000) (h3 : 1 ≤ b) (h4 : b ≤ 1000000000000000000) :
    Calls Try.prog 107 #[.int .i64 a, .int .i64 b] w fun e w' => e = .returned (.int .i64 ((2 * a + b) / (2 * b))) ∧ w = w' := by
  go_enter Try.func107, Try.ntmps107
  go_wp2_with (go_at_call 121; refine (floorDiv_any _ _ _ (by omega) (by omega) (by omega) (by omega)).mono ?_; rintro e w' ⟨rfl, rfl⟩)
  go_ret
  exact ⟨rfl, rfl⟩
theorem sum_bd (zs : List Int) (M : Int) (hM : 0 ≤ M) (h : ∀ z ∈ zs, -M ≤ z ∧ z ≤ M) (k : Nat) : -((k : Int) * M) ≤ (zs.take k).sum ∧ (zs.take k).sum ≤ (k : Int) * M := by
  induction zs generalizing k with
  | nil =>
    have : 0 ≤ (k : Int) * M := Int.mul_nonneg (by omega) hM
    simp
    omega
  | cons z zs ih =>
    cases k with
    | zero => simp
    | succ k =>
      have h1 := h z (by simp)
      have h2 := ih (fun y hy => h y (by simp [hy])) k
      have h3 : ((k + 1 : Nat) : Int) * M = (k : Int) * M + M := by rw [Int.natCast_add, Int.add_mul]; simp
      rw [List.take_succ_cons, List.sum_cons, h3]
      omega
theorem poSum_any (v : Value) (zs : List Int) (w : World) (h : Ints w v zs) (hn : zs.length ≤ 60) (hp : zs.all (inB · (-1000000) 1000000) = true) :
    Calls Try.prog 59 #[v] w fun e w' => e = .returned (.int .i64 zs.sum) ∧ w = w' := by
  obtain ⟨A, c, rfl, hnc, hcm, hl⟩ := h.out
  unfold maxLen at hcm
  have HL := Lib.hid hl
  have HP := Lib.hid hp
  clear hl h hp
  go_enter Try.func59, Try.ntmps59
  go_wp2
  go_loop [3, 8] (fun s i => ∃ k : Nat, k ≤ zs.length ∧ i = .int .i64 k ∧ s = .int .i64 (zs.take k).sum) (fun _ i => zs.length - (intOf i).toNat)
  case atStart => exact ⟨0, Nat.zero_le _, rfl, rfl⟩
  case round =>
    obtain ⟨k, hk, rfl, rfl⟩ := hrel
    have hb1 := sum_bd zs 1000000 (by omega) (fun z hz => inB_true (List.all_eq_true.1 HP.out z hz)) k
    by_cases hlt : k < zs.length
    · obtain ⟨b, o, z, rfl, hb, hz, hc⟩ := ints_at HL.out hlt
      have hzb := inB_true (List.all_eq_true.1 HP.out z (List.mem_of_getElem? hz))
      have HZ := Lib.hid hz
      clear hz
      go_wp2
      go_round
      case rel => exact ⟨k + 1, by omega, by go_num, by rw [take_snoc HZ.out, List.sum_append]; simp⟩
      case measure => simp [intOf]; omega
    · go_wp2
      go_ret
      exact ⟨ret_int (by rw [List.take_of_length_le (by omega)]), rfl⟩
theorem sumInts_any (v : Value) (zs : List Int) (w : World) (h : Ints w v zs) (hn : zs.length ≤ 60) (hp : zs.all (inB · (-1000000) 1000000) = true) :
    Calls Try.prog 62 #[v] w fun e w' => e = .returned (.int .i64 zs.sum) ∧ w = w' := by
  obtain ⟨A, c, rfl, hnc, hcm, hl⟩ := h.out
  unfold maxLen at hcm
  have HL := Lib.hid hl
  have HP := Lib.hid hp
  clear hl h hp
  go_enter Try.func62, Try.ntmps62
  go_wp2
  go_loop [3, 8] (fun s i => ∃ k : Nat, k ≤ zs.length ∧ i = .int .i64 k ∧ s = .int .i64 (zs.take k).sum) (fun _ i => zs.length - (intOf i).toNat)
  case atStart => exact ⟨0, Nat.zero_le _, rfl, rfl⟩
  case round =>
    obtain ⟨k, hk, rfl, rfl⟩ := hrel
    have hb1 := sum_bd zs 1000000 (by omega) (fun z hz => inB_true (List.all_eq_true.1 HP.out z hz)) k
    by_cases hlt : k < zs.length
    · obtain ⟨b, o, z, rfl, hb, hz, hc⟩ := ints_at HL.out hlt
      have hzb := inB_true (List.all_eq_true.1 HP.out z (List.mem_of_getElem? hz))
      have HZ := Lib.hid hz
      clear hz
      go_wp2
      go_round
      case rel => exact ⟨k + 1, by omega, by go_num, by rw [take_snoc HZ.out, List.sum_append]; simp⟩
      case measure => simp [intOf]; omega
    · go_wp2
      go_ret
      exact ⟨ret_int (by rw [List.take_of_length_le (by omega)]), rfl⟩
end Go.Proofs.Ytpkmngkepmoikaa
