/- Names: contracts of the functions that look at a string's bytes. -/
import Derived.Test.YtpkmngkepmoikaaM
namespace Go.Proofs.Ytpkmngkepmoikaa
set_option linter.unusedVariables false
set_option linter.unusedSimpArgs false
open Go.RowKit

theorem str_ext {a b : ByteArray} (h : a.toList = b.toList) : a = b := by
  rw [ByteArray.toList_eq, ByteArray.toList_eq] at h
  obtain ⟨a⟩ := a
  obtain ⟨b⟩ := b
  congr 1
  exact Array.ext' h
def nmB (c : UInt8) : Bool := (decide (65 ≤ c.toNat) && decide (c.toNat ≤ 90)) || (decide (48 ≤ c.toNat) && decide (c.toNat ≤ 57))
def nameB (s : ByteArray) : Bool := s.data.toList.all nmB && inB s.size 1 5
theorem byte_get (s : ByteArray) (k : Nat) (h : k < s.size) : s.data.toList[k]? = some s[k] := by
  rw [List.getElem?_eq_getElem (by simpa using h)]
  rfl
theorem byte_cases (c : Nat) : c < 48 ∨ (48 ≤ c ∧ c ≤ 57) ∨ (57 < c ∧ c < 65) ∨ (65 ≤ c ∧ c ≤ 90) ∨ 90 < c := by omega

set_option maxHeartbeats 1000000 in
theorem isElementName_any (s : ByteArray) (w : World) (hs : s.size ≤ maxLen) :
    Calls Try.prog 71 #[.string s] w fun e w' => e = .returned (.bool (nameB s)) ∧ w = w' := by
  unfold maxLen at hs
  go_enter Try.func71, Try.ntmps71
  go_wp2
  go_loop [3] (fun i => ∃ k : Nat, k ≤ s.size ∧ i = .int .i64 k ∧ (s.data.toList.take k).all nmB = true) (fun i => s.size - (intOf i).toNat)
  case atStart => exact ⟨0, Nat.zero_le _, rfl, rfl⟩
  case round =>
    obtain ⟨k, hk, rfl, ha⟩ := hrel
    have HA := Lib.hid ha
    clear ha
    by_cases hlt : k < s.size
    · have HZ := Lib.hid (byte_get s k hlt)
      have hlt' : (k : Int) < (s.size : Int) := by omega
      rcases byte_cases s[k].toNat with hc | hc | hc | hc | hc
      all_goals
        go_wp2
        first
          | (go_ret
             exact ⟨ret_bool (by unfold nameB; rw [all_not HZ.out (by unfold nmB; simp; omega)]; rfl), rfl⟩)
          | (go_round
             case rel => exact ⟨k + 1, by omega, by go_num, all_snoc HZ.out HA.out (by unfold nmB; simp; omega)⟩
             case measure => simp [intOf]; omega)
    · go_wp2_with (go_at_call 69; refine (within_any _ _ _ _).mono ?_; rintro e w' ⟨rfl, rfl⟩)
      go_ret
      exact ⟨ret_bool (by unfold nameB; rw [all_full (by simp; omega) HA.out]; simp), rfl⟩
set_option maxHeartbeats 1000000 in
theorem cdName_any (s : ByteArray) (w : World) (hs : s.size ≤ maxLen) :
    Calls Try.prog 91 #[.string s] w fun e w' => e = .returned (.bool (nameB s)) ∧ w = w' := by
  unfold maxLen at hs
  go_enter Try.func91, Try.ntmps91
  go_wp2
  go_loop [3] (fun i => ∃ k : Nat, k ≤ s.size ∧ i = .int .i64 k ∧ (s.data.toList.take k).all nmB = true) (fun i => s.size - (intOf i).toNat)
  case atStart => exact ⟨0, Nat.zero_le _, rfl, rfl⟩
  case round =>
    obtain ⟨k, hk, rfl, ha⟩ := hrel
    have HA := Lib.hid ha
    clear ha
    by_cases hlt : k < s.size
    · have HZ := Lib.hid (byte_get s k hlt)
      have hlt' : (k : Int) < (s.size : Int) := by omega
      rcases byte_cases s[k].toNat with hc | hc | hc | hc | hc
      all_goals
        go_wp2
        first
          | (go_ret
             exact ⟨ret_bool (by unfold nameB; rw [all_not HZ.out (by unfold nmB; simp; omega)]; rfl), rfl⟩)
          | (go_round
             case rel => exact ⟨k + 1, by omega, by go_num, all_snoc HZ.out HA.out (by unfold nmB; simp; omega)⟩
             case measure => simp [intOf]; omega)
    · go_wp2_with (go_at_call 66; refine (l1In_any _ _ _ _).mono ?_; rintro e w' ⟨rfl, rfl⟩)
      go_ret
      exact ⟨ret_bool (by unfold nameB; rw [all_full (by simp; omega) HA.out]; simp), rfl⟩
theorem itByte_any (c : UInt8) (w : World) :
    Calls Try.prog 127 #[.int .u8 c.toNat] w fun e w' => e = .returned (.bool (nmB c)) ∧ w = w' := by
  rcases byte_cases c.toNat with hc | hc | hc | hc | hc
  all_goals
    go_enter Try.func127, Try.ntmps127
    go_wp2
    go_ret
    refine ⟨?_, rfl⟩
    simp [nmB]
    try first | omega | (rw [Bool.eq_iff_iff]; simp; omega)
set_option maxHeartbeats 1000000 in
theorem itName_any (s : ByteArray) (w : World) (hs : s.size ≤ maxLen) :
    Calls Try.prog 122 #[.string s] w fun e w' => e = .returned (.bool (nameB s)) ∧ w = w' := by
  unfold maxLen at hs
  go_enter Try.func122, Try.ntmps122
  go_wp2
  go_loop [3] (fun i => ∃ k : Nat, k ≤ s.size ∧ i = .int .i64 k ∧ (s.data.toList.take k).all nmB = true) (fun i => s.size - (intOf i).toNat)
  case atStart => exact ⟨0, Nat.zero_le _, rfl, rfl⟩
  case round =>
    obtain ⟨k, hk, rfl, ha⟩ := hrel
    have HA := Lib.hid ha
    clear ha
    by_cases hlt : k < s.size
    · have HZ := Lib.hid (byte_get s k hlt)
      have hlt' : (k : Int) < (s.size : Int) := by omega
      by_cases hn : nmB s[k] = true
      all_goals
        try simp only [Bool.not_eq_true] at hn
        go_wp2_with (go_at_call 127; refine (itByte_any _ _).mono ?_; rintro e w' ⟨rfl, rfl⟩)
        first
          | (go_ret
             exact ⟨ret_bool (by unfold nameB; rw [all_not HZ.out hn]; rfl), rfl⟩)
          | (go_round
             case rel => exact ⟨k + 1, by omega, by go_num, all_snoc HZ.out HA.out hn⟩
             case measure => simp [intOf]; omega)
    · go_wp2_with (go_at_call 66; refine (l1In_any _ _ _ _).mono ?_; rintro e w' ⟨rfl, rfl⟩)
      go_ret
      exact ⟨ret_bool (by unfold nameB; rw [all_full (by simp; omega) HA.out]; simp), rfl⟩
theorem isName_any (s : ByteArray) (w : World) (hs : s.size ≤ maxLen) :
    Calls Try.prog 123 #[.string s] w fun e w' => e = .returned (.bool (nameB s)) ∧ w = w' := by
  go_enter Try.func123, Try.ntmps123
  go_wp2_with (go_at_call 71; refine (isElementName_any _ _ hs).mono ?_; rintro e w' ⟨rfl, rfl⟩)
  go_ret
  exact ⟨rfl, rfl⟩
end Go.Proofs.Ytpkmngkepmoikaa
