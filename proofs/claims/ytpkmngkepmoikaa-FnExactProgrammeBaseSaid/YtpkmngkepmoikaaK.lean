/- Lists of items compared; which items are valid. -/
import Derived.Test.YtpkmngkepmoikaaJ
import Derived.StillTailTactics
import Derived.Deep.RegionHeld3
import Derived.Deep.DeepCutAuto
namespace Go.Proofs.Ytpkmngkepmoikaa
set_option linter.unusedVariables false
set_option linter.unusedSimpArgs false
open Go.RowKit

set_option maxRecDepth 100000 in
set_option maxHeartbeats 1000000 in
theorem eqItemS_any (v1 v2 : Value) (its : List ItemD) (w : World) (h1 : ItemsAt w v1 its) (h2 : ItemsAt w v2 its) :
    Calls Try.prog 27 #[v1, v2] w fun e w' => e = .returned (.bool true) ∧ Kept w w' := by
  obtain ⟨A, c, cs, rfl, hnc, hcm, hA⟩ := h1.out
  obtain ⟨A', c', cs', rfl, hnc', hcm', hA'⟩ := h2.out
  unfold maxLen at hcm hcm'
  have HA := Lib.hid hA
  have HA' := Lib.hid hA'
  clear hA h1 hA' h2
  have hne : ((its.length : Int) != (its.length : Int)) = false := by simp
  go_enter Try.func27, Try.ntmps27
  go_wp2_with fail
  go_loopw [5] (fun i wr => ∃ k : Nat, k ≤ its.length ∧ i = .int .i64 k ∧ Kept w wr) (fun i _ => its.length - (intOf i).toNat)
  case atStart => exact ⟨0, Nat.zero_le _, rfl, Kept.refl _⟩
  case round =>
    obtain ⟨k, hk, rfl, hkept⟩ := hrel
    by_cases hlt : k < its.length
    · obtain ⟨b, o, A1, c1, A2, c2, it, rfl, hb, h2, h3, hit, q0, q1, q2⟩ := items_at (HA.out.kept hkept) hlt
      obtain ⟨b', o', A1', c1', A2', c2', it', rfl, hb', h2', h3', hit', q0', q1', q2'⟩ := items_at (HA'.out.kept hkept) hlt
      rw [h2] at h2'
      injection h2' with h2'
      subst h2'
      have HI := Lib.hid hit
      have HI' := Lib.hid hit'
      have hlt' : (k : Int) < (its.length : Int) := by omega
      clear h2 h3 h3' hit hit'
      go_wp2_with fail
      go_still_tail 8, (by kernel_rfl)
      go_wp2_with fail
      refine (eqItem_any _ _ it _ (HI.out.kept (Kept.refl wr).drew) (HI'.out.kept (Kept.refl wr).drew)).mono ?_
      rintro e w1 ⟨rfl, k1⟩
      go_wp2_with fail
      go_roundw
      case rel => exact ⟨k + 1, by omega, by go_num, hkept.drew.trans k1⟩
      case measure => simp [intOf]; omega
    · go_wp2_with fail
      go_ret
      exact ⟨rfl, hkept⟩
/-! ### which items are valid -/
def itemB (it : ItemD) : Bool := it.names.all nameB && inB it.names.length 1 3 && (it.marks.length == it.names.length) && it.marks.all (inB · 0 3)
def itemsB (its : List ItemD) : Bool := its.all itemB && decide (its.length ≤ 14)
set_option maxHeartbeats 1000000 in
theorem isItem_any (v : Value) (it : ItemD) (w : World) (h : ItemAt w v it) :
    Calls Try.prog 110 #[v] w fun e w' => e = .returned (.bool (itemB it)) ∧ Kept w w' := by
  obtain ⟨nv, mv, rfl, q1, q2⟩ := h
  obtain ⟨A, c, rfl, hnc, hcm, hl⟩ := q1.1.out
  obtain ⟨A2, c2, rfl, hnc2, hcm2, _⟩ := q2.out
  unfold maxLen at hcm hcm2
  have HL := Lib.hid hl
  have HS := Lib.hid q1.2
  have H2 := Lib.hid q2
  clear q1 q2 hl
  go_enter Try.func110, Try.ntmps110
  go_wp2_with fail
  go_loop [8] (fun i => ∃ k : Nat, k ≤ it.names.length ∧ i = .int .i64 k ∧ (it.names.take k).all nameB = true) (fun i => it.names.length - (intOf i).toNat)
  case atStart => exact ⟨0, Nat.zero_le _, rfl, rfl⟩
  case round =>
    obtain ⟨k, hk, rfl, ha⟩ := hrel
    have HA := Lib.hid ha
    clear ha
    by_cases hlt : k < it.names.length
    · obtain ⟨b, o, z, rfl, hb, hz, hc⟩ := strs_at (HL.out.kept ((Kept.refl w).alloc (.cells #[.slice A it.names.length c, .slice A2 it.marks.length c2, .bool it.late] 75))) hlt
      have hzs := HS.out z (List.mem_of_getElem? hz)
      have HZ := Lib.hid hz
      clear hz
      by_cases hn : nameB z = true
      · go_wp2_with (go_at_call 123; refine (isName_any _ _ hzs).mono ?_; rintro e w' ⟨rfl, rfl⟩)
        go_round
        case rel => exact ⟨k + 1, by omega, by go_num, all_snoc HZ.out HA.out hn⟩
        case measure => simp [intOf]; omega
      · simp only [Bool.not_eq_true] at hn
        go_wp2_with (go_at_call 123; refine (isName_any _ _ hzs).mono ?_; rintro e w' ⟨rfl, rfl⟩)
        go_ret
        exact ⟨ret_bool (by unfold itemB; rw [all_not HZ.out hn]; rfl), (Kept.refl _).alloc _⟩
    · have hall := all_full (p := nameB) (by omega) HA.out
      have HALL := Lib.hid hall
      clear hall
      by_cases h3 : inB it.names.length 1 3 = true <;> by_cases h4 : it.marks.length = it.names.length
      all_goals
        try simp only [Bool.not_eq_true] at h3
        have H4 := Lib.hid h4
        first
          | (have h5 : ((it.marks.length : Int) == (it.names.length : Int)) = true := by simp [h4])
          | (have h5 : ((it.marks.length : Int) == (it.names.length : Int)) = false := beq_eq_false_iff_ne.2 (by omega))
        clear h4
        go_wp2_with (first | (go_at_call 69; refine (within_any _ _ _ _).mono ?_; rintro e w' ⟨rfl, rfl⟩) | (go_at_call 70; refine (allWithin_any _ _ _ _ _ (H2.out.kept ((Kept.refl w).alloc _))).mono ?_; rintro e w' ⟨rfl, rfl⟩))
        go_ret
        exact ⟨ret_bool (by unfold itemB; rw [HALL.out, h3]; simp [H4.out]), (Kept.refl _).alloc _⟩
set_option maxHeartbeats 1000000 in
theorem itGood_any (v : Value) (it : ItemD) (w : World) (h : ItemAt w v it) :
    Calls Try.prog 108 #[v] w fun e w' => e = .returned (.bool (itemB it)) ∧ Kept w w' := by
  obtain ⟨nv, mv, rfl, q1, q2⟩ := h
  obtain ⟨A, c, rfl, hnc, hcm, hl⟩ := q1.1.out
  obtain ⟨A2, c2, rfl, hnc2, hcm2, _⟩ := q2.out
  unfold maxLen at hcm hcm2
  have HL := Lib.hid hl
  have HS := Lib.hid q1.2
  have H2 := Lib.hid q2
  clear q1 q2 hl
  go_enter Try.func108, Try.ntmps108
  go_wp2_with fail
  go_loop [8] (fun i => ∃ k : Nat, k ≤ it.names.length ∧ i = .int .i64 k ∧ (it.names.take k).all nameB = true) (fun i => it.names.length - (intOf i).toNat)
  case atStart => exact ⟨0, Nat.zero_le _, rfl, rfl⟩
  case round =>
    obtain ⟨k, hk, rfl, ha⟩ := hrel
    have HA := Lib.hid ha
    clear ha
    by_cases hlt : k < it.names.length
    · obtain ⟨b, o, z, rfl, hb, hz, hc⟩ := strs_at (HL.out.kept ((Kept.refl w).alloc (.cells #[.slice A it.names.length c, .slice A2 it.marks.length c2, .bool it.late] 75))) hlt
      have hzs := HS.out z (List.mem_of_getElem? hz)
      have HZ := Lib.hid hz
      clear hz
      by_cases hn : nameB z = true
      · go_wp2_with (go_at_call 122; refine (itName_any _ _ hzs).mono ?_; rintro e w' ⟨rfl, rfl⟩)
        go_round
        case rel => exact ⟨k + 1, by omega, by go_num, all_snoc HZ.out HA.out hn⟩
        case measure => simp [intOf]; omega
      · simp only [Bool.not_eq_true] at hn
        go_wp2_with (go_at_call 122; refine (itName_any _ _ hzs).mono ?_; rintro e w' ⟨rfl, rfl⟩)
        go_ret
        exact ⟨ret_bool (by unfold itemB; rw [all_not HZ.out hn]; rfl), (Kept.refl _).alloc _⟩
    · have hall := all_full (p := nameB) (by omega) HA.out
      have HALL := Lib.hid hall
      clear hall
      by_cases h3 : inB it.names.length 1 3 = true <;> by_cases h4 : it.marks.length = it.names.length
      all_goals
        try simp only [Bool.not_eq_true] at h3
        have H4 := Lib.hid h4
        first
          | (have h5 : ((it.marks.length : Int) == (it.names.length : Int)) = true := by simp [h4])
          | (have h5 : ((it.marks.length : Int) == (it.names.length : Int)) = false := beq_eq_false_iff_ne.2 (by omega))
        clear h4
        go_wp2_with (first | (go_at_call 66; refine (l1In_any _ _ _ _).mono ?_; rintro e w' ⟨rfl, rfl⟩) | (go_at_call 67; refine (l1All_any _ _ _ _ _ (H2.out.kept ((Kept.refl w).alloc _))).mono ?_; rintro e w' ⟨rfl, rfl⟩))
        go_ret
        exact ⟨ret_bool (by unfold itemB; rw [HALL.out, h3]; simp [H4.out]), (Kept.refl _).alloc _⟩
set_option maxHeartbeats 1000000 in
theorem areItems_any (v : Value) (its : List ItemD) (w : World) (h : ItemsAt w v its) :
    Calls Try.prog 89 #[v] w fun e w' => e = .returned (.bool (itemsB its)) ∧ Kept w w' := by
  obtain ⟨A, c, cs, rfl, hnc, hcm, hA⟩ := h.out
  unfold maxLen at hcm
  have HA := Lib.hid hA
  clear hA h
  go_enter Try.func89, Try.ntmps89
  go_wp2_with fail
  go_loopw [7] (fun i wr => ∃ k : Nat, k ≤ its.length ∧ i = .int .i64 k ∧ (its.take k).all itemB = true ∧ Kept w wr) (fun i _ => its.length - (intOf i).toNat)
  case atStart => exact ⟨0, Nat.zero_le _, rfl, rfl, Kept.refl _⟩
  case round =>
    obtain ⟨k, hk, rfl, ha, hkept⟩ := hrel
    have HB := Lib.hid ha
    clear ha
    by_cases hlt : k < its.length
    · obtain ⟨b, o, A1, c1, A2, c2, it, rfl, hb, h2, h3, hit, q0, q1, q2⟩ := items_at (HA.out.kept hkept) hlt
      have HI := Lib.hid hit
      have HZ := Lib.hid h2
      clear h2 h3 hit
      by_cases hn : itemB it = true
      · go_wp2_with (go_at_call 110; refine (isItem_any _ it _ (HI.out.kept ((Kept.refl wr).alloc _))).mono ?_; rintro e w1 ⟨rfl, k1⟩)
        go_roundw
        case rel => exact ⟨k + 1, by omega, by go_num, all_snoc HZ.out HB.out hn, (hkept.alloc _).trans k1⟩
        case measure => simp [intOf]; omega
      · simp only [Bool.not_eq_true] at hn
        go_wp2_with (go_at_call 110; refine (isItem_any _ it _ (HI.out.kept ((Kept.refl wr).alloc _))).mono ?_; rintro e w1 ⟨rfl, k1⟩)
        go_ret
        exact ⟨ret_bool (by unfold itemsB; rw [all_not HZ.out hn]; rfl), (hkept.alloc _).trans k1⟩
    · have HALL := Lib.hid (all_full (p := itemB) (by omega) HB.out)
      go_wp2_with fail
      go_ret
      exact ⟨ret_bool (by unfold itemsB; rw [HALL.out, Bool.true_and]; exact decide_eq_decide.2 (by omega)), hkept⟩
set_option maxHeartbeats 1000000 in
theorem itList_any (v : Value) (its : List ItemD) (w : World) (h : ItemsAt w v its) :
    Calls Try.prog 87 #[v] w fun e w' => e = .returned (.bool (itemsB its)) ∧ Kept w w' := by
  obtain ⟨A, c, cs, rfl, hnc, hcm, hA⟩ := h.out
  unfold maxLen at hcm
  have HA := Lib.hid hA
  clear hA h
  go_enter Try.func87, Try.ntmps87
  go_wp2_with fail
  go_loopw [7] (fun i wr => ∃ k : Nat, k ≤ its.length ∧ i = .int .i64 k ∧ (its.take k).all itemB = true ∧ Kept w wr) (fun i _ => its.length - (intOf i).toNat)
  case atStart => exact ⟨0, Nat.zero_le _, rfl, rfl, Kept.refl _⟩
  case round =>
    obtain ⟨k, hk, rfl, ha, hkept⟩ := hrel
    have HB := Lib.hid ha
    clear ha
    by_cases hlt : k < its.length
    · obtain ⟨b, o, A1, c1, A2, c2, it, rfl, hb, h2, h3, hit, q0, q1, q2⟩ := items_at (HA.out.kept hkept) hlt
      have HI := Lib.hid hit
      have HZ := Lib.hid h2
      clear h2 h3 hit
      by_cases hn : itemB it = true
      · go_wp2_with (go_at_call 108; refine (itGood_any _ it _ (HI.out.kept ((Kept.refl wr).alloc _))).mono ?_; rintro e w1 ⟨rfl, k1⟩)
        go_roundw
        case rel => exact ⟨k + 1, by omega, by go_num, all_snoc HZ.out HB.out hn, (hkept.alloc _).trans k1⟩
        case measure => simp [intOf]; omega
      · simp only [Bool.not_eq_true] at hn
        go_wp2_with (go_at_call 108; refine (itGood_any _ it _ (HI.out.kept ((Kept.refl wr).alloc _))).mono ?_; rintro e w1 ⟨rfl, k1⟩)
        go_ret
        exact ⟨ret_bool (by unfold itemsB; rw [all_not HZ.out hn]; rfl), (hkept.alloc _).trans k1⟩
    · have HALL := Lib.hid (all_full (p := itemB) (by omega) HB.out)
      go_wp2_with fail
      go_ret
      exact ⟨ret_bool (by unfold itemsB; rw [HALL.out, Bool.true_and]; exact decide_eq_decide.2 (by omega)), hkept⟩
end Go.Proofs.Ytpkmngkepmoikaa
