/- Laws on items. -/
import Derived.Test.YtlbnkbmmfbhkdaaK
namespace Go.Proofs.Ytlbnkbmmfbhkdaa
open Go.RowKit

set_option maxHeartbeats 1000000 in
theorem lawIsItem_any {w : World} {v0 : Value} (z0 : ItemD) (h0 : ItemAt w v0 z0) :
    Calls Try.prog 5 #[v0] w fun e w' => e = .returned (.bool true) ∧ Kept w w' := by
  have H0 := Lib.hid h0
  obtain ⟨n0, m0, rfl, p0, q0⟩ := h0
  obtain ⟨A0, c0, rfl, _⟩ := p0.1.out
  obtain ⟨D0, d0, rfl, _⟩ := q0.out
  clear p0 q0
  go_enter Try.func5, Try.ntmps5
  have B0 := Box.new w (w.heap.size) 26 #[.slice A0 z0.names.length c0, .slice D0 z0.marks.length d0, .bool z0.late] (by simp)
  have K0 : Kept w (w.alloc (.cells #[.slice A0 z0.names.length c0, .slice D0 z0.marks.length d0, .bool z0.late] 26)) := (Kept.refl w).alloc _
  obtain ⟨x0, y0⟩ := B0.three
  go_wp2_with fail
  clear x0 y0
  refine (szItem_any _ z0 _ _ (H0.out.kept K0) (by omega) (by omega)).mono ?_
  rintro e w1 ⟨rfl, k1⟩
  replace B0 := B0.kept k1
  have K1 := K0.trans k1
  by_cases hbig0 : ((z0.size : Nat) : Int) ≤ 1048576
  case neg =>
    have e1 : lessOr 1048576 (z0.size) = -1 := by unfold lessOr; exact if_neg (by omega)
    rw [e1]
    go_wp2_with fail
    go_ret
    exact ⟨rfl, K1⟩
  have e1 : lessOr 1048576 (z0.size) = 1048576 - (z0.size : Int) := by unfold lessOr; exact if_pos (by omega)
  rw [e1]
  clear e1
  have hparts0 := item_parts z0
  obtain ⟨x0, y0⟩ := B0.three
  go_wp2_with fail
  clear x0 y0
  refine (toItem_any _ z0 _ (H0.out.kept K1) (by omega) (by omega)).mono ?_
  rintro e w2 ⟨u2, rfl, o2, k2⟩
  replace B0 := B0.kept k2
  have K2 := K1.trans k2
  have R2 := Lib.hid o2.item
  clear o2
  obtain ⟨x0, y0⟩ := B0.three
  go_wp2_with fail
  clear x0 y0
  refine (specIsItem_any _ z0 _ R2.out).mono ?_
  rintro e w3 ⟨rfl, k3⟩
  replace B0 := B0.kept k3
  replace R2 := Lib.hid (R2.out.kept k3)
  have K3 := K2.trans k3
  clear R2
  obtain ⟨x0, y0⟩ := B0.three
  go_wp2_with fail
  clear x0 y0
  refine (toItem_any _ z0 _ (H0.out.kept K3) (by omega) (by omega)).mono ?_
  rintro e w4 ⟨u4, rfl, o4, k4⟩
  replace B0 := B0.kept k4
  have K4 := K3.trans k4
  have R4 := Lib.hid o4.item
  obtain ⟨n4, m4, rfl, p4, q4, _⟩ := o4
  obtain ⟨A4, c4, rfl, _⟩ := own_form p4.1
  obtain ⟨D4, d4, rfl, _⟩ := own_form q4
  clear p4 q4
  obtain ⟨x0, y0⟩ := B0.three
  go_wp2_with fail
  clear x0 y0
  have KB4 : Kept w4 (w4.alloc (.cells #[.slice A4 z0.names.length c4, .slice D4 z0.marks.length d4, .bool z0.late] 29)) := (Kept.refl _).alloc _
  replace B0 := B0.kept KB4
  replace R4 := Lib.hid (R4.out.kept KB4)
  have B4 := Box.new w4 w4.heap.size 29 #[.slice A4 z0.names.length c4, .slice D4 z0.marks.length d4, .bool z0.late] rfl
  have KN4 := K4.trans KB4
  refine (isItem_any _ z0 _ R4.out).mono ?_
  rintro e w5 ⟨rfl, k5⟩
  replace B0 := B0.kept k5
  replace B4 := B4.kept k5
  replace R4 := Lib.hid (R4.out.kept k5)
  have K5 := KN4.trans k5
  obtain ⟨x0, y0⟩ := B0.three
  obtain ⟨x4, y4⟩ := B4.three
  go_wp2_with fail
  clear x0 y0 x4 y4
  replace B0 : Box w5.drew (w.heap.size) 26 #[.slice A0 z0.names.length c0, .slice D0 z0.marks.length d0, .bool z0.late] := B0
  replace B4 : Box w5.drew (w4.heap.size) 29 #[.slice A4 z0.names.length c4, .slice D4 z0.marks.length d4, .bool z0.late] := B4
  replace R4 := Lib.hid (R4.out.kept (Kept.refl w5).drew)
  have K6d := K5.drew
  go_region_held3 (fun w' => (w'.cell? ⟨w.heap.size, 0, none⟩ = some (.slice A0 z0.names.length c0) ∧ w'.cell? ⟨w.heap.size, 1, none⟩ = some (.slice D0 z0.marks.length d0) ∧ w'.cell? ⟨w.heap.size, 2, none⟩ = some (.bool z0.late)) ∧ (w'.cell? ⟨w4.heap.size, 0, none⟩ = some (.slice A4 z0.names.length c4) ∧ w'.cell? ⟨w4.heap.size, 1, none⟩ = some (.slice D4 z0.marks.length d4) ∧ w'.cell? ⟨w4.heap.size, 2, none⟩ = some (.bool z0.late))) (first | exact ⟨B0.three.1, B4.three.1⟩ | exact ⟨(B0.kept (by assumption)).three.1, (B4.kept (by assumption)).three.1⟩)
    (first | (go_at_call 19; refine (toItem_any _ z0 _ (H0.out.kept K6d) (by omega) (by omega)).mono ?_; rintro e w6 ⟨u6, rfl, o6, k6⟩) | (go_at_call 21; refine (eqItem_any _ _ z0 _ (R4.out.kept k6) o6.item).mono ?_; rintro e w7 ⟨rfl, k7⟩; have kk7 := k6.trans k7))
  clear o6
  replace B0 := B0.kept kk7
  replace B4 := B4.kept kk7
  replace R4 := Lib.hid (R4.out.kept kk7)
  have K7 := K6d.trans kk7
  go_wp2_with fail
  go_ret
  exact ⟨rfl, K7⟩
set_option maxHeartbeats 1000000 in
theorem lawAreItems_any {w : World} {v0 : Value} (z0 : List ItemD) (h0 : ItemsAt w v0 z0) :
    Calls Try.prog 6 #[v0] w fun e w' => e = .returned (.bool true) ∧ Kept w w' := by
  have H0 := Lib.hid h0
  clear h0
  go_enter Try.func6, Try.ntmps6
  have K0 := Kept.refl w
  go_wp2_with fail
  refine (szItemS_any _ z0 _ _ (H0.out.kept K0) (by omega) (by omega)).mono ?_
  rintro e w1 ⟨rfl, k1⟩
  have K1 := K0.trans k1
  by_cases hbig0 : ((itemsSize z0 : Nat) : Int) ≤ 1048576
  case neg =>
    have e1 : lessOr 1048576 (itemsSize z0) = -1 := by unfold lessOr; exact if_neg (by omega)
    rw [e1]
    go_wp2_with fail
    go_ret
    exact ⟨rfl, K1⟩
  have e1 : lessOr 1048576 (itemsSize z0) = 1048576 - (itemsSize z0 : Int) := by unfold lessOr; exact if_pos (by omega)
  rw [e1]
  clear e1
  go_wp2_with fail
  refine (toItemS_any _ z0 _ (H0.out.kept K1) (by omega)).mono ?_
  rintro e w2 ⟨u2, S2, rfl, o2, k2⟩
  have K2 := K1.trans k2
  have R2 := Lib.hid o2.items
  clear o2
  go_wp2_with fail
  refine (specAreItems_any _ z0 _ R2.out).mono ?_
  rintro e w3 ⟨rfl, k3⟩
  replace R2 := Lib.hid (R2.out.kept k3)
  have K3 := K2.trans k3
  clear R2
  go_wp2_with fail
  refine (toItemS_any _ z0 _ (H0.out.kept K3) (by omega)).mono ?_
  rintro e w4 ⟨u4, S4, rfl, o4, k4⟩
  have K4 := K3.trans k4
  have R4 := Lib.hid o4.items
  clear o4
  go_wp2_with fail
  refine (areItems_any _ z0 _ R4.out).mono ?_
  rintro e w5 ⟨rfl, k5⟩
  replace R4 := Lib.hid (R4.out.kept k5)
  have K5 := K4.trans k5
  go_wp2_with fail
  refine (toItemS_any _ z0 _ (H0.out.kept K5) (by omega)).mono ?_
  rintro e w6 ⟨u6, S6, rfl, o6, k6⟩
  replace R4 := Lib.hid (R4.out.kept k6)
  have K6 := K5.trans k6
  have R6 := Lib.hid o6.items
  clear o6
  go_wp2_with fail
  refine (eqItemS_any _ _ z0 _ R4.out R6.out).mono ?_
  rintro e w7 ⟨rfl, k7⟩
  replace R4 := Lib.hid (R4.out.kept k7)
  replace R6 := Lib.hid (R6.out.kept k7)
  have K7 := K6.trans k7
  clear R6
  go_wp2_with fail
  go_ret
  exact ⟨rfl, K7⟩
end Go.Proofs.Ytlbnkbmmfbhkdaa
