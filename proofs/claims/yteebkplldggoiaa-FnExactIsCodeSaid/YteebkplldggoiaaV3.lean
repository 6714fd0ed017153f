/- Codes: laws that give plain values. -/
import Derived.Test.YteebkplldggoiaaH3
import Derived.Test.YteebkplldggoiaaV2
import Derived.Deep.RegionHeld3
namespace Go.Proofs.Yteebkplldggoiaa
open Go.RowKit

set_option maxHeartbeats 1000000 in
theorem lawIsCode_any {w : World} {v0 : Value} (z0 : CodeD) (h0 : CodeAt w v0 z0) :
    Calls Try.prog 3 #[v0] w fun e w' => e = .returned (.bool true) ∧ Kept w w' := by
  have H0 := Lib.hid h0
  obtain ⟨n0, m0, rfl, p0, q0⟩ := h0
  obtain ⟨A0, c0, rfl, _⟩ := p0.1.out
  obtain ⟨D0, d0, rfl, _⟩ := q0.out
  clear p0 q0
  go_enter Try.func3, Try.ntmps3
  have B0 := Box.new w (w.heap.size) 25 #[.slice A0 z0.elems.length c0, .slice D0 z0.limits.length d0, .int .i64 z0.repeats, .int .i64 z0.bonus, .int .i64 z0.keeps, .int .i64 z0.fall] (by simp)
  have K0 : Kept w (w.alloc (.cells #[.slice A0 z0.elems.length c0, .slice D0 z0.limits.length d0, .int .i64 z0.repeats, .int .i64 z0.bonus, .int .i64 z0.keeps, .int .i64 z0.fall] 25)) := (Kept.refl w).alloc _
  obtain ⟨x0, y0⟩ := B0.six
  go_wp2_with fail
  clear x0 y0
  refine (szCode_any _ z0 _ _ (H0.out.kept K0) (by omega) (by omega)).mono ?_
  rintro e w1 ⟨rfl, k1⟩
  replace B0 := B0.kept k1
  have K1 := K0.trans k1
  by_cases hbig0 : ((z0.size : Nat) : Int) ≤ 1048576
  case neg =>
    have e1 : lessOr 1048576 (z0.size) = -1 := by unfold lessOr; exact if_neg (by omega)
    rw [e1]
    go_wp2_with fail
    go_ret
    exact ⟨rfl, K1⟩
  have e1 : lessOr 1048576 (z0.size) = 1048576 - (z0.size : Int) := by unfold lessOr; exact if_pos (by omega)
  rw [e1]
  clear e1
  have hparts0 := code_parts z0
  obtain ⟨x0, y0⟩ := B0.six
  go_wp2_with fail
  clear x0 y0
  refine (toCode_any _ z0 _ (H0.out.kept K1) (by omega) (by omega)).mono ?_
  rintro e w2 ⟨u2, rfl, o2, k2⟩
  replace B0 := B0.kept k2
  have K2 := K1.trans k2
  have R2 := Lib.hid o2.code
  clear o2
  obtain ⟨x0, y0⟩ := B0.six
  go_wp2_with fail
  clear x0 y0
  refine (specIsCode_any _ z0 _ R2.out).mono ?_
  rintro e w3 ⟨rfl, k3⟩
  replace B0 := B0.kept k3
  replace R2 := Lib.hid (R2.out.kept k3)
  have K3 := K2.trans k3
  clear R2
  obtain ⟨x0, y0⟩ := B0.six
  go_wp2_with fail
  clear x0 y0
  refine (toCode_any _ z0 _ (H0.out.kept K3) (by omega) (by omega)).mono ?_
  rintro e w4 ⟨u4, rfl, o4, k4⟩
  replace B0 := B0.kept k4
  have K4 := K3.trans k4
  have R4 := Lib.hid o4.code
  obtain ⟨n4, m4, rfl, p4, q4, _⟩ := o4
  obtain ⟨A4, c4, rfl, _⟩ := own_form p4.1
  obtain ⟨D4, d4, rfl, _⟩ := own_form q4
  clear p4 q4
  obtain ⟨x0, y0⟩ := B0.six
  go_wp2_with fail
  clear x0 y0
  have KB4 : Kept w4 (w4.alloc (.cells #[.slice A4 z0.elems.length c4, .slice D4 z0.limits.length d4, .int .i64 z0.repeats, .int .i64 z0.bonus, .int .i64 z0.keeps, .int .i64 z0.fall] 30)) := (Kept.refl _).alloc _
  replace B0 := B0.kept KB4
  replace R4 := Lib.hid (R4.out.kept KB4)
  have B4 := Box.new w4 w4.heap.size 30 #[.slice A4 z0.elems.length c4, .slice D4 z0.limits.length d4, .int .i64 z0.repeats, .int .i64 z0.bonus, .int .i64 z0.keeps, .int .i64 z0.fall] rfl
  have KN4 := K4.trans KB4
  refine (isCode_any _ z0 _ R4.out).mono ?_
  rintro e w5 ⟨rfl, k5⟩
  replace B0 := B0.kept k5
  replace B4 := B4.kept k5
  replace R4 := Lib.hid (R4.out.kept k5)
  have K5 := KN4.trans k5
  obtain ⟨x0, y0⟩ := B0.six
  obtain ⟨x4, y4⟩ := B4.six
  go_wp2_with fail
  clear x0 y0 x4 y4
  replace B0 : Box w5.drew (w.heap.size) 25 #[.slice A0 z0.elems.length c0, .slice D0 z0.limits.length d0, .int .i64 z0.repeats, .int .i64 z0.bonus, .int .i64 z0.keeps, .int .i64 z0.fall] := B0
  replace B4 : Box w5.drew (w4.heap.size) 30 #[.slice A4 z0.elems.length c4, .slice D4 z0.limits.length d4, .int .i64 z0.repeats, .int .i64 z0.bonus, .int .i64 z0.keeps, .int .i64 z0.fall] := B4
  replace R4 := Lib.hid (R4.out.kept (Kept.refl w5).drew)
  have K6d := K5.drew
  go_region_held3 (fun w' => (w'.cell? ⟨w.heap.size, 0, none⟩ = some (.slice A0 z0.elems.length c0) ∧ w'.cell? ⟨w.heap.size, 1, none⟩ = some (.slice D0 z0.limits.length d0) ∧ w'.cell? ⟨w.heap.size, 2, none⟩ = some (.int .i64 z0.repeats) ∧ w'.cell? ⟨w.heap.size, 3, none⟩ = some (.int .i64 z0.bonus) ∧ w'.cell? ⟨w.heap.size, 4, none⟩ = some (.int .i64 z0.keeps) ∧ w'.cell? ⟨w.heap.size, 5, none⟩ = some (.int .i64 z0.fall)) ∧ (w'.cell? ⟨w4.heap.size, 0, none⟩ = some (.slice A4 z0.elems.length c4) ∧ w'.cell? ⟨w4.heap.size, 1, none⟩ = some (.slice D4 z0.limits.length d4) ∧ w'.cell? ⟨w4.heap.size, 2, none⟩ = some (.int .i64 z0.repeats) ∧ w'.cell? ⟨w4.heap.size, 3, none⟩ = some (.int .i64 z0.bonus) ∧ w'.cell? ⟨w4.heap.size, 4, none⟩ = some (.int .i64 z0.keeps) ∧ w'.cell? ⟨w4.heap.size, 5, none⟩ = some (.int .i64 z0.fall))) (first | exact ⟨B0.six.1, B4.six.1⟩ | exact ⟨(B0.kept (by assumption)).six.1, (B4.kept (by assumption)).six.1⟩)
    (first | (go_at_call 15; refine (toCode_any _ z0 _ (H0.out.kept K6d) (by omega) (by omega)).mono ?_; rintro e w6 ⟨u6, rfl, o6, k6⟩) | (go_at_call 17; refine (eqCode_any _ _ z0 _ (R4.out.kept k6) o6.code).mono ?_; rintro e w7 ⟨rfl, k7⟩; have kk7 := k6.trans k7))
  clear o6
  replace B0 := B0.kept kk7
  replace B4 := B4.kept kk7
  replace R4 := Lib.hid (R4.out.kept kk7)
  have K7 := K6d.trans kk7
  go_wp2_with fail
  go_ret
  exact ⟨rfl, K7⟩
end Go.Proofs.Yteebkplldggoiaa
