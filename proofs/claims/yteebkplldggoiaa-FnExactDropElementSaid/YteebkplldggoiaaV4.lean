/- Codes: GreatestBase. -/
import Derived.Test.YteebkplldggoiaaV2
import Derived.Test.YteebkplldggoiaaH3
import Derived.Deep.RegionHeld3
import Derived.Deep.DeepCutAuto
namespace Go.Proofs.Yteebkplldggoiaa
open Go.RowKit

def askedB (x : CodeD) (f : Int) : Bool := codeB x && inB f 0 4
def mostB (es : List ElemD) (f : Int) : Int := es.foldl (fun m y => if y.family = f then max m y.base else m) 0
def gbV (x : CodeD) (f : Int) : Int := if askedB x f then mostB x.elems f else 0
theorem ret_ib {a a' : Int} {b b' : Bool} (h1 : a = a') (h2 : b = b') : Ending.returned (.tuple #[.int .i64 a, .bool b]) = .returned (.tuple #[.int .i64 a', .bool b']) := by rw [h1, h2]
theorem gbV_no {x : CodeD} {f : Int} (h : askedB x f = false) : gbV x f = 0 := by unfold gbV; rw [h]; rfl
theorem mostB_snoc {es : List ElemD} {k : Nat} {y : ElemD} (f : Int) (h : es[k]? = some y) : mostB (es.take (k + 1)) f = if y.family = f then max (mostB (es.take k) f) y.base else mostB (es.take k) f := by
  unfold mostB
  rw [take_snoc h, List.foldl_append]
  rfl
theorem l1Most2_any (a b : Int) (w : World) :
    Calls Try.prog 60 #[.int .i64 a, .int .i64 b] w fun e w' => e = .returned (.int .i64 (max a b)) ∧ w = w' := by
  go_enter Try.func60, Try.ntmps60
  go_wp2
  all_goals
    go_ret
    exact ⟨ret_int (by omega), rfl⟩
theorem cdAsked_any (v : Value) (x : CodeD) (f : Int) (w : World) (h : CodeAt w v x) :
    Calls Try.prog 59 #[v, .int .i64 f] w fun e w' => e = .returned (.bool (askedB x f)) ∧ Kept w w' := by
  have h0 := h
  obtain ⟨nv, mv, rfl, q1, q2⟩ := h
  obtain ⟨A, c, rfl, hnc, hcm, hl⟩ := q1.1.out
  obtain ⟨A2, c2, rfl, _, _, _⟩ := q2.out
  unfold maxLen at hcm
  have HL := Lib.hid hl
  have HS := Lib.hid q1.2
  have H0 := Lib.hid h0
  clear h0 q1 q2 hl
  have K0 : Kept w (w.alloc (.cells #[.slice A x.elems.length c, .slice A2 x.limits.length c2, .int .i64 x.repeats, .int .i64 x.bonus, .int .i64 x.keeps, .int .i64 x.fall] 30)) := (Kept.refl w).alloc _
  by_cases hb : codeB x = true
  · go_enter Try.func59, Try.ntmps59
    go_wp2_with fail
    refine (cdGood_any _ x _ (H0.out.kept K0)).mono ?_
    rintro e w1 ⟨rfl, k1⟩
    rw [hb]
    go_wp2_with (go_at_call 63; refine (l1In_any _ _ _ _).mono ?_; rintro e w' ⟨rfl, rfl⟩)
    go_ret
    exact ⟨ret_bool (by unfold askedB; rw [hb, Bool.true_and]), K0.trans k1⟩
  · simp only [Bool.not_eq_true] at hb
    go_enter Try.func59, Try.ntmps59
    go_wp2_with fail
    refine (cdGood_any _ x _ (H0.out.kept K0)).mono ?_
    rintro e w1 ⟨rfl, k1⟩
    rw [hb]
    go_wp2_with fail
    go_ret
    exact ⟨ret_bool (by unfold askedB; rw [hb, Bool.false_and]), K0.trans k1⟩
set_option maxHeartbeats 1000000 in
theorem specGreatestBase_any (v : Value) (x : CodeD) (f : Int) (w : World) (h : CodeAt w v x) :
    Calls Try.prog 18 #[v, .int .i64 f] w fun e w' => e = .returned (.tuple #[.int .i64 (gbV x f), .bool (askedB x f)]) ∧ Kept w w' := by
  have h0 := h
  obtain ⟨nv, mv, rfl, q1, q2⟩ := h
  obtain ⟨A, c, rfl, hnc, hcm, hl⟩ := q1.1.out
  obtain ⟨A2, c2, rfl, _, _, _⟩ := q2.out
  unfold maxLen at hcm
  have HL := Lib.hid hl
  have HS := Lib.hid q1.2
  have H0 := Lib.hid h0
  clear h0 q1 q2 hl
  have B0 := Box.new w w.heap.size 30 #[.slice A x.elems.length c, .slice A2 x.limits.length c2, .int .i64 x.repeats, .int .i64 x.bonus, .int .i64 x.keeps, .int .i64 x.fall] rfl
  have K0 : Kept w (w.alloc (.cells #[.slice A x.elems.length c, .slice A2 x.limits.length c2, .int .i64 x.repeats, .int .i64 x.bonus, .int .i64 x.keeps, .int .i64 x.fall] 30)) := (Kept.refl w).alloc _
  go_enter Try.func18, Try.ntmps18
  go_wp2_with fail
  refine (cdAsked_any _ x f _ (H0.out.kept K0)).mono ?_
  rintro e w1 ⟨rfl, k1⟩
  by_cases hb : askedB x f = true
  case neg =>
    simp only [Bool.not_eq_true] at hb
    rw [hb]
    go_wp2_with fail
    go_ret2
    exact ⟨ret_ib (gbV_no hb).symm hb.symm, K0.trans k1⟩
  rw [hb]
  have EQ := Lib.hid (show gbV x f = mostB x.elems f from if_pos hb)
  have B1 := B0.kept k1
  have K1 := K0.trans k1
  clear B0 K0 k1
  obtain ⟨x0, y0⟩ := B1.six
  go_wp2_with fail
  clear x0 y0
  go_loopw [6, 16] (fun q i wr => ∃ k : Nat, k ≤ x.elems.length ∧ i = .int .i64 k ∧ q = .int .i64 (mostB (x.elems.take k) f) ∧ Kept w1 wr) (fun _ i _ => x.elems.length - (intOf i).toNat)
  case atStart => exact ⟨0, Nat.zero_le _, rfl, rfl, Kept.refl _⟩
  case round =>
    obtain ⟨k, hk, rfl, rfl, hkept⟩ := hrel
    by_cases hlt : k < x.elems.length
    · obtain ⟨b, o, y, rfl, hb', h2, q0, q1, q2, q3⟩ := elems_at (HL.out.kept (K1.trans hkept)) hlt
      have HM := Lib.hid (mostB_snoc f h2)
      clear h2
      generalize mostB (x.elems.take k) f = mk at *
      by_cases hf : y.family = f
      · have HM' := Lib.hid (HM.out.trans (if_pos hf))
        have hf' : (y.family == f) = true := by simp [hf]
        clear hf HM
        go_wp2_with (go_at_call 60; refine (l1Most2_any _ _ _).mono ?_; rintro e w' ⟨rfl, rfl⟩)
        all_goals
          go_roundw
          case rel => exact ⟨k + 1, by omega, by go_num, by rw [HM'.out], hkept.alloc _⟩
          case measure => simp [intOf]; omega
      · have HM' := Lib.hid (HM.out.trans (if_neg hf))
        have hf' : (y.family == f) = false := beq_eq_false_iff_ne.2 hf
        clear hf HM
        go_wp2_with fail
        go_roundw
        case rel => exact ⟨k + 1, by omega, by go_num, by rw [HM'.out], hkept.alloc _⟩
        case measure => simp [intOf]; omega
    · obtain rfl : k = x.elems.length := by omega
      go_wp2_with fail
      go_ret2
      exact ⟨ret_ib (by rw [EQ.out, List.take_length]) hb.symm, K1.trans hkept⟩
set_option maxHeartbeats 1000000 in
theorem greatestBase_any (v : Value) (x : CodeD) (f : Int) (w : World) (h : CodeAt w v x) :
    Calls Try.prog 19 #[v, .int .i64 f] w fun e w' => e = .returned (.tuple #[.int .i64 (gbV x f), .bool (askedB x f)]) ∧ Kept w w' := by
  have h0 := h
  obtain ⟨nv, mv, rfl, q1, q2⟩ := h
  obtain ⟨A, c, rfl, hnc, hcm, hl⟩ := q1.1.out
  obtain ⟨A2, c2, rfl, _, _, _⟩ := q2.out
  unfold maxLen at hcm
  have HL := Lib.hid hl
  have HS := Lib.hid q1.2
  have H0 := Lib.hid h0
  clear h0 q1 q2 hl
  have B0 := Box.new w w.heap.size 30 #[.slice A x.elems.length c, .slice A2 x.limits.length c2, .int .i64 x.repeats, .int .i64 x.bonus, .int .i64 x.keeps, .int .i64 x.fall] rfl
  have K0 : Kept w (w.alloc (.cells #[.slice A x.elems.length c, .slice A2 x.limits.length c2, .int .i64 x.repeats, .int .i64 x.bonus, .int .i64 x.keeps, .int .i64 x.fall] 30)) := (Kept.refl w).alloc _
  go_enter Try.func19, Try.ntmps19
  go_wp2_with fail
  refine (isCode_any _ x _ (H0.out.kept K0)).mono ?_
  rintro e w1 ⟨rfl, k1⟩
  by_cases hb : askedB x f = true
  case neg =>
    simp only [Bool.not_eq_true] at hb
    have HB := Lib.hid hb
    by_cases hc : codeB x = true
    · rw [hc]
      unfold askedB at hb
      rw [hc, Bool.true_and] at hb
      go_wp2_with (go_at_call 57; refine (isFamily_any _ _).mono ?_; rintro e w' ⟨rfl, rfl⟩)
      go_ret2
      exact ⟨ret_ib (gbV_no HB.out).symm HB.out.symm, K0.trans k1⟩
    · simp only [Bool.not_eq_true] at hc
      rw [hc]
      clear hb
      go_wp2_with fail
      go_ret2
      exact ⟨ret_ib (gbV_no HB.out).symm HB.out.symm, K0.trans k1⟩
  have hc : codeB x = true := by unfold askedB at hb; rw [Bool.and_eq_true] at hb; exact hb.1
  have hd : inB f 0 4 = true := by unfold askedB at hb; rw [Bool.and_eq_true] at hb; exact hb.2
  rw [hc]
  clear hc
  go_upto_region 3 with (go_at_call 57; refine (isFamily_any _ _).mono ?_; rintro e w' ⟨rfl, rfl⟩)
  have EQ := Lib.hid (show gbV x f = mostB x.elems f from if_pos hb)
  have B1 := B0.kept k1
  have K1 := K0.trans k1
  clear B0 K0 k1
  obtain ⟨x0, y0⟩ := B1.six
  go_wp2_with fail
  clear x0 y0
  go_loopw [6, 20] (fun q i wr => ∃ k : Nat, k ≤ x.elems.length ∧ i = .int .i64 k ∧ q = .int .i64 (mostB (x.elems.take k) f) ∧ Kept w1 wr) (fun _ i _ => x.elems.length - (intOf i).toNat)
  case atStart => exact ⟨0, Nat.zero_le _, rfl, rfl, Kept.refl _⟩
  case round =>
    obtain ⟨k, hk, rfl, rfl, hkept⟩ := hrel
    by_cases hlt : k < x.elems.length
    · obtain ⟨b, o, y, rfl, hb', h2, q0, q1, q2, q3⟩ := elems_at (HL.out.kept (K1.trans hkept)) hlt
      have HM := Lib.hid (mostB_snoc f h2)
      clear h2
      generalize mostB (x.elems.take k) f = mk at *
      by_cases hf : y.family = f
      · have HM' := Lib.hid (HM.out.trans (if_pos hf))
        have hf' : (y.family == f) = true := by simp [hf]
        clear hf HM
        go_wp2_with fail
        all_goals
          go_roundw
          case rel => exact ⟨k + 1, by omega, by go_num, by rw [HM'.out]; congr 1; omega, hkept.alloc _⟩
          case measure => simp [intOf]; omega
      · have HM' := Lib.hid (HM.out.trans (if_neg hf))
        have hf' : (y.family == f) = false := beq_eq_false_iff_ne.2 hf
        clear hf HM
        go_wp2_with fail
        go_roundw
        case rel => exact ⟨k + 1, by omega, by go_num, by rw [HM'.out], hkept.alloc _⟩
        case measure => simp [intOf]; omega
    · obtain rfl : k = x.elems.length := by omega
      go_wp2_with fail
      go_ret2
      exact ⟨ret_ib (by rw [EQ.out, List.take_length]) hb.symm, K1.trans hkept⟩
set_option maxHeartbeats 1000000 in
theorem lawGreatestBase_any {w : World} {v0 : Value} (z0 : CodeD) (a1 : Int) (h0 : CodeAt w v0 z0) (_ : (Lit.int .i64 a1).wf = true) :
    Calls Try.prog 4 #[v0, .int .i64 a1] w fun e w' => e = .returned (.bool true) ∧ Kept w w' := by
  have H0 := Lib.hid h0
  obtain ⟨n0, m0, rfl, p0, q0⟩ := h0
  obtain ⟨A0, c0, rfl, _⟩ := p0.1.out
  obtain ⟨D0, d0, rfl, _⟩ := q0.out
  clear p0 q0
  go_enter Try.func4, Try.ntmps4
  have B0 := Box.new w (w.heap.size) 25 #[.slice A0 z0.elems.length c0, .slice D0 z0.limits.length d0, .int .i64 z0.repeats, .int .i64 z0.bonus, .int .i64 z0.keeps, .int .i64 z0.fall] (by simp)
  have K0 : Kept w (w.alloc (.cells #[.slice A0 z0.elems.length c0, .slice D0 z0.limits.length d0, .int .i64 z0.repeats, .int .i64 z0.bonus, .int .i64 z0.keeps, .int .i64 z0.fall] 25)) := (Kept.refl w).alloc _
  obtain ⟨x0, y0⟩ := B0.six
  go_wp2_with fail
  clear x0 y0
  refine (szCode_any _ z0 _ _ (H0.out.kept K0) (by omega) (by omega)).mono ?_
  rintro e w1 ⟨rfl, k1⟩
  replace B0 := B0.kept k1
  have K1 := K0.trans k1
  by_cases hbig0 : ((z0.size : Nat) : Int) ≤ 1048576
  case neg =>
    have e1 : lessOr 1048576 (z0.size) = -1 := by unfold lessOr; exact if_neg (by omega)
    rw [e1]
    go_wp2_with fail
    go_ret
    exact ⟨rfl, K1⟩
  have e1 : lessOr 1048576 (z0.size) = 1048576 - (z0.size : Int) := by unfold lessOr; exact if_pos (by omega)
  rw [e1]
  clear e1
  have hparts0 := code_parts z0
  obtain ⟨x0, y0⟩ := B0.six
  go_wp2_with fail
  clear x0 y0
  refine (toCode_any _ z0 _ (H0.out.kept K1) (by omega) (by omega)).mono ?_
  rintro e w2 ⟨u2, rfl, o2, k2⟩
  replace B0 := B0.kept k2
  have K2 := K1.trans k2
  have R2 := Lib.hid o2.code
  clear o2
  obtain ⟨x0, y0⟩ := B0.six
  go_wp2_with fail
  clear x0 y0
  refine (specGreatestBase_any _ z0 _ _ R2.out).mono ?_
  rintro e w3 ⟨rfl, k3⟩
  replace B0 := B0.kept k3
  replace R2 := Lib.hid (R2.out.kept k3)
  have K3 := K2.trans k3
  clear R2
  obtain ⟨x0, y0⟩ := B0.six
  go_wp2_with fail
  clear x0 y0
  refine (toCode_any _ z0 _ (H0.out.kept K3) (by omega) (by omega)).mono ?_
  rintro e w4 ⟨u4, rfl, o4, k4⟩
  replace B0 := B0.kept k4
  have K4 := K3.trans k4
  have R4 := Lib.hid o4.code
  obtain ⟨n4, m4, rfl, p4, q4, _⟩ := o4
  obtain ⟨A4, c4, rfl, _⟩ := own_form p4.1
  obtain ⟨D4, d4, rfl, _⟩ := own_form q4
  clear p4 q4
  obtain ⟨x0, y0⟩ := B0.six
  go_wp2_with fail
  clear x0 y0
  have KB4 : Kept w4 (w4.alloc (.cells #[.slice A4 z0.elems.length c4, .slice D4 z0.limits.length d4, .int .i64 z0.repeats, .int .i64 z0.bonus, .int .i64 z0.keeps, .int .i64 z0.fall] 30)) := (Kept.refl _).alloc _
  replace B0 := B0.kept KB4
  replace R4 := Lib.hid (R4.out.kept KB4)
  have B4 := Box.new w4 w4.heap.size 30 #[.slice A4 z0.elems.length c4, .slice D4 z0.limits.length d4, .int .i64 z0.repeats, .int .i64 z0.bonus, .int .i64 z0.keeps, .int .i64 z0.fall] rfl
  have KN4 := K4.trans KB4
  refine (greatestBase_any _ z0 _ _ R4.out).mono ?_
  rintro e w5 ⟨rfl, k5⟩
  replace B0 := B0.kept k5
  replace B4 := B4.kept k5
  replace R4 := Lib.hid (R4.out.kept k5)
  have K5 := KN4.trans k5
  obtain ⟨x0, y0⟩ := B0.six
  obtain ⟨x4, y4⟩ := B4.six
  go_wp2_with fail
  clear x0 y0 x4 y4
  replace B0 : Box w5.drew (w.heap.size) 25 #[.slice A0 z0.elems.length c0, .slice D0 z0.limits.length d0, .int .i64 z0.repeats, .int .i64 z0.bonus, .int .i64 z0.keeps, .int .i64 z0.fall] := B0
  replace B4 : Box w5.drew (w4.heap.size) 30 #[.slice A4 z0.elems.length c4, .slice D4 z0.limits.length d4, .int .i64 z0.repeats, .int .i64 z0.bonus, .int .i64 z0.keeps, .int .i64 z0.fall] := B4
  replace R4 := Lib.hid (R4.out.kept (Kept.refl w5).drew)
  have K6d := K5.drew
  go_region_held3 (fun w' => (w'.cell? ⟨w.heap.size, 0, none⟩ = some (.slice A0 z0.elems.length c0) ∧ w'.cell? ⟨w.heap.size, 1, none⟩ = some (.slice D0 z0.limits.length d0) ∧ w'.cell? ⟨w.heap.size, 2, none⟩ = some (.int .i64 z0.repeats) ∧ w'.cell? ⟨w.heap.size, 3, none⟩ = some (.int .i64 z0.bonus) ∧ w'.cell? ⟨w.heap.size, 4, none⟩ = some (.int .i64 z0.keeps) ∧ w'.cell? ⟨w.heap.size, 5, none⟩ = some (.int .i64 z0.fall)) ∧ (w'.cell? ⟨w4.heap.size, 0, none⟩ = some (.slice A4 z0.elems.length c4) ∧ w'.cell? ⟨w4.heap.size, 1, none⟩ = some (.slice D4 z0.limits.length d4) ∧ w'.cell? ⟨w4.heap.size, 2, none⟩ = some (.int .i64 z0.repeats) ∧ w'.cell? ⟨w4.heap.size, 3, none⟩ = some (.int .i64 z0.bonus) ∧ w'.cell? ⟨w4.heap.size, 4, none⟩ = some (.int .i64 z0.keeps) ∧ w'.cell? ⟨w4.heap.size, 5, none⟩ = some (.int .i64 z0.fall))) (first | exact ⟨B0.six.1, B4.six.1⟩ | exact ⟨(B0.kept (by assumption)).six.1, (B4.kept (by assumption)).six.1⟩)
    (first | (go_at_call 15; refine (toCode_any _ z0 _ (H0.out.kept K6d) (by omega) (by omega)).mono ?_; rintro e w6 ⟨u6, rfl, o6, k6⟩) | (go_at_call 17; refine (eqCode_any _ _ z0 _ (R4.out.kept k6) o6.code).mono ?_; rintro e w7 ⟨rfl, k7⟩; have kk7 := k6.trans k7))
  clear o6
  replace B0 := B0.kept kk7
  replace B4 := B4.kept kk7
  replace R4 := Lib.hid (R4.out.kept kk7)
  have K7 := K6d.trans kk7
  go_wp2_with fail
  go_ret
  exact ⟨rfl, K7⟩
end Go.Proofs.Yteebkplldggoiaa
