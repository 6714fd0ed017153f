/- Codes: GreatestBase. -/
import Derived.Test.YthadbgeafcepoaaV2
import Derived.Test.YthadbgeafcepoaaH3
import Derived.Deep.RegionHeld3
import Derived.Deep.DeepCutAuto
namespace Go.Proofs.Ythadbgeafcepoaa
open Go.RowKit

def askedB (x : CodeD) (f : Int) : Bool := codeB x && inB f 0 4
def mostB (es : List ElemD) (f : Int) : Int := es.foldl (fun m y => if y.family = f then max m y.base else m) 0
def gbV (x : CodeD) (f : Int) : Int := if askedB x f then mostB x.elems f else 0
theorem ret_ib {a a' : Int} {b b' : Bool} (h1 : a = a') (h2 : b = b') : Ending.returned (.tuple #[.int .i64 a, .bool b]) = .returned (.tuple #[.int .i64 a', .bool b']) := by rw [h1, h2]
theorem gbV_no {x : CodeD} {f : Int} (h : askedB x f = false) : gbV x f = 0 := by unfold gbV; rw [h]; rfl
theorem mostB_snoc {es : List ElemD} {k : Nat} {y : ElemD} (f : Int) (h : es[k]? = some y) : mostB (es.take (k + 1)) f = if y.family = f then max (mostB (es.take k) f) y.base else mostB (es.take k) f := by
  unfold mostB
  rw [take_snoc h, List.foldl_append]
  rfl
theorem l1Most2_any (a b : Int) (w : World) :
    Calls Try.prog 136 #[.int .i64 a, .int .i64 b] w fun e w' => e = .returned (.int .i64 (max a b)) ∧ w = w' := by
  go_enter Try.func136, Try.ntmps136
  go_wp2
  all_goals
    go_ret
    exact ⟨ret_int (by omega), rfl⟩
theorem cdAsked_any (v : Value) (x : CodeD) (f : Int) (w : World) (h : CodeAt w v x) :
    Calls Try.prog 135 #[v, .int .i64 f] w fun e w' => e = .returned (.bool (askedB x f)) ∧ Kept w w' := by
  have h0 := h
  obtain ⟨nv, mv, rfl, q1, q2⟩ := h
  obtain ⟨A, c, rfl, hnc, hcm, hl⟩ := q1.1.out
  obtain ⟨A2, c2, rfl, _, _, _⟩ := q2.out
  unfold maxLen at hcm
  have HL := Lib.hid hl
  have HS := Lib.hid q1.2
  have H0 := Lib.hid h0
  clear h0 q1 q2 hl
  have K0 : Kept w (w.alloc (.cells #[.slice A x.elems.length c, .slice A2 x.limits.length c2, .int .i64 x.repeats, .int .i64 x.bonus, .int .i64 x.keeps, .int .i64 x.fall] 32)) := (Kept.refl w).alloc _
  by_cases hb : codeB x = true
  · go_enter Try.func135, Try.ntmps135
    go_wp2_with fail
    refine (cdGood_any _ x _ (H0.out.kept K0)).mono ?_
    rintro e w1 ⟨rfl, k1⟩
    rw [hb]
    go_wp2_with (go_at_call 139; refine (l1In_any _ _ _ _).mono ?_; rintro e w' ⟨rfl, rfl⟩)
    go_ret
    exact ⟨ret_bool (by unfold askedB; rw [hb, Bool.true_and]), K0.trans k1⟩
  · simp only [Bool.not_eq_true] at hb
    go_enter Try.func135, Try.ntmps135
    go_wp2_with fail
    refine (cdGood_any _ x _ (H0.out.kept K0)).mono ?_
    rintro e w1 ⟨rfl, k1⟩
    rw [hb]
    go_wp2_with fail
    go_ret
    exact ⟨ret_bool (by unfold askedB; rw [hb, Bool.false_and]), K0.trans k1⟩
set_option maxHeartbeats 1000000 in
theorem specGreatestBase_any (v : Value) (x : CodeD) (f : Int) (w : World) (h : CodeAt w v x) :
    Calls Try.prog 69 #[v, .int .i64 f] w fun e w' => e = .returned (.tuple #[.int .i64 (gbV x f), .bool (askedB x f)]) ∧ Kept w w' := by
  have h0 := h
  obtain ⟨nv, mv, rfl, q1, q2⟩ := h
  obtain ⟨A, c, rfl, hnc, hcm, hl⟩ := q1.1.out
  obtain ⟨A2, c2, rfl, _, _, _⟩ := q2.out
  unfold maxLen at hcm
  have HL := Lib.hid hl
  have HS := Lib.hid q1.2
  have H0 := Lib.hid h0
  clear h0 q1 q2 hl
  have B0 := Box.new w w.heap.size 32 #[.slice A x.elems.length c, .slice A2 x.limits.length c2, .int .i64 x.repeats, .int .i64 x.bonus, .int .i64 x.keeps, .int .i64 x.fall] rfl
  have K0 : Kept w (w.alloc (.cells #[.slice A x.elems.length c, .slice A2 x.limits.length c2, .int .i64 x.repeats, .int .i64 x.bonus, .int .i64 x.keeps, .int .i64 x.fall] 32)) := (Kept.refl w).alloc _
  go_enter Try.func69, Try.ntmps69
  go_wp2_with fail
  refine (cdAsked_any _ x f _ (H0.out.kept K0)).mono ?_
  rintro e w1 ⟨rfl, k1⟩
  by_cases hb : askedB x f = true
  case neg =>
    simp only [Bool.not_eq_true] at hb
    rw [hb]
    go_wp2_with fail
    go_ret2
    exact ⟨ret_ib (gbV_no hb).symm hb.symm, K0.trans k1⟩
  rw [hb]
  have EQ := Lib.hid (show gbV x f = mostB x.elems f from if_pos hb)
  have B1 := B0.kept k1
  have K1 := K0.trans k1
  clear B0 K0 k1
  obtain ⟨x0, y0⟩ := B1.six
  go_wp2_with fail
  clear x0 y0
  go_loopw [6, 16] (fun q i wr => ∃ k : Nat, k ≤ x.elems.length ∧ i = .int .i64 k ∧ q = .int .i64 (mostB (x.elems.take k) f) ∧ Kept w1 wr) (fun _ i _ => x.elems.length - (intOf i).toNat)
  case atStart => exact ⟨0, Nat.zero_le _, rfl, rfl, Kept.refl _⟩
  case round =>
    obtain ⟨k, hk, rfl, rfl, hkept⟩ := hrel
    by_cases hlt : k < x.elems.length
    · obtain ⟨b, o, y, rfl, hb', h2, q0, q1, q2, q3⟩ := elems_at (HL.out.kept (K1.trans hkept)) hlt
      have HM := Lib.hid (mostB_snoc f h2)
      clear h2
      generalize mostB (x.elems.take k) f = mk at *
      by_cases hf : y.family = f
      · have HM' := Lib.hid (HM.out.trans (if_pos hf))
        have hf' : (y.family == f) = true := by simp [hf]
        clear hf HM
        go_wp2_with (go_at_call 136; refine (l1Most2_any _ _ _).mono ?_; rintro e w' ⟨rfl, rfl⟩)
        all_goals
          go_roundw
          case rel => exact ⟨k + 1, by omega, by go_num, by rw [HM'.out], hkept.alloc _⟩
          case measure => simp [intOf]; omega
      · have HM' := Lib.hid (HM.out.trans (if_neg hf))
        have hf' : (y.family == f) = false := beq_eq_false_iff_ne.2 hf
        clear hf HM
        go_wp2_with fail
        go_roundw
        case rel => exact ⟨k + 1, by omega, by go_num, by rw [HM'.out], hkept.alloc _⟩
        case measure => simp [intOf]; omega
    · obtain rfl : k = x.elems.length := by omega
      go_wp2_with fail
      go_ret2
      exact ⟨ret_ib (by rw [EQ.out, List.take_length]) hb.symm, K1.trans hkept⟩
set_option maxHeartbeats 1000000 in
theorem greatestBase_any (v : Value) (x : CodeD) (f : Int) (w : World) (h : CodeAt w v x) :
    Calls Try.prog 68 #[v, .int .i64 f] w fun e w' => e = .returned (.tuple #[.int .i64 (gbV x f), .bool (askedB x f)]) ∧ Kept w w' := by
  have h0 := h
  obtain ⟨nv, mv, rfl, q1, q2⟩ := h
  obtain ⟨A, c, rfl, hnc, hcm, hl⟩ := q1.1.out
  obtain ⟨A2, c2, rfl, _, _, _⟩ := q2.out
  unfold maxLen at hcm
  have HL := Lib.hid hl
  have HS := Lib.hid q1.2
  have H0 := Lib.hid h0
  clear h0 q1 q2 hl
  have B0 := Box.new w w.heap.size 32 #[.slice A x.elems.length c, .slice A2 x.limits.length c2, .int .i64 x.repeats, .int .i64 x.bonus, .int .i64 x.keeps, .int .i64 x.fall] rfl
  have K0 : Kept w (w.alloc (.cells #[.slice A x.elems.length c, .slice A2 x.limits.length c2, .int .i64 x.repeats, .int .i64 x.bonus, .int .i64 x.keeps, .int .i64 x.fall] 32)) := (Kept.refl w).alloc _
  go_enter Try.func68, Try.ntmps68
  go_wp2_with fail
  refine (isCode_any _ x _ (H0.out.kept K0)).mono ?_
  rintro e w1 ⟨rfl, k1⟩
  by_cases hb : askedB x f = true
  case neg =>
    simp only [Bool.not_eq_true] at hb
    have HB := Lib.hid hb
    by_cases hc : codeB x = true
    · rw [hc]
      unfold askedB at hb
      rw [hc, Bool.true_and] at hb
      go_wp2_with (go_at_call 132; refine (isFamily_any _ _).mono ?_; rintro e w' ⟨rfl, rfl⟩)
      go_ret2
      exact ⟨ret_ib (gbV_no HB.out).symm HB.out.symm, K0.trans k1⟩
    · simp only [Bool.not_eq_true] at hc
      rw [hc]
      clear hb
      go_wp2_with fail
      go_ret2
      exact ⟨ret_ib (gbV_no HB.out).symm HB.out.symm, K0.trans k1⟩
  have hc : codeB x = true := by unfold askedB at hb; rw [Bool.and_eq_true] at hb; exact hb.1
  have hd : inB f 0 4 = true := by unfold askedB at hb; rw [Bool.and_eq_true] at hb; exact hb.2
  rw [hc]
  clear hc
  go_upto_region 3 with (go_at_call 132; refine (isFamily_any _ _).mono ?_; rintro e w' ⟨rfl, rfl⟩)
  have EQ := Lib.hid (show gbV x f = mostB x.elems f from if_pos hb)
  have B1 := B0.kept k1
  have K1 := K0.trans k1
  clear B0 K0 k1
  obtain ⟨x0, y0⟩ := B1.six
  go_wp2_with fail
  clear x0 y0
  go_loopw [6, 20] (fun q i wr => ∃ k : Nat, k ≤ x.elems.length ∧ i = .int .i64 k ∧ q = .int .i64 (mostB (x.elems.take k) f) ∧ Kept w1 wr) (fun _ i _ => x.elems.length - (intOf i).toNat)
  case atStart => exact ⟨0, Nat.zero_le _, rfl, rfl, Kept.refl _⟩
  case round =>
    obtain ⟨k, hk, rfl, rfl, hkept⟩ := hrel
    by_cases hlt : k < x.elems.length
    · obtain ⟨b, o, y, rfl, hb', h2, q0, q1, q2, q3⟩ := elems_at (HL.out.kept (K1.trans hkept)) hlt
      have HM := Lib.hid (mostB_snoc f h2)
      clear h2
      generalize mostB (x.elems.take k) f = mk at *
      by_cases hf : y.family = f
      · have HM' := Lib.hid (HM.out.trans (if_pos hf))
        have hf' : (y.family == f) = true := by simp [hf]
        clear hf HM
        go_wp2_with fail
        all_goals
          go_roundw
          case rel => exact ⟨k + 1, by omega, by go_num, by rw [HM'.out]; congr 1; omega, hkept.alloc _⟩
          case measure => simp [intOf]; omega
      · have HM' := Lib.hid (HM.out.trans (if_neg hf))
        have hf' : (y.family == f) = false := beq_eq_false_iff_ne.2 hf
        clear hf HM
        go_wp2_with fail
        go_roundw
        case rel => exact ⟨k + 1, by omega, by go_num, by rw [HM'.out], hkept.alloc _⟩
        case measure => simp [intOf]; omega
    · obtain rfl : k = x.elems.length := by omega
      go_wp2_with fail
      go_ret2
      exact ⟨ret_ib (by rw [EQ.out, List.take_length]) hb.symm, K1.trans hkept⟩
end Go.Proofs.Ythadbgeafcepoaa
