/- Items over a code: FamilyOf, ItemFamily, KnowsItems. -/
import Derived.Test.YthadbgeafcepoaaWb
import Derived.Test.YthadbgeafcepoaaU
import Derived.Test.YthadbgeafcepoaaY
namespace Go.Proofs.Ythadbgeafcepoaa
open Go.RowKit

def onB (b v : Bool) : Bool := cond b v false
set_option maxHeartbeats 1000000 in
theorem specFamilyOf_any (v0 v1 : Value) (x : CodeD) (it : ItemD) (w : World) (h0 : CodeAt w v0 x) (h1 : ItemAt w v1 it)  :
    Calls Try.prog 27 #[v0, v1] w fun e w' => e = .returned (.tuple #[.int .i64 (onI (fmOk x it) (famV x it)), .bool (fmOk x it)]) ∧ Kept w w' := by
  have H0 := Lib.hid h0
  obtain ⟨n0, m0, rfl, p0, q0⟩ := h0
  have HE0 := Lib.hid p0; have HI0 := Lib.hid q0
  obtain ⟨A0, c0, rfl, hnc0, hcm0, _⟩ := p0.1.out; obtain ⟨D0, d0, rfl, hnd0, hdm0, _⟩ := q0.out; clear p0 q0; unfold maxLen at hcm0 hdm0
  have H1 := Lib.hid h1
  obtain ⟨n1, m1, rfl, p1, q1⟩ := h1
  have HN1 := Lib.hid p1; have HM1 := Lib.hid q1
  obtain ⟨A1, c1, rfl, hnc1, hcm1, _⟩ := p1.1.out; obtain ⟨D1, d1, rfl, hnd1, hdm1, _⟩ := q1.out; clear p1 q1; unfold maxLen at hcm1 hdm1
  go_enter Try.func27, Try.ntmps27
  have K0 := Kept.refl w
  go_wp2_with fail
  obtain ⟨wb1, hwb1⟩ : ∃ w' : World, w' = w.alloc (.cells #[.slice A0 x.elems.length c0, .slice D0 x.limits.length d0, .int .i64 x.repeats, .int .i64 x.bonus, .int .i64 x.keeps, .int .i64 x.fall] 32) := ⟨_, rfl⟩
  rw [← hwb1]
  have KB0 : Kept w wb1 := hwb1 ▸ (Kept.refl w).alloc _
  have B0 : Box wb1 (w.heap.size) 32 #[.slice A0 x.elems.length c0, .slice D0 x.limits.length d0, .int .i64 x.repeats, .int .i64 x.bonus, .int .i64 x.keeps, .int .i64 x.fall] := hwb1 ▸ Box.new w (w.heap.size) 32 #[.slice A0 x.elems.length c0, .slice D0 x.limits.length d0, .int .i64 x.repeats, .int .i64 x.bonus, .int .i64 x.keeps, .int .i64 x.fall] rfl
  have swb1 : wb1.heap.size = w.heap.size + 1 := by rw [hwb1]; simp
  clear hwb1
  have Kwb1 := K0.trans KB0
  obtain ⟨wb2, hwb2⟩ : ∃ w' : World, w' = wb1.alloc (.cells #[.slice A1 it.names.length c1, .slice D1 it.marks.length d1, .bool it.late] 47) := ⟨_, rfl⟩
  rw [← hwb2]
  have KB1 : Kept wb1 wb2 := hwb2 ▸ (Kept.refl wb1).alloc _
  have B1 : Box wb2 (w.heap.size + 1) 47 #[.slice A1 it.names.length c1, .slice D1 it.marks.length d1, .bool it.late] := hwb2 ▸ Box.new wb1 (w.heap.size + 1) 47 #[.slice A1 it.names.length c1, .slice D1 it.marks.length d1, .bool it.late] (by omega)
  have swb2 : wb2.heap.size = wb1.heap.size + 1 := by rw [hwb2]; simp
  clear hwb2
  replace B0 := B0.kept KB1
  have Kwb2 := Kwb1.trans KB1
  refine (cdGood_any _ x _ (H0.out.kept Kwb2)).mono ?_
  rintro e w1 ⟨rfl, k1⟩
  replace B0 := B0.kept k1
  replace B1 := B1.kept k1
  have sz1 := k1.size
  have K1 := Kwb2.trans k1
  by_cases hc : codeB x = true
  case neg =>
    simp only [Bool.not_eq_true] at hc
    rw [hc]
    have HO : Hid (fmOk x it = false) := Lib.hid (by unfold fmOk; simp [hc])
    obtain ⟨x0, y0⟩ := B0.six
    obtain ⟨x1, y1⟩ := B1.three
    go_wp2_with fail
    clear x0 y0 x1 y1
    go_ret2
    exact ⟨by rw [HO.out]; rfl, K1⟩
  rw [hc]
  obtain ⟨x0, y0⟩ := B0.six
  obtain ⟨x1, y1⟩ := B1.three
  go_wp2_with fail
  clear x0 y0 x1 y1
  refine (itGood_any _ it _ (H1.out.kept K1)).mono ?_
  rintro e w2 ⟨rfl, k2⟩
  replace B0 := B0.kept k2
  replace B1 := B1.kept k2
  have sz2 := k2.size
  have K2 := K1.trans k2
  by_cases hi : itemB it = true
  case neg =>
    simp only [Bool.not_eq_true] at hi
    rw [hi]
    have HO : Hid (fmOk x it = false) := Lib.hid (by unfold fmOk; simp [hc, hi])
    obtain ⟨x0, y0⟩ := B0.six
    obtain ⟨x1, y1⟩ := B1.three
    go_wp2_with fail
    clear x0 y0 x1 y1
    go_ret2
    exact ⟨by rw [HO.out]; rfl, K2⟩
  rw [hi]
  have h1 := (item_some hi).1
  obtain ⟨x0, y0⟩ := B0.six
  obtain ⟨x1, y1⟩ := B1.three
  go_wp2_with fail
  clear x0 y0 x1 y1
  refine (pgFamily_any _ _ x it _ (H0.out.kept K2) (H1.out.kept K2) h1).mono ?_
  rintro e w3 ⟨rfl, k3⟩
  replace B0 := B0.kept k3
  replace B1 := B1.kept k3
  have sz3 := k3.size
  have K3 := K2.trans k3
  by_cases hf : famV x it < 0
  · have HO : Hid (fmOk x it = false) := Lib.hid (by unfold fmOk; rw [hc, hi, Bool.true_and]; exact decide_eq_false (by omega))
    obtain ⟨x0, y0⟩ := B0.six
    obtain ⟨x1, y1⟩ := B1.three
    go_wp2_with fail
    clear x0 y0 x1 y1
    go_ret2
    exact ⟨by rw [HO.out]; rfl, K3⟩
  · have HO : Hid (fmOk x it = true) := Lib.hid (by unfold fmOk; rw [hc, hi, Bool.true_and]; exact decide_eq_true (by omega))
    obtain ⟨x0, y0⟩ := B0.six
    obtain ⟨x1, y1⟩ := B1.three
    go_wp2_with fail
    clear x0 y0 x1 y1
    refine (pgFamily_any _ _ x it _ (H0.out.kept K3) (H1.out.kept K3) h1).mono ?_
    rintro e w4 ⟨rfl, k4⟩
    replace B0 := B0.kept k4
    replace B1 := B1.kept k4
    have sz4 := k4.size
    have K4 := K3.trans k4
    obtain ⟨x0, y0⟩ := B0.six
    obtain ⟨x1, y1⟩ := B1.three
    go_wp2_with fail
    clear x0 y0 x1 y1
    go_ret2
    exact ⟨by rw [HO.out]; rfl, K4⟩
set_option maxHeartbeats 1000000 in
theorem implFamilyOf_any (v0 v1 : Value) (x : CodeD) (it : ItemD) (w : World) (h0 : CodeAt w v0 x) (h1 : ItemAt w v1 it)  :
    Calls Try.prog 29 #[v0, v1] w fun e w' => e = .returned (.tuple #[.int .i64 (onI (fmOk x it) (famV x it)), .bool (fmOk x it)]) ∧ Kept w w' := by
  have H0 := Lib.hid h0
  obtain ⟨n0, m0, rfl, p0, q0⟩ := h0
  have HE0 := Lib.hid p0; have HI0 := Lib.hid q0
  obtain ⟨A0, c0, rfl, hnc0, hcm0, _⟩ := p0.1.out; obtain ⟨D0, d0, rfl, hnd0, hdm0, _⟩ := q0.out; clear p0 q0; unfold maxLen at hcm0 hdm0
  have H1 := Lib.hid h1
  obtain ⟨n1, m1, rfl, p1, q1⟩ := h1
  have HN1 := Lib.hid p1; have HM1 := Lib.hid q1
  obtain ⟨A1, c1, rfl, hnc1, hcm1, _⟩ := p1.1.out; obtain ⟨D1, d1, rfl, hnd1, hdm1, _⟩ := q1.out; clear p1 q1; unfold maxLen at hcm1 hdm1
  go_enter Try.func29, Try.ntmps29
  have K0 := Kept.refl w
  go_wp2_with fail
  obtain ⟨wb1, hwb1⟩ : ∃ w' : World, w' = w.alloc (.cells #[.slice A0 x.elems.length c0, .slice D0 x.limits.length d0, .int .i64 x.repeats, .int .i64 x.bonus, .int .i64 x.keeps, .int .i64 x.fall] 32) := ⟨_, rfl⟩
  rw [← hwb1]
  have KB0 : Kept w wb1 := hwb1 ▸ (Kept.refl w).alloc _
  have B0 : Box wb1 (w.heap.size) 32 #[.slice A0 x.elems.length c0, .slice D0 x.limits.length d0, .int .i64 x.repeats, .int .i64 x.bonus, .int .i64 x.keeps, .int .i64 x.fall] := hwb1 ▸ Box.new w (w.heap.size) 32 #[.slice A0 x.elems.length c0, .slice D0 x.limits.length d0, .int .i64 x.repeats, .int .i64 x.bonus, .int .i64 x.keeps, .int .i64 x.fall] rfl
  have swb1 : wb1.heap.size = w.heap.size + 1 := by rw [hwb1]; simp
  clear hwb1
  have Kwb1 := K0.trans KB0
  obtain ⟨wb2, hwb2⟩ : ∃ w' : World, w' = wb1.alloc (.cells #[.slice A1 it.names.length c1, .slice D1 it.marks.length d1, .bool it.late] 47) := ⟨_, rfl⟩
  rw [← hwb2]
  have KB1 : Kept wb1 wb2 := hwb2 ▸ (Kept.refl wb1).alloc _
  have B1 : Box wb2 (w.heap.size + 1) 47 #[.slice A1 it.names.length c1, .slice D1 it.marks.length d1, .bool it.late] := hwb2 ▸ Box.new wb1 (w.heap.size + 1) 47 #[.slice A1 it.names.length c1, .slice D1 it.marks.length d1, .bool it.late] (by omega)
  have swb2 : wb2.heap.size = wb1.heap.size + 1 := by rw [hwb2]; simp
  clear hwb2
  replace B0 := B0.kept KB1
  have Kwb2 := Kwb1.trans KB1
  refine (isCode_any _ x _ (H0.out.kept Kwb2)).mono ?_
  rintro e w1 ⟨rfl, k1⟩
  replace B0 := B0.kept k1
  replace B1 := B1.kept k1
  have sz1 := k1.size
  have K1 := Kwb2.trans k1
  by_cases hc : codeB x = true
  case neg =>
    simp only [Bool.not_eq_true] at hc
    rw [hc]
    have HO : Hid (fmOk x it = false) := Lib.hid (by unfold fmOk; simp [hc])
    obtain ⟨x0, y0⟩ := B0.six
    obtain ⟨x1, y1⟩ := B1.three
    go_wp2_with fail
    clear x0 y0 x1 y1
    go_ret2
    exact ⟨by rw [HO.out]; rfl, K1⟩
  rw [hc]
  obtain ⟨x0, y0⟩ := B0.six
  obtain ⟨x1, y1⟩ := B1.three
  go_wp2_with fail
  clear x0 y0 x1 y1
  refine (isItem_any _ it _ (H1.out.kept K1)).mono ?_
  rintro e w2 ⟨rfl, k2⟩
  replace B0 := B0.kept k2
  replace B1 := B1.kept k2
  have sz2 := k2.size
  have K2 := K1.trans k2
  by_cases hi : itemB it = true
  case neg =>
    simp only [Bool.not_eq_true] at hi
    rw [hi]
    have HO : Hid (fmOk x it = false) := Lib.hid (by unfold fmOk; simp [hc, hi])
    obtain ⟨x0, y0⟩ := B0.six
    obtain ⟨x1, y1⟩ := B1.three
    go_wp2_with fail
    clear x0 y0 x1 y1
    go_ret2
    exact ⟨by rw [HO.out]; rfl, K2⟩
  rw [hi]
  have h1 := (item_some hi).1
  obtain ⟨x0, y0⟩ := B0.six
  obtain ⟨x1, y1⟩ := B1.three
  go_wp2_with fail
  clear x0 y0 x1 y1
  refine (familyOf_any _ _ x it _ (H0.out.kept K2) (H1.out.kept K2) h1).mono ?_
  rintro e w3 ⟨rfl, k3⟩
  replace B0 := B0.kept k3
  replace B1 := B1.kept k3
  have sz3 := k3.size
  have K3 := K2.trans k3
  by_cases hf : famV x it < 0
  · have HO : Hid (fmOk x it = false) := Lib.hid (by unfold fmOk; rw [hc, hi, Bool.true_and]; exact decide_eq_false (by omega))
    obtain ⟨x0, y0⟩ := B0.six
    obtain ⟨x1, y1⟩ := B1.three
    go_wp2_with fail
    clear x0 y0 x1 y1
    go_ret2
    exact ⟨by rw [HO.out]; rfl, K3⟩
  · have HO : Hid (fmOk x it = true) := Lib.hid (by unfold fmOk; rw [hc, hi, Bool.true_and]; exact decide_eq_true (by omega))
    obtain ⟨x0, y0⟩ := B0.six
    obtain ⟨x1, y1⟩ := B1.three
    go_wp2_with fail
    clear x0 y0 x1 y1
    refine (familyOf_any _ _ x it _ (H0.out.kept K3) (H1.out.kept K3) h1).mono ?_
    rintro e w4 ⟨rfl, k4⟩
    replace B0 := B0.kept k4
    replace B1 := B1.kept k4
    have sz4 := k4.size
    have K4 := K3.trans k4
    obtain ⟨x0, y0⟩ := B0.six
    obtain ⟨x1, y1⟩ := B1.three
    go_wp2_with fail
    clear x0 y0 x1 y1
    go_ret2
    exact ⟨by rw [HO.out]; rfl, K4⟩
set_option maxHeartbeats 1000000 in
theorem specKnowsItems_any (v0 v1 : Value) (x : CodeD) (its : List ItemD) (w : World) (h0 : CodeAt w v0 x) (h1 : ItemsAt w v1 its)  :
    Calls Try.prog 34 #[v0, v1] w fun e w' => e = .returned (.tuple #[.bool (onB (kwOk x its) (knB x its)), .bool (kwOk x its)]) ∧ Kept w w' := by
  have H0 := Lib.hid h0
  obtain ⟨n0, m0, rfl, p0, q0⟩ := h0
  have HE0 := Lib.hid p0; have HI0 := Lib.hid q0
  obtain ⟨A0, c0, rfl, hnc0, hcm0, _⟩ := p0.1.out; obtain ⟨D0, d0, rfl, hnd0, hdm0, _⟩ := q0.out; clear p0 q0; unfold maxLen at hcm0 hdm0
  have H1 := Lib.hid h1
  obtain ⟨A1, c1, cs1, rfl, hnc1, hcm1, hA1⟩ := h1.out; have HA1 := Lib.hid hA1; clear hA1 h1; unfold maxLen at hcm1
  go_enter Try.func34, Try.ntmps34
  have K0 := Kept.refl w
  go_wp2_with fail
  obtain ⟨wb1, hwb1⟩ : ∃ w' : World, w' = w.alloc (.cells #[.slice A0 x.elems.length c0, .slice D0 x.limits.length d0, .int .i64 x.repeats, .int .i64 x.bonus, .int .i64 x.keeps, .int .i64 x.fall] 32) := ⟨_, rfl⟩
  rw [← hwb1]
  have KB0 : Kept w wb1 := hwb1 ▸ (Kept.refl w).alloc _
  have B0 : Box wb1 (w.heap.size) 32 #[.slice A0 x.elems.length c0, .slice D0 x.limits.length d0, .int .i64 x.repeats, .int .i64 x.bonus, .int .i64 x.keeps, .int .i64 x.fall] := hwb1 ▸ Box.new w (w.heap.size) 32 #[.slice A0 x.elems.length c0, .slice D0 x.limits.length d0, .int .i64 x.repeats, .int .i64 x.bonus, .int .i64 x.keeps, .int .i64 x.fall] rfl
  have swb1 : wb1.heap.size = w.heap.size + 1 := by rw [hwb1]; simp
  clear hwb1
  have Kwb1 := K0.trans KB0
  refine (cdGood_any _ x _ (H0.out.kept Kwb1)).mono ?_
  rintro e w1 ⟨rfl, k1⟩
  replace B0 := B0.kept k1
  have sz1 := k1.size
  have K1 := Kwb1.trans k1
  by_cases hc : codeB x = true
  case neg =>
    simp only [Bool.not_eq_true] at hc
    rw [hc]
    have HO : Hid (kwOk x its = false) := Lib.hid (by unfold kwOk; simp [hc])
    obtain ⟨x0, y0⟩ := B0.six
    go_wp2_with fail
    clear x0 y0
    go_ret2
    exact ⟨by rw [HO.out]; rfl, K1⟩
  rw [hc]
  obtain ⟨x0, y0⟩ := B0.six
  go_wp2_with fail
  clear x0 y0
  refine (itList_any _ its _ (H1.out.kept K1)).mono ?_
  rintro e w2 ⟨rfl, k2⟩
  replace B0 := B0.kept k2
  have sz2 := k2.size
  have K2 := K1.trans k2
  by_cases hi : itemsB its = true
  case neg =>
    simp only [Bool.not_eq_true] at hi
    rw [hi]
    have HO : Hid (kwOk x its = false) := Lib.hid (by unfold kwOk; simp [hc, hi])
    obtain ⟨x0, y0⟩ := B0.six
    go_wp2_with fail
    clear x0 y0
    go_ret2
    exact ⟨by rw [HO.out]; rfl, K2⟩
  rw [hi]
  obtain ⟨x0, y0⟩ := B0.six
  go_wp2_with fail
  clear x0 y0
  refine (bsKnows_any _ _ x its _ (H0.out.kept K2) (H1.out.kept K2)).mono ?_
  rintro e w3 ⟨rfl, k3⟩
  replace B0 := B0.kept k3
  have sz3 := k3.size
  have K3 := K2.trans k3
  have HO : Hid (kwOk x its = true) := Lib.hid (by unfold kwOk; rw [hc, hi]; rfl)
  obtain ⟨x0, y0⟩ := B0.six
  go_wp2_with fail
  clear x0 y0
  go_ret2
  exact ⟨by rw [HO.out]; rfl, K3⟩
set_option maxHeartbeats 1000000 in
theorem implKnowsItems_any (v0 v1 : Value) (x : CodeD) (its : List ItemD) (w : World) (h0 : CodeAt w v0 x) (h1 : ItemsAt w v1 its)  :
    Calls Try.prog 36 #[v0, v1] w fun e w' => e = .returned (.tuple #[.bool (onB (kwOk x its) (knB x its)), .bool (kwOk x its)]) ∧ Kept w w' := by
  have H0 := Lib.hid h0
  obtain ⟨n0, m0, rfl, p0, q0⟩ := h0
  have HE0 := Lib.hid p0; have HI0 := Lib.hid q0
  obtain ⟨A0, c0, rfl, hnc0, hcm0, _⟩ := p0.1.out; obtain ⟨D0, d0, rfl, hnd0, hdm0, _⟩ := q0.out; clear p0 q0; unfold maxLen at hcm0 hdm0
  have H1 := Lib.hid h1
  obtain ⟨A1, c1, cs1, rfl, hnc1, hcm1, hA1⟩ := h1.out; have HA1 := Lib.hid hA1; clear hA1 h1; unfold maxLen at hcm1
  go_enter Try.func36, Try.ntmps36
  have K0 := Kept.refl w
  go_wp2_with fail
  obtain ⟨wb1, hwb1⟩ : ∃ w' : World, w' = w.alloc (.cells #[.slice A0 x.elems.length c0, .slice D0 x.limits.length d0, .int .i64 x.repeats, .int .i64 x.bonus, .int .i64 x.keeps, .int .i64 x.fall] 32) := ⟨_, rfl⟩
  rw [← hwb1]
  have KB0 : Kept w wb1 := hwb1 ▸ (Kept.refl w).alloc _
  have B0 : Box wb1 (w.heap.size) 32 #[.slice A0 x.elems.length c0, .slice D0 x.limits.length d0, .int .i64 x.repeats, .int .i64 x.bonus, .int .i64 x.keeps, .int .i64 x.fall] := hwb1 ▸ Box.new w (w.heap.size) 32 #[.slice A0 x.elems.length c0, .slice D0 x.limits.length d0, .int .i64 x.repeats, .int .i64 x.bonus, .int .i64 x.keeps, .int .i64 x.fall] rfl
  have swb1 : wb1.heap.size = w.heap.size + 1 := by rw [hwb1]; simp
  clear hwb1
  have Kwb1 := K0.trans KB0
  refine (isCode_any _ x _ (H0.out.kept Kwb1)).mono ?_
  rintro e w1 ⟨rfl, k1⟩
  replace B0 := B0.kept k1
  have sz1 := k1.size
  have K1 := Kwb1.trans k1
  by_cases hc : codeB x = true
  case neg =>
    simp only [Bool.not_eq_true] at hc
    rw [hc]
    have HO : Hid (kwOk x its = false) := Lib.hid (by unfold kwOk; simp [hc])
    obtain ⟨x0, y0⟩ := B0.six
    go_wp2_with fail
    clear x0 y0
    go_ret2
    exact ⟨by rw [HO.out]; rfl, K1⟩
  rw [hc]
  obtain ⟨x0, y0⟩ := B0.six
  go_wp2_with fail
  clear x0 y0
  refine (areItems_any _ its _ (H1.out.kept K1)).mono ?_
  rintro e w2 ⟨rfl, k2⟩
  replace B0 := B0.kept k2
  have sz2 := k2.size
  have K2 := K1.trans k2
  by_cases hi : itemsB its = true
  case neg =>
    simp only [Bool.not_eq_true] at hi
    rw [hi]
    have HO : Hid (kwOk x its = false) := Lib.hid (by unfold kwOk; simp [hc, hi])
    obtain ⟨x0, y0⟩ := B0.six
    go_wp2_with fail
    clear x0 y0
    go_ret2
    exact ⟨by rw [HO.out]; rfl, K2⟩
  rw [hi]
  obtain ⟨x0, y0⟩ := B0.six
  go_wp2_with fail
  clear x0 y0
  refine (isKnown_any _ _ x its _ (H0.out.kept K2) (H1.out.kept K2)).mono ?_
  rintro e w3 ⟨rfl, k3⟩
  replace B0 := B0.kept k3
  have sz3 := k3.size
  have K3 := K2.trans k3
  have HO : Hid (kwOk x its = true) := Lib.hid (by unfold kwOk; rw [hc, hi]; rfl)
  obtain ⟨x0, y0⟩ := B0.six
  go_wp2_with fail
  clear x0 y0
  go_ret2
  exact ⟨by rw [HO.out]; rfl, K3⟩
set_option maxHeartbeats 1000000 in
theorem specItemFamily_any (v0 v1 : Value) (x : CodeD) (it : ItemD) (w : World) (h0 : CodeAt w v0 x) (h1 : ItemAt w v1 it)  :
    Calls Try.prog 31 #[v0, v1] w fun e w' => e = .returned (.tuple #[.int .i64 (onI (gdB x [it]) (famV x it)), .bool (gdB x [it])]) ∧ Kept w w' := by
  have H0 := Lib.hid h0
  obtain ⟨n0, m0, rfl, p0, q0⟩ := h0
  have HE0 := Lib.hid p0; have HI0 := Lib.hid q0
  obtain ⟨A0, c0, rfl, hnc0, hcm0, _⟩ := p0.1.out; obtain ⟨D0, d0, rfl, hnd0, hdm0, _⟩ := q0.out; clear p0 q0; unfold maxLen at hcm0 hdm0
  have H1 := Lib.hid h1
  obtain ⟨n1, m1, rfl, p1, q1⟩ := h1
  have HN1 := Lib.hid p1; have HM1 := Lib.hid q1
  obtain ⟨A1, c1, rfl, hnc1, hcm1, _⟩ := p1.1.out; obtain ⟨D1, d1, rfl, hnd1, hdm1, _⟩ := q1.out; clear p1 q1; unfold maxLen at hcm1 hdm1
  go_enter Try.func31, Try.ntmps31
  have K0 := Kept.refl w
  go_wp2_with fail
  obtain ⟨wb1, hwb1⟩ : ∃ w' : World, w' = w.alloc (.cells #[.slice A0 x.elems.length c0, .slice D0 x.limits.length d0, .int .i64 x.repeats, .int .i64 x.bonus, .int .i64 x.keeps, .int .i64 x.fall] 32) := ⟨_, rfl⟩
  rw [← hwb1]
  have KB0 : Kept w wb1 := hwb1 ▸ (Kept.refl w).alloc _
  have B0 : Box wb1 (w.heap.size) 32 #[.slice A0 x.elems.length c0, .slice D0 x.limits.length d0, .int .i64 x.repeats, .int .i64 x.bonus, .int .i64 x.keeps, .int .i64 x.fall] := hwb1 ▸ Box.new w (w.heap.size) 32 #[.slice A0 x.elems.length c0, .slice D0 x.limits.length d0, .int .i64 x.repeats, .int .i64 x.bonus, .int .i64 x.keeps, .int .i64 x.fall] rfl
  have swb1 : wb1.heap.size = w.heap.size + 1 := by rw [hwb1]; simp
  clear hwb1
  have Kwb1 := K0.trans KB0
  obtain ⟨wb2, hwb2⟩ : ∃ w' : World, w' = wb1.alloc (.cells #[.slice A1 it.names.length c1, .slice D1 it.marks.length d1, .bool it.late] 47) := ⟨_, rfl⟩
  rw [← hwb2]
  have KB1 : Kept wb1 wb2 := hwb2 ▸ (Kept.refl wb1).alloc _
  have B1 : Box wb2 (w.heap.size + 1) 47 #[.slice A1 it.names.length c1, .slice D1 it.marks.length d1, .bool it.late] := hwb2 ▸ Box.new wb1 (w.heap.size + 1) 47 #[.slice A1 it.names.length c1, .slice D1 it.marks.length d1, .bool it.late] (by omega)
  have swb2 : wb2.heap.size = wb1.heap.size + 1 := by rw [hwb2]; simp
  clear hwb2
  replace B0 := B0.kept KB1
  have Kwb2 := Kwb1.trans KB1
  obtain ⟨wb3, hwb3⟩ : ∃ w' : World, w' = wb2.alloc (.cells #[.slice A1 it.names.length c1, .slice D1 it.marks.length d1, .bool it.late] 47) := ⟨_, rfl⟩
  rw [← hwb3]
  have KBn : Kept wb2 wb3 := hwb3 ▸ (Kept.refl wb2).alloc _
  have Bn : Box wb3 (w.heap.size + 1 + 1) 47 #[.slice A1 it.names.length c1, .slice D1 it.marks.length d1, .bool it.late] := hwb3 ▸ Box.new wb2 (w.heap.size + 1 + 1) 47 #[.slice A1 it.names.length c1, .slice D1 it.marks.length d1, .bool it.late] (by omega)
  have swb3 : wb3.heap.size = wb2.heap.size + 1 := by rw [hwb3]; simp
  clear hwb3
  replace B0 := B0.kept KBn
  replace B1 := B1.kept KBn
  have Kwb3 := Kwb2.trans KBn
  have HONE := Lib.hid (items_one Bn (H1.out.kept Kwb3))
  refine (bsGood_any _ _ x [it] _ (H0.out.kept Kwb3) HONE.out).mono ?_
  rintro e w1 ⟨rfl, k1⟩
  replace B0 := B0.kept k1
  replace B1 := B1.kept k1
  replace Bn := Bn.kept k1
  have sz1 := k1.size
  have K1 := Kwb3.trans k1
  by_cases hg : gdB x [it] = true
  case neg =>
    simp only [Bool.not_eq_true] at hg
    rw [hg]
    have HO := Lib.hid hg
    clear hg
    obtain ⟨x0, y0⟩ := B0.six
    obtain ⟨x1, y1⟩ := B1.three
    obtain ⟨xn, yn⟩ := Bn.three
    go_wp2_with fail
    clear x0 y0 x1 y1 xn yn
    go_ret2
    exact ⟨by rw [HO.out]; rfl, K1⟩
  rw [hg]
  obtain ⟨hc, hi, hk⟩ := gdB_true hg
  rw [itemsB_one] at hi
  rw [knB_one] at hk
  have HG := Lib.hid hg
  clear hg
  have h1 := (item_some hi).1
  obtain ⟨x0, y0⟩ := B0.six
  obtain ⟨x1, y1⟩ := B1.three
  obtain ⟨xn, yn⟩ := Bn.three
  go_wp2_with fail
  clear x0 y0 x1 y1 xn yn
  refine (bsFamily_any _ _ x it _ (H0.out.kept K1) (H1.out.kept K1) h1 hk).mono ?_
  rintro e w2 ⟨rfl, k2⟩
  replace B0 := B0.kept k2
  replace B1 := B1.kept k2
  replace Bn := Bn.kept k2
  have sz2 := k2.size
  have K2 := K1.trans k2
  obtain ⟨x0, y0⟩ := B0.six
  obtain ⟨x1, y1⟩ := B1.three
  obtain ⟨xn, yn⟩ := Bn.three
  go_wp2_with fail
  clear x0 y0 x1 y1 xn yn
  go_ret2
  exact ⟨by rw [HG.out]; rfl, K2⟩
set_option maxHeartbeats 1000000 in
theorem implItemFamily_any (v0 v1 : Value) (x : CodeD) (it : ItemD) (w : World) (h0 : CodeAt w v0 x) (h1 : ItemAt w v1 it)  :
    Calls Try.prog 32 #[v0, v1] w fun e w' => e = .returned (.tuple #[.int .i64 (onI (gdB x [it]) (famV x it)), .bool (gdB x [it])]) ∧ Kept w w' := by
  have H0 := Lib.hid h0
  obtain ⟨n0, m0, rfl, p0, q0⟩ := h0
  have HE0 := Lib.hid p0; have HI0 := Lib.hid q0
  obtain ⟨A0, c0, rfl, hnc0, hcm0, _⟩ := p0.1.out; obtain ⟨D0, d0, rfl, hnd0, hdm0, _⟩ := q0.out; clear p0 q0; unfold maxLen at hcm0 hdm0
  have H1 := Lib.hid h1
  obtain ⟨n1, m1, rfl, p1, q1⟩ := h1
  have HN1 := Lib.hid p1; have HM1 := Lib.hid q1
  obtain ⟨A1, c1, rfl, hnc1, hcm1, _⟩ := p1.1.out; obtain ⟨D1, d1, rfl, hnd1, hdm1, _⟩ := q1.out; clear p1 q1; unfold maxLen at hcm1 hdm1
  go_enter Try.func32, Try.ntmps32
  have K0 := Kept.refl w
  go_wp2_with fail
  obtain ⟨wb1, hwb1⟩ : ∃ w' : World, w' = w.alloc (.cells #[.slice A0 x.elems.length c0, .slice D0 x.limits.length d0, .int .i64 x.repeats, .int .i64 x.bonus, .int .i64 x.keeps, .int .i64 x.fall] 32) := ⟨_, rfl⟩
  rw [← hwb1]
  have KB0 : Kept w wb1 := hwb1 ▸ (Kept.refl w).alloc _
  have B0 : Box wb1 (w.heap.size) 32 #[.slice A0 x.elems.length c0, .slice D0 x.limits.length d0, .int .i64 x.repeats, .int .i64 x.bonus, .int .i64 x.keeps, .int .i64 x.fall] := hwb1 ▸ Box.new w (w.heap.size) 32 #[.slice A0 x.elems.length c0, .slice D0 x.limits.length d0, .int .i64 x.repeats, .int .i64 x.bonus, .int .i64 x.keeps, .int .i64 x.fall] rfl
  have swb1 : wb1.heap.size = w.heap.size + 1 := by rw [hwb1]; simp
  clear hwb1
  have Kwb1 := K0.trans KB0
  obtain ⟨wb2, hwb2⟩ : ∃ w' : World, w' = wb1.alloc (.cells #[.slice A1 it.names.length c1, .slice D1 it.marks.length d1, .bool it.late] 47) := ⟨_, rfl⟩
  rw [← hwb2]
  have KB1 : Kept wb1 wb2 := hwb2 ▸ (Kept.refl wb1).alloc _
  have B1 : Box wb2 (w.heap.size + 1) 47 #[.slice A1 it.names.length c1, .slice D1 it.marks.length d1, .bool it.late] := hwb2 ▸ Box.new wb1 (w.heap.size + 1) 47 #[.slice A1 it.names.length c1, .slice D1 it.marks.length d1, .bool it.late] (by omega)
  have swb2 : wb2.heap.size = wb1.heap.size + 1 := by rw [hwb2]; simp
  clear hwb2
  replace B0 := B0.kept KB1
  have Kwb2 := Kwb1.trans KB1
  refine (isKnownItem_any _ _ x it _ (H0.out.kept Kwb2) (H1.out.kept Kwb2)).mono ?_
  rintro e w1 ⟨rfl, k1⟩
  replace B0 := B0.kept k1
  replace B1 := B1.kept k1
  have sz1 := k1.size
  have K1 := Kwb2.trans k1
  by_cases hg : gdB x [it] = true
  case neg =>
    simp only [Bool.not_eq_true] at hg
    rw [hg]
    have HO := Lib.hid hg
    clear hg
    obtain ⟨x0, y0⟩ := B0.six
    obtain ⟨x1, y1⟩ := B1.three
    go_wp2_with fail
    clear x0 y0 x1 y1
    go_ret2
    exact ⟨by rw [HO.out]; rfl, K1⟩
  rw [hg]
  obtain ⟨hc, hi, hk⟩ := gdB_true hg
  rw [itemsB_one] at hi
  rw [knB_one] at hk
  have HG := Lib.hid hg
  clear hg
  have h1 := (item_some hi).1
  obtain ⟨x0, y0⟩ := B0.six
  obtain ⟨x1, y1⟩ := B1.three
  go_wp2_with fail
  clear x0 y0 x1 y1
  refine (familyOf_any _ _ x it _ (H0.out.kept K1) (H1.out.kept K1) h1).mono ?_
  rintro e w2 ⟨rfl, k2⟩
  replace B0 := B0.kept k2
  replace B1 := B1.kept k2
  have sz2 := k2.size
  have K2 := K1.trans k2
  obtain ⟨x0, y0⟩ := B0.six
  obtain ⟨x1, y1⟩ := B1.three
  go_wp2_with fail
  clear x0 y0 x1 y1
  go_ret2
  exact ⟨by rw [HG.out]; rfl, K2⟩
set_option maxHeartbeats 2000000 in
theorem lawFamilyOf_any {w : World} {v0 : Value} {v1 : Value} (z0 : CodeD) (z1 : ItemD) (h0 : CodeAt w v0 z0) (h1 : ItemAt w v1 z1) :
    Calls Try.prog 4 #[v0, v1] w fun e w' => e = .returned (.bool true) ∧ Kept w w' := by
  have H0 := Lib.hid h0
  obtain ⟨n0, m0, rfl, p0, q0⟩ := h0
  obtain ⟨A0, c0, rfl, _⟩ := p0.1.out
  obtain ⟨D0, d0, rfl, _⟩ := q0.out
  clear p0 q0
  have H1 := Lib.hid h1
  obtain ⟨n1, m1, rfl, p1, q1⟩ := h1
  obtain ⟨A1, c1, rfl, _⟩ := p1.1.out
  obtain ⟨D1, d1, rfl, _⟩ := q1.out
  clear p1 q1
  go_enter Try.func4, Try.ntmps4
  have K0 := Kept.refl w
  go_wp2_with fail
  obtain ⟨wb1, hwb1⟩ : ∃ w' : World, w' = w.alloc (.cells #[.slice A0 z0.elems.length c0, .slice D0 z0.limits.length d0, .int .i64 z0.repeats, .int .i64 z0.bonus, .int .i64 z0.keeps, .int .i64 z0.fall] 25) := ⟨_, rfl⟩
  rw [← hwb1]
  have KB0 : Kept w wb1 := hwb1 ▸ (Kept.refl w).alloc _
  have B0 : Box wb1 (w.heap.size) 25 #[.slice A0 z0.elems.length c0, .slice D0 z0.limits.length d0, .int .i64 z0.repeats, .int .i64 z0.bonus, .int .i64 z0.keeps, .int .i64 z0.fall] := hwb1 ▸ Box.new w (w.heap.size) 25 #[.slice A0 z0.elems.length c0, .slice D0 z0.limits.length d0, .int .i64 z0.repeats, .int .i64 z0.bonus, .int .i64 z0.keeps, .int .i64 z0.fall] rfl
  have szwb1 : wb1.heap.size = w.heap.size + 1 := by rw [hwb1]; simp
  clear hwb1
  have Kwb1 := K0.trans KB0
  obtain ⟨wb2, hwb2⟩ : ∃ w' : World, w' = wb1.alloc (.cells #[.slice A1 z1.names.length c1, .slice D1 z1.marks.length d1, .bool z1.late] 43) := ⟨_, rfl⟩
  rw [← hwb2]
  have KB1 : Kept wb1 wb2 := hwb2 ▸ (Kept.refl wb1).alloc _
  have B1 : Box wb2 (w.heap.size + 1) 43 #[.slice A1 z1.names.length c1, .slice D1 z1.marks.length d1, .bool z1.late] := hwb2 ▸ Box.new wb1 (w.heap.size + 1) 43 #[.slice A1 z1.names.length c1, .slice D1 z1.marks.length d1, .bool z1.late] (by omega)
  have szwb2 : wb2.heap.size = wb1.heap.size + 1 := by rw [hwb2]; simp
  clear hwb2
  replace B0 := B0.kept KB1
  have Kwb2 := Kwb1.trans KB1
  refine (szCode_any _ z0 _ _ (H0.out.kept Kwb2) (by omega) (by omega)).mono ?_
  rintro e w1 ⟨rfl, k1⟩
  replace B0 := B0.kept k1
  replace B1 := B1.kept k1
  have sz1 := k1.size
  have K1 := Kwb2.trans k1
  by_cases hbig0 : ((z0.size : Nat) : Int) ≤ 1048576
  case neg =>
    have e1 : lessOr 1048576 (z0.size) = -1 := by unfold lessOr; exact if_neg (by omega)
    rw [e1]
    go_wp2_with fail
    go_ret
    exact ⟨rfl, K1⟩
  have e1 : lessOr 1048576 (z0.size) = 1048576 - (z0.size : Int) := by unfold lessOr; exact if_pos (by omega)
  rw [e1]
  clear e1
  have hparts0 := code_parts z0
  obtain ⟨x0, y0⟩ := B0.six
  obtain ⟨x1, y1⟩ := B1.three
  go_wp2_with fail
  clear x0 y0 x1 y1
  refine (szItem_any _ z1 _ _ (H1.out.kept K1) (by omega) (by omega)).mono ?_
  rintro e w2 ⟨rfl, k2⟩
  replace B0 := B0.kept k2
  replace B1 := B1.kept k2
  have sz2 := k2.size
  have K2 := K1.trans k2
  by_cases hbig1 : ((z1.size : Nat) : Int) ≤ (1048576 - (z0.size : Int))
  case neg =>
    have e1 : lessOr (1048576 - (z0.size : Int)) (z1.size) = -1 := by unfold lessOr; exact if_neg (by omega)
    rw [e1]
    go_wp2_with fail
    go_ret
    exact ⟨rfl, K2⟩
  have e1 : lessOr (1048576 - (z0.size : Int)) (z1.size) = (1048576 - (z0.size : Int)) - (z1.size : Int) := by unfold lessOr; exact if_pos (by omega)
  rw [e1]
  clear e1
  have hparts1 := item_parts z1
  obtain ⟨x0, y0⟩ := B0.six
  obtain ⟨x1, y1⟩ := B1.three
  go_wp2_with fail
  clear x0 y0 x1 y1
  have KDw2 : Kept w2 w2.drew := (Kept.refl _).drew
  replace B0 := B0.kept KDw2
  replace B1 := B1.kept KDw2
  have KKw2 := K2.trans KDw2
  have szdw2 : w2.heap.size ≤ w2.drew.heap.size := KDw2.size
  go_region_held3 (fun w' => (w'.cell? ⟨w.heap.size, 0, none⟩ = some (.slice A0 z0.elems.length c0) ∧ w'.cell? ⟨w.heap.size, 1, none⟩ = some (.slice D0 z0.limits.length d0) ∧ w'.cell? ⟨w.heap.size, 2, none⟩ = some (.int .i64 z0.repeats) ∧ w'.cell? ⟨w.heap.size, 3, none⟩ = some (.int .i64 z0.bonus) ∧ w'.cell? ⟨w.heap.size, 4, none⟩ = some (.int .i64 z0.keeps) ∧ w'.cell? ⟨w.heap.size, 5, none⟩ = some (.int .i64 z0.fall)) ∧ (w'.cell? ⟨w.heap.size + 1, 0, none⟩ = some (.slice A1 z1.names.length c1) ∧ w'.cell? ⟨w.heap.size + 1, 1, none⟩ = some (.slice D1 z1.marks.length d1) ∧ w'.cell? ⟨w.heap.size + 1, 2, none⟩ = some (.bool z1.late))) (first | exact ⟨B0.six.1, B1.three.1⟩ | exact ⟨(B0.kept (by assumption)).six.1, (B1.kept (by assumption)).three.1⟩)
    (first | (go_at_call 20; refine (toCode_any _ z0 _ (H0.out.kept KKw2) (by omega) (by omega)).mono ?_; rintro e w3 ⟨u3, rfl, o3, k3⟩; have R3 := Lib.hid o3.code; clear o3) | (go_at_call 28; refine (toItem_any _ z1 _ (H1.out.kept (KKw2.trans k3)) (by omega) (by omega)).mono ?_; rintro e w4 ⟨u4, rfl, o4, k4⟩; replace R3 := Lib.hid (R3.out.kept k4); have R4 := Lib.hid o4.item; clear o4; have kk4 := k3.trans k4) | (go_at_call 27; refine (specFamilyOf_any _ _ z0 z1 _ R3.out R4.out).mono ?_; rintro e w5 ⟨rfl, k5⟩; have kk5 := kk4.trans k5))
  clear R3 R4
  replace B0 := B0.kept kk5
  replace B1 := B1.kept kk5
  have sz5 := kk5.size
  have K5 := KKw2.trans kk5
  obtain ⟨x0, y0⟩ := B0.six
  obtain ⟨x1, y1⟩ := B1.three
  go_wp2_with fail
  clear x0 y0 x1 y1
  refine (toCode_any _ z0 _ (H0.out.kept K5) (by omega) (by omega)).mono ?_
  rintro e w6 ⟨u6, rfl, o6, k6⟩
  replace B0 := B0.kept k6
  replace B1 := B1.kept k6
  have sz6 := k6.size
  have K6 := K5.trans k6
  obtain ⟨n6, m6, rfl, p6, q6, nd6⟩ := o6
  obtain ⟨A6, c6, rfl, _⟩ := own_form p6.1
  obtain ⟨D6, d6, rfl, _⟩ := own_form q6
  have o6 : OwnK w6 _ (.agg #[.slice A6 z0.elems.length c6, .slice D6 z0.limits.length d6, .int .i64 z0.repeats, .int .i64 z0.bonus, .int .i64 z0.keeps, .int .i64 z0.fall]) z0 := ⟨_, _, rfl, p6, q6, nd6⟩
  clear p6 q6 nd6
  have F6 := Lib.hid o6.fps
  have O6 := Lib.hid o6
  clear o6
  obtain ⟨x0, y0⟩ := B0.six
  have l0 := B0.lt
  obtain ⟨x1, y1⟩ := B1.three
  have l1 := B1.lt
  go_wp2_with fail
  clear x0 y0 l0 x1 y1 l1
  obtain ⟨wb3, hwb3⟩ : ∃ w' : World, w' = w6.alloc (.cells #[.slice A6 z0.elems.length c6, .slice D6 z0.limits.length d6, .int .i64 z0.repeats, .int .i64 z0.bonus, .int .i64 z0.keeps, .int .i64 z0.fall] 32) := ⟨_, rfl⟩
  rw [← hwb3]
  have KB6 : Kept w6 wb3 := hwb3 ▸ (Kept.refl w6).alloc _
  have B6 : Box wb3 (w6.heap.size) 32 #[.slice A6 z0.elems.length c6, .slice D6 z0.limits.length d6, .int .i64 z0.repeats, .int .i64 z0.bonus, .int .i64 z0.keeps, .int .i64 z0.fall] := hwb3 ▸ Box.new w6 (w6.heap.size) 32 #[.slice A6 z0.elems.length c6, .slice D6 z0.limits.length d6, .int .i64 z0.repeats, .int .i64 z0.bonus, .int .i64 z0.keeps, .int .i64 z0.fall] rfl
  have szwb3 : wb3.heap.size = w6.heap.size + 1 := by rw [hwb3]; simp
  clear hwb3
  replace B0 := B0.kept KB6
  replace B1 := B1.kept KB6
  replace O6 := Lib.hid (O6.out.kept KB6)
  have Kwb3 := K6.trans KB6
  refine (toItem_any _ z1 _ (H1.out.kept Kwb3) (by omega) (by omega)).mono ?_
  rintro e w7 ⟨u7, rfl, o7, k7⟩
  replace B0 := B0.kept k7
  replace B1 := B1.kept k7
  replace B6 := B6.kept k7
  replace O6 := Lib.hid (O6.out.kept k7)
  have sz7 := k7.size
  have K7 := Kwb3.trans k7
  obtain ⟨n7, m7, rfl, p7, q7, nd7⟩ := o7
  obtain ⟨A7, c7, rfl, _⟩ := own_form p7.1
  obtain ⟨D7, d7, rfl, _⟩ := own_form q7
  have o7 : OwnT w7 _ (.agg #[.slice A7 z1.names.length c7, .slice D7 z1.marks.length d7, .bool z1.late]) z1 := ⟨_, _, rfl, p7, q7, nd7⟩
  clear p7 q7 nd7
  have F7 := Lib.hid o7.fps
  have O7 := Lib.hid o7
  clear o7
  obtain ⟨x0, y0⟩ := B0.six
  have l0 := B0.lt
  obtain ⟨x1, y1⟩ := B1.three
  have l1 := B1.lt
  obtain ⟨x6, y6⟩ := B6.six
  have l6 := B6.lt
  go_wp2_with fail
  clear x0 y0 l0 x1 y1 l1 x6 y6 l6
  obtain ⟨wb4, hwb4⟩ : ∃ w' : World, w' = w7.alloc (.cells #[.slice A7 z1.names.length c7, .slice D7 z1.marks.length d7, .bool z1.late] 47) := ⟨_, rfl⟩
  rw [← hwb4]
  have KB7 : Kept w7 wb4 := hwb4 ▸ (Kept.refl w7).alloc _
  have B7 : Box wb4 (w7.heap.size) 47 #[.slice A7 z1.names.length c7, .slice D7 z1.marks.length d7, .bool z1.late] := hwb4 ▸ Box.new w7 (w7.heap.size) 47 #[.slice A7 z1.names.length c7, .slice D7 z1.marks.length d7, .bool z1.late] rfl
  have szwb4 : wb4.heap.size = w7.heap.size + 1 := by rw [hwb4]; simp
  clear hwb4
  replace B0 := B0.kept KB7
  replace B1 := B1.kept KB7
  replace B6 := B6.kept KB7
  replace O6 := Lib.hid (O6.out.kept KB7)
  replace O7 := Lib.hid (O7.out.kept KB7)
  have Kwb4 := K7.trans KB7
  refine (implFamilyOf_any _ _ z0 z1 _ O6.out.code O7.out.item).mono ?_
  rintro e w8 ⟨rfl, k8⟩
  replace B0 := B0.kept k8
  replace B1 := B1.kept k8
  replace B6 := B6.kept k8
  replace B7 := B7.kept k8
  replace O6 := Lib.hid (O6.out.kept k8)
  replace O7 := Lib.hid (O7.out.kept k8)
  have sz8 := k8.size
  have K8 := Kwb4.trans k8
  obtain ⟨x0, y0⟩ := B0.six
  obtain ⟨x1, y1⟩ := B1.three
  obtain ⟨x6, y6⟩ := B6.six
  obtain ⟨x7, y7⟩ := B7.three
  go_wp2_with fail
  clear x0 y0 x1 y1 x6 y6 x7 y7
  have KDw8 : Kept w8 w8.drew := (Kept.refl _).drew
  replace B0 := B0.kept KDw8
  replace B1 := B1.kept KDw8
  replace B6 := B6.kept KDw8
  replace B7 := B7.kept KDw8
  replace O6 := Lib.hid (O6.out.kept KDw8)
  replace O7 := Lib.hid (O7.out.kept KDw8)
  have KKw8 := K8.trans KDw8
  have szdw8 : w8.heap.size ≤ w8.drew.heap.size := KDw8.size
  go_region_held3 (fun w' => (w'.cell? ⟨w.heap.size, 0, none⟩ = some (.slice A0 z0.elems.length c0) ∧ w'.cell? ⟨w.heap.size, 1, none⟩ = some (.slice D0 z0.limits.length d0) ∧ w'.cell? ⟨w.heap.size, 2, none⟩ = some (.int .i64 z0.repeats) ∧ w'.cell? ⟨w.heap.size, 3, none⟩ = some (.int .i64 z0.bonus) ∧ w'.cell? ⟨w.heap.size, 4, none⟩ = some (.int .i64 z0.keeps) ∧ w'.cell? ⟨w.heap.size, 5, none⟩ = some (.int .i64 z0.fall)) ∧ (w'.cell? ⟨w6.heap.size, 0, none⟩ = some (.slice A6 z0.elems.length c6) ∧ w'.cell? ⟨w6.heap.size, 1, none⟩ = some (.slice D6 z0.limits.length d6) ∧ w'.cell? ⟨w6.heap.size, 2, none⟩ = some (.int .i64 z0.repeats) ∧ w'.cell? ⟨w6.heap.size, 3, none⟩ = some (.int .i64 z0.bonus) ∧ w'.cell? ⟨w6.heap.size, 4, none⟩ = some (.int .i64 z0.keeps) ∧ w'.cell? ⟨w6.heap.size, 5, none⟩ = some (.int .i64 z0.fall))) (first | exact ⟨B0.six.1, B6.six.1⟩ | exact ⟨(B0.kept (by assumption)).six.1, (B6.kept (by assumption)).six.1⟩)
    (first | (go_at_call 20; refine (toCode_any _ z0 _ (H0.out.kept KKw8) (by omega) (by omega)).mono ?_; rintro e w9 ⟨u9, rfl, o9, k9⟩) | (go_at_call 23; refine (eqCode_any _ _ z0 _ (O6.out.code.kept k9) o9.code).mono ?_; rintro e w10 ⟨rfl, k10⟩; have kk10 := k9.trans k10))
  clear o9
  replace B0 := B0.kept kk10
  replace B1 := B1.kept kk10
  replace B6 := B6.kept kk10
  replace B7 := B7.kept kk10
  replace O6 := Lib.hid (O6.out.kept kk10)
  replace O7 := Lib.hid (O7.out.kept kk10)
  have sz10 := kk10.size
  have K10 := KKw8.trans kk10
  obtain ⟨x0, y0⟩ := B0.six
  obtain ⟨x1, y1⟩ := B1.three
  obtain ⟨x6, y6⟩ := B6.six
  obtain ⟨x7, y7⟩ := B7.three
  go_wp2_with fail
  clear x0 y0 x1 y1 x6 y6 x7 y7
  have KDw10 : Kept w10 w10.drew := (Kept.refl _).drew
  replace B0 := B0.kept KDw10
  replace B1 := B1.kept KDw10
  replace B6 := B6.kept KDw10
  replace B7 := B7.kept KDw10
  replace O6 := Lib.hid (O6.out.kept KDw10)
  replace O7 := Lib.hid (O7.out.kept KDw10)
  have KKw10 := K10.trans KDw10
  have szdw10 : w10.heap.size ≤ w10.drew.heap.size := KDw10.size
  go_region_held3 (fun w' => (w'.cell? ⟨w.heap.size + 1, 0, none⟩ = some (.slice A1 z1.names.length c1) ∧ w'.cell? ⟨w.heap.size + 1, 1, none⟩ = some (.slice D1 z1.marks.length d1) ∧ w'.cell? ⟨w.heap.size + 1, 2, none⟩ = some (.bool z1.late)) ∧ (w'.cell? ⟨w7.heap.size, 0, none⟩ = some (.slice A7 z1.names.length c7) ∧ w'.cell? ⟨w7.heap.size, 1, none⟩ = some (.slice D7 z1.marks.length d7) ∧ w'.cell? ⟨w7.heap.size, 2, none⟩ = some (.bool z1.late))) (first | exact ⟨B1.three.1, B7.three.1⟩ | exact ⟨(B1.kept (by assumption)).three.1, (B7.kept (by assumption)).three.1⟩)
    (first | (go_at_call 28; refine (toItem_any _ z1 _ (H1.out.kept KKw10) (by omega) (by omega)).mono ?_; rintro e w11 ⟨u11, rfl, o11, k11⟩) | (go_at_call 30; refine (eqItem_any _ _ z1 _ (O7.out.item.kept k11) o11.item).mono ?_; rintro e w12 ⟨rfl, k12⟩; have kk12 := k11.trans k12))
  clear o11
  replace B0 := B0.kept kk12
  replace B1 := B1.kept kk12
  replace B6 := B6.kept kk12
  replace B7 := B7.kept kk12
  replace O6 := Lib.hid (O6.out.kept kk12)
  replace O7 := Lib.hid (O7.out.kept kk12)
  have sz12 := kk12.size
  have K12 := KKw10.trans kk12
  go_wp2_with fail
  go_ret
  exact ⟨rfl, K12⟩
set_option maxHeartbeats 2000000 in
theorem lawItemFamily_any {w : World} {v0 : Value} {v1 : Value} (z0 : CodeD) (z1 : ItemD) (h0 : CodeAt w v0 z0) (h1 : ItemAt w v1 z1) :
    Calls Try.prog 5 #[v0, v1] w fun e w' => e = .returned (.bool true) ∧ Kept w w' := by
  have H0 := Lib.hid h0
  obtain ⟨n0, m0, rfl, p0, q0⟩ := h0
  obtain ⟨A0, c0, rfl, _⟩ := p0.1.out
  obtain ⟨D0, d0, rfl, _⟩ := q0.out
  clear p0 q0
  have H1 := Lib.hid h1
  obtain ⟨n1, m1, rfl, p1, q1⟩ := h1
  obtain ⟨A1, c1, rfl, _⟩ := p1.1.out
  obtain ⟨D1, d1, rfl, _⟩ := q1.out
  clear p1 q1
  go_enter Try.func5, Try.ntmps5
  have K0 := Kept.refl w
  go_wp2_with fail
  obtain ⟨wb1, hwb1⟩ : ∃ w' : World, w' = w.alloc (.cells #[.slice A0 z0.elems.length c0, .slice D0 z0.limits.length d0, .int .i64 z0.repeats, .int .i64 z0.bonus, .int .i64 z0.keeps, .int .i64 z0.fall] 25) := ⟨_, rfl⟩
  rw [← hwb1]
  have KB0 : Kept w wb1 := hwb1 ▸ (Kept.refl w).alloc _
  have B0 : Box wb1 (w.heap.size) 25 #[.slice A0 z0.elems.length c0, .slice D0 z0.limits.length d0, .int .i64 z0.repeats, .int .i64 z0.bonus, .int .i64 z0.keeps, .int .i64 z0.fall] := hwb1 ▸ Box.new w (w.heap.size) 25 #[.slice A0 z0.elems.length c0, .slice D0 z0.limits.length d0, .int .i64 z0.repeats, .int .i64 z0.bonus, .int .i64 z0.keeps, .int .i64 z0.fall] rfl
  have szwb1 : wb1.heap.size = w.heap.size + 1 := by rw [hwb1]; simp
  clear hwb1
  have Kwb1 := K0.trans KB0
  obtain ⟨wb2, hwb2⟩ : ∃ w' : World, w' = wb1.alloc (.cells #[.slice A1 z1.names.length c1, .slice D1 z1.marks.length d1, .bool z1.late] 43) := ⟨_, rfl⟩
  rw [← hwb2]
  have KB1 : Kept wb1 wb2 := hwb2 ▸ (Kept.refl wb1).alloc _
  have B1 : Box wb2 (w.heap.size + 1) 43 #[.slice A1 z1.names.length c1, .slice D1 z1.marks.length d1, .bool z1.late] := hwb2 ▸ Box.new wb1 (w.heap.size + 1) 43 #[.slice A1 z1.names.length c1, .slice D1 z1.marks.length d1, .bool z1.late] (by omega)
  have szwb2 : wb2.heap.size = wb1.heap.size + 1 := by rw [hwb2]; simp
  clear hwb2
  replace B0 := B0.kept KB1
  have Kwb2 := Kwb1.trans KB1
  refine (szCode_any _ z0 _ _ (H0.out.kept Kwb2) (by omega) (by omega)).mono ?_
  rintro e w1 ⟨rfl, k1⟩
  replace B0 := B0.kept k1
  replace B1 := B1.kept k1
  have sz1 := k1.size
  have K1 := Kwb2.trans k1
  by_cases hbig0 : ((z0.size : Nat) : Int) ≤ 1048576
  case neg =>
    have e1 : lessOr 1048576 (z0.size) = -1 := by unfold lessOr; exact if_neg (by omega)
    rw [e1]
    go_wp2_with fail
    go_ret
    exact ⟨rfl, K1⟩
  have e1 : lessOr 1048576 (z0.size) = 1048576 - (z0.size : Int) := by unfold lessOr; exact if_pos (by omega)
  rw [e1]
  clear e1
  have hparts0 := code_parts z0
  obtain ⟨x0, y0⟩ := B0.six
  obtain ⟨x1, y1⟩ := B1.three
  go_wp2_with fail
  clear x0 y0 x1 y1
  refine (szItem_any _ z1 _ _ (H1.out.kept K1) (by omega) (by omega)).mono ?_
  rintro e w2 ⟨rfl, k2⟩
  replace B0 := B0.kept k2
  replace B1 := B1.kept k2
  have sz2 := k2.size
  have K2 := K1.trans k2
  by_cases hbig1 : ((z1.size : Nat) : Int) ≤ (1048576 - (z0.size : Int))
  case neg =>
    have e1 : lessOr (1048576 - (z0.size : Int)) (z1.size) = -1 := by unfold lessOr; exact if_neg (by omega)
    rw [e1]
    go_wp2_with fail
    go_ret
    exact ⟨rfl, K2⟩
  have e1 : lessOr (1048576 - (z0.size : Int)) (z1.size) = (1048576 - (z0.size : Int)) - (z1.size : Int) := by unfold lessOr; exact if_pos (by omega)
  rw [e1]
  clear e1
  have hparts1 := item_parts z1
  obtain ⟨x0, y0⟩ := B0.six
  obtain ⟨x1, y1⟩ := B1.three
  go_wp2_with fail
  clear x0 y0 x1 y1
  have KDw2 : Kept w2 w2.drew := (Kept.refl _).drew
  replace B0 := B0.kept KDw2
  replace B1 := B1.kept KDw2
  have KKw2 := K2.trans KDw2
  have szdw2 : w2.heap.size ≤ w2.drew.heap.size := KDw2.size
  go_region_held3 (fun w' => (w'.cell? ⟨w.heap.size, 0, none⟩ = some (.slice A0 z0.elems.length c0) ∧ w'.cell? ⟨w.heap.size, 1, none⟩ = some (.slice D0 z0.limits.length d0) ∧ w'.cell? ⟨w.heap.size, 2, none⟩ = some (.int .i64 z0.repeats) ∧ w'.cell? ⟨w.heap.size, 3, none⟩ = some (.int .i64 z0.bonus) ∧ w'.cell? ⟨w.heap.size, 4, none⟩ = some (.int .i64 z0.keeps) ∧ w'.cell? ⟨w.heap.size, 5, none⟩ = some (.int .i64 z0.fall)) ∧ (w'.cell? ⟨w.heap.size + 1, 0, none⟩ = some (.slice A1 z1.names.length c1) ∧ w'.cell? ⟨w.heap.size + 1, 1, none⟩ = some (.slice D1 z1.marks.length d1) ∧ w'.cell? ⟨w.heap.size + 1, 2, none⟩ = some (.bool z1.late))) (first | exact ⟨B0.six.1, B1.three.1⟩ | exact ⟨(B0.kept (by assumption)).six.1, (B1.kept (by assumption)).three.1⟩)
    (first | (go_at_call 20; refine (toCode_any _ z0 _ (H0.out.kept KKw2) (by omega) (by omega)).mono ?_; rintro e w3 ⟨u3, rfl, o3, k3⟩; have R3 := Lib.hid o3.code; clear o3) | (go_at_call 28; refine (toItem_any _ z1 _ (H1.out.kept (KKw2.trans k3)) (by omega) (by omega)).mono ?_; rintro e w4 ⟨u4, rfl, o4, k4⟩; replace R3 := Lib.hid (R3.out.kept k4); have R4 := Lib.hid o4.item; clear o4; have kk4 := k3.trans k4) | (go_at_call 31; refine (specItemFamily_any _ _ z0 z1 _ R3.out R4.out).mono ?_; rintro e w5 ⟨rfl, k5⟩; have kk5 := kk4.trans k5))
  clear R3 R4
  replace B0 := B0.kept kk5
  replace B1 := B1.kept kk5
  have sz5 := kk5.size
  have K5 := KKw2.trans kk5
  obtain ⟨x0, y0⟩ := B0.six
  obtain ⟨x1, y1⟩ := B1.three
  go_wp2_with fail
  clear x0 y0 x1 y1
  refine (toCode_any _ z0 _ (H0.out.kept K5) (by omega) (by omega)).mono ?_
  rintro e w6 ⟨u6, rfl, o6, k6⟩
  replace B0 := B0.kept k6
  replace B1 := B1.kept k6
  have sz6 := k6.size
  have K6 := K5.trans k6
  obtain ⟨n6, m6, rfl, p6, q6, nd6⟩ := o6
  obtain ⟨A6, c6, rfl, _⟩ := own_form p6.1
  obtain ⟨D6, d6, rfl, _⟩ := own_form q6
  have o6 : OwnK w6 _ (.agg #[.slice A6 z0.elems.length c6, .slice D6 z0.limits.length d6, .int .i64 z0.repeats, .int .i64 z0.bonus, .int .i64 z0.keeps, .int .i64 z0.fall]) z0 := ⟨_, _, rfl, p6, q6, nd6⟩
  clear p6 q6 nd6
  have F6 := Lib.hid o6.fps
  have O6 := Lib.hid o6
  clear o6
  obtain ⟨x0, y0⟩ := B0.six
  have l0 := B0.lt
  obtain ⟨x1, y1⟩ := B1.three
  have l1 := B1.lt
  go_wp2_with fail
  clear x0 y0 l0 x1 y1 l1
  obtain ⟨wb3, hwb3⟩ : ∃ w' : World, w' = w6.alloc (.cells #[.slice A6 z0.elems.length c6, .slice D6 z0.limits.length d6, .int .i64 z0.repeats, .int .i64 z0.bonus, .int .i64 z0.keeps, .int .i64 z0.fall] 32) := ⟨_, rfl⟩
  rw [← hwb3]
  have KB6 : Kept w6 wb3 := hwb3 ▸ (Kept.refl w6).alloc _
  have B6 : Box wb3 (w6.heap.size) 32 #[.slice A6 z0.elems.length c6, .slice D6 z0.limits.length d6, .int .i64 z0.repeats, .int .i64 z0.bonus, .int .i64 z0.keeps, .int .i64 z0.fall] := hwb3 ▸ Box.new w6 (w6.heap.size) 32 #[.slice A6 z0.elems.length c6, .slice D6 z0.limits.length d6, .int .i64 z0.repeats, .int .i64 z0.bonus, .int .i64 z0.keeps, .int .i64 z0.fall] rfl
  have szwb3 : wb3.heap.size = w6.heap.size + 1 := by rw [hwb3]; simp
  clear hwb3
  replace B0 := B0.kept KB6
  replace B1 := B1.kept KB6
  replace O6 := Lib.hid (O6.out.kept KB6)
  have Kwb3 := K6.trans KB6
  refine (toItem_any _ z1 _ (H1.out.kept Kwb3) (by omega) (by omega)).mono ?_
  rintro e w7 ⟨u7, rfl, o7, k7⟩
  replace B0 := B0.kept k7
  replace B1 := B1.kept k7
  replace B6 := B6.kept k7
  replace O6 := Lib.hid (O6.out.kept k7)
  have sz7 := k7.size
  have K7 := Kwb3.trans k7
  obtain ⟨n7, m7, rfl, p7, q7, nd7⟩ := o7
  obtain ⟨A7, c7, rfl, _⟩ := own_form p7.1
  obtain ⟨D7, d7, rfl, _⟩ := own_form q7
  have o7 : OwnT w7 _ (.agg #[.slice A7 z1.names.length c7, .slice D7 z1.marks.length d7, .bool z1.late]) z1 := ⟨_, _, rfl, p7, q7, nd7⟩
  clear p7 q7 nd7
  have F7 := Lib.hid o7.fps
  have O7 := Lib.hid o7
  clear o7
  obtain ⟨x0, y0⟩ := B0.six
  have l0 := B0.lt
  obtain ⟨x1, y1⟩ := B1.three
  have l1 := B1.lt
  obtain ⟨x6, y6⟩ := B6.six
  have l6 := B6.lt
  go_wp2_with fail
  clear x0 y0 l0 x1 y1 l1 x6 y6 l6
  obtain ⟨wb4, hwb4⟩ : ∃ w' : World, w' = w7.alloc (.cells #[.slice A7 z1.names.length c7, .slice D7 z1.marks.length d7, .bool z1.late] 47) := ⟨_, rfl⟩
  rw [← hwb4]
  have KB7 : Kept w7 wb4 := hwb4 ▸ (Kept.refl w7).alloc _
  have B7 : Box wb4 (w7.heap.size) 47 #[.slice A7 z1.names.length c7, .slice D7 z1.marks.length d7, .bool z1.late] := hwb4 ▸ Box.new w7 (w7.heap.size) 47 #[.slice A7 z1.names.length c7, .slice D7 z1.marks.length d7, .bool z1.late] rfl
  have szwb4 : wb4.heap.size = w7.heap.size + 1 := by rw [hwb4]; simp
  clear hwb4
  replace B0 := B0.kept KB7
  replace B1 := B1.kept KB7
  replace B6 := B6.kept KB7
  replace O6 := Lib.hid (O6.out.kept KB7)
  replace O7 := Lib.hid (O7.out.kept KB7)
  have Kwb4 := K7.trans KB7
  refine (implItemFamily_any _ _ z0 z1 _ O6.out.code O7.out.item).mono ?_
  rintro e w8 ⟨rfl, k8⟩
  replace B0 := B0.kept k8
  replace B1 := B1.kept k8
  replace B6 := B6.kept k8
  replace B7 := B7.kept k8
  replace O6 := Lib.hid (O6.out.kept k8)
  replace O7 := Lib.hid (O7.out.kept k8)
  have sz8 := k8.size
  have K8 := Kwb4.trans k8
  obtain ⟨x0, y0⟩ := B0.six
  obtain ⟨x1, y1⟩ := B1.three
  obtain ⟨x6, y6⟩ := B6.six
  obtain ⟨x7, y7⟩ := B7.three
  go_wp2_with fail
  clear x0 y0 x1 y1 x6 y6 x7 y7
  have KDw8 : Kept w8 w8.drew := (Kept.refl _).drew
  replace B0 := B0.kept KDw8
  replace B1 := B1.kept KDw8
  replace B6 := B6.kept KDw8
  replace B7 := B7.kept KDw8
  replace O6 := Lib.hid (O6.out.kept KDw8)
  replace O7 := Lib.hid (O7.out.kept KDw8)
  have KKw8 := K8.trans KDw8
  have szdw8 : w8.heap.size ≤ w8.drew.heap.size := KDw8.size
  go_region_held3 (fun w' => (w'.cell? ⟨w.heap.size, 0, none⟩ = some (.slice A0 z0.elems.length c0) ∧ w'.cell? ⟨w.heap.size, 1, none⟩ = some (.slice D0 z0.limits.length d0) ∧ w'.cell? ⟨w.heap.size, 2, none⟩ = some (.int .i64 z0.repeats) ∧ w'.cell? ⟨w.heap.size, 3, none⟩ = some (.int .i64 z0.bonus) ∧ w'.cell? ⟨w.heap.size, 4, none⟩ = some (.int .i64 z0.keeps) ∧ w'.cell? ⟨w.heap.size, 5, none⟩ = some (.int .i64 z0.fall)) ∧ (w'.cell? ⟨w6.heap.size, 0, none⟩ = some (.slice A6 z0.elems.length c6) ∧ w'.cell? ⟨w6.heap.size, 1, none⟩ = some (.slice D6 z0.limits.length d6) ∧ w'.cell? ⟨w6.heap.size, 2, none⟩ = some (.int .i64 z0.repeats) ∧ w'.cell? ⟨w6.heap.size, 3, none⟩ = some (.int .i64 z0.bonus) ∧ w'.cell? ⟨w6.heap.size, 4, none⟩ = some (.int .i64 z0.keeps) ∧ w'.cell? ⟨w6.heap.size, 5, none⟩ = some (.int .i64 z0.fall))) (first | exact ⟨B0.six.1, B6.six.1⟩ | exact ⟨(B0.kept (by assumption)).six.1, (B6.kept (by assumption)).six.1⟩)
    (first | (go_at_call 20; refine (toCode_any _ z0 _ (H0.out.kept KKw8) (by omega) (by omega)).mono ?_; rintro e w9 ⟨u9, rfl, o9, k9⟩) | (go_at_call 23; refine (eqCode_any _ _ z0 _ (O6.out.code.kept k9) o9.code).mono ?_; rintro e w10 ⟨rfl, k10⟩; have kk10 := k9.trans k10))
  clear o9
  replace B0 := B0.kept kk10
  replace B1 := B1.kept kk10
  replace B6 := B6.kept kk10
  replace B7 := B7.kept kk10
  replace O6 := Lib.hid (O6.out.kept kk10)
  replace O7 := Lib.hid (O7.out.kept kk10)
  have sz10 := kk10.size
  have K10 := KKw8.trans kk10
  obtain ⟨x0, y0⟩ := B0.six
  obtain ⟨x1, y1⟩ := B1.three
  obtain ⟨x6, y6⟩ := B6.six
  obtain ⟨x7, y7⟩ := B7.three
  go_wp2_with fail
  clear x0 y0 x1 y1 x6 y6 x7 y7
  have KDw10 : Kept w10 w10.drew := (Kept.refl _).drew
  replace B0 := B0.kept KDw10
  replace B1 := B1.kept KDw10
  replace B6 := B6.kept KDw10
  replace B7 := B7.kept KDw10
  replace O6 := Lib.hid (O6.out.kept KDw10)
  replace O7 := Lib.hid (O7.out.kept KDw10)
  have KKw10 := K10.trans KDw10
  have szdw10 : w10.heap.size ≤ w10.drew.heap.size := KDw10.size
  go_region_held3 (fun w' => (w'.cell? ⟨w.heap.size + 1, 0, none⟩ = some (.slice A1 z1.names.length c1) ∧ w'.cell? ⟨w.heap.size + 1, 1, none⟩ = some (.slice D1 z1.marks.length d1) ∧ w'.cell? ⟨w.heap.size + 1, 2, none⟩ = some (.bool z1.late)) ∧ (w'.cell? ⟨w7.heap.size, 0, none⟩ = some (.slice A7 z1.names.length c7) ∧ w'.cell? ⟨w7.heap.size, 1, none⟩ = some (.slice D7 z1.marks.length d7) ∧ w'.cell? ⟨w7.heap.size, 2, none⟩ = some (.bool z1.late))) (first | exact ⟨B1.three.1, B7.three.1⟩ | exact ⟨(B1.kept (by assumption)).three.1, (B7.kept (by assumption)).three.1⟩)
    (first | (go_at_call 28; refine (toItem_any _ z1 _ (H1.out.kept KKw10) (by omega) (by omega)).mono ?_; rintro e w11 ⟨u11, rfl, o11, k11⟩) | (go_at_call 30; refine (eqItem_any _ _ z1 _ (O7.out.item.kept k11) o11.item).mono ?_; rintro e w12 ⟨rfl, k12⟩; have kk12 := k11.trans k12))
  clear o11
  replace B0 := B0.kept kk12
  replace B1 := B1.kept kk12
  replace B6 := B6.kept kk12
  replace B7 := B7.kept kk12
  replace O6 := Lib.hid (O6.out.kept kk12)
  replace O7 := Lib.hid (O7.out.kept kk12)
  have sz12 := kk12.size
  have K12 := KKw10.trans kk12
  go_wp2_with fail
  go_ret
  exact ⟨rfl, K12⟩
set_option maxHeartbeats 2000000 in
theorem lawKnowsItems_any {w : World} {v0 : Value} {v1 : Value} (z0 : CodeD) (z1 : List ItemD) (h0 : CodeAt w v0 z0) (h1 : ItemsAt w v1 z1) :
    Calls Try.prog 6 #[v0, v1] w fun e w' => e = .returned (.bool true) ∧ Kept w w' := by
  have H0 := Lib.hid h0
  obtain ⟨n0, m0, rfl, p0, q0⟩ := h0
  obtain ⟨A0, c0, rfl, _⟩ := p0.1.out
  obtain ⟨D0, d0, rfl, _⟩ := q0.out
  clear p0 q0
  have H1 := Lib.hid h1
  clear h1
  go_enter Try.func6, Try.ntmps6
  have K0 := Kept.refl w
  go_wp2_with fail
  obtain ⟨wb1, hwb1⟩ : ∃ w' : World, w' = w.alloc (.cells #[.slice A0 z0.elems.length c0, .slice D0 z0.limits.length d0, .int .i64 z0.repeats, .int .i64 z0.bonus, .int .i64 z0.keeps, .int .i64 z0.fall] 25) := ⟨_, rfl⟩
  rw [← hwb1]
  have KB0 : Kept w wb1 := hwb1 ▸ (Kept.refl w).alloc _
  have B0 : Box wb1 (w.heap.size) 25 #[.slice A0 z0.elems.length c0, .slice D0 z0.limits.length d0, .int .i64 z0.repeats, .int .i64 z0.bonus, .int .i64 z0.keeps, .int .i64 z0.fall] := hwb1 ▸ Box.new w (w.heap.size) 25 #[.slice A0 z0.elems.length c0, .slice D0 z0.limits.length d0, .int .i64 z0.repeats, .int .i64 z0.bonus, .int .i64 z0.keeps, .int .i64 z0.fall] rfl
  have szwb1 : wb1.heap.size = w.heap.size + 1 := by rw [hwb1]; simp
  clear hwb1
  have Kwb1 := K0.trans KB0
  refine (szCode_any _ z0 _ _ (H0.out.kept Kwb1) (by omega) (by omega)).mono ?_
  rintro e w1 ⟨rfl, k1⟩
  replace B0 := B0.kept k1
  have sz1 := k1.size
  have K1 := Kwb1.trans k1
  by_cases hbig0 : ((z0.size : Nat) : Int) ≤ 1048576
  case neg =>
    have e1 : lessOr 1048576 (z0.size) = -1 := by unfold lessOr; exact if_neg (by omega)
    rw [e1]
    go_wp2_with fail
    go_ret
    exact ⟨rfl, K1⟩
  have e1 : lessOr 1048576 (z0.size) = 1048576 - (z0.size : Int) := by unfold lessOr; exact if_pos (by omega)
  rw [e1]
  clear e1
  have hparts0 := code_parts z0
  obtain ⟨x0, y0⟩ := B0.six
  go_wp2_with fail
  clear x0 y0
  refine (szItemS_any _ z1 _ _ (H1.out.kept K1) (by omega) (by omega)).mono ?_
  rintro e w2 ⟨rfl, k2⟩
  replace B0 := B0.kept k2
  have sz2 := k2.size
  have K2 := K1.trans k2
  by_cases hbig1 : ((itemsSize z1 : Nat) : Int) ≤ (1048576 - (z0.size : Int))
  case neg =>
    have e1 : lessOr (1048576 - (z0.size : Int)) (itemsSize z1) = -1 := by unfold lessOr; exact if_neg (by omega)
    rw [e1]
    go_wp2_with fail
    go_ret
    exact ⟨rfl, K2⟩
  have e1 : lessOr (1048576 - (z0.size : Int)) (itemsSize z1) = (1048576 - (z0.size : Int)) - (itemsSize z1 : Int) := by unfold lessOr; exact if_pos (by omega)
  rw [e1]
  clear e1
  obtain ⟨x0, y0⟩ := B0.six
  go_wp2_with fail
  clear x0 y0
  refine (toCode_any _ z0 _ (H0.out.kept K2) (by omega) (by omega)).mono ?_
  rintro e w3 ⟨u3, rfl, o3, k3⟩
  replace B0 := B0.kept k3
  have sz3 := k3.size
  have K3 := K2.trans k3
  have R3 := Lib.hid o3.code
  clear o3
  obtain ⟨x0, y0⟩ := B0.six
  go_wp2_with fail
  clear x0 y0
  refine (toItemS_any _ z1 _ (H1.out.kept K3) (by omega)).mono ?_
  rintro e w4 ⟨u4, S4, rfl, o4, k4⟩
  replace B0 := B0.kept k4
  replace R3 := Lib.hid (R3.out.kept k4)
  have sz4 := k4.size
  have K4 := K3.trans k4
  have R4 := Lib.hid o4.items
  clear o4
  obtain ⟨x0, y0⟩ := B0.six
  go_wp2_with fail
  clear x0 y0
  refine (specKnowsItems_any _ _ z0 z1 _ R3.out R4.out).mono ?_
  rintro e w5 ⟨rfl, k5⟩
  replace B0 := B0.kept k5
  replace R3 := Lib.hid (R3.out.kept k5)
  replace R4 := Lib.hid (R4.out.kept k5)
  have sz5 := k5.size
  have K5 := K4.trans k5
  clear R3
  clear R4
  obtain ⟨x0, y0⟩ := B0.six
  go_wp2_with fail
  clear x0 y0
  refine (toCode_any _ z0 _ (H0.out.kept K5) (by omega) (by omega)).mono ?_
  rintro e w6 ⟨u6, rfl, o6, k6⟩
  replace B0 := B0.kept k6
  have sz6 := k6.size
  have K6 := K5.trans k6
  obtain ⟨n6, m6, rfl, p6, q6, nd6⟩ := o6
  obtain ⟨A6, c6, rfl, _⟩ := own_form p6.1
  obtain ⟨D6, d6, rfl, _⟩ := own_form q6
  have o6 : OwnK w6 _ (.agg #[.slice A6 z0.elems.length c6, .slice D6 z0.limits.length d6, .int .i64 z0.repeats, .int .i64 z0.bonus, .int .i64 z0.keeps, .int .i64 z0.fall]) z0 := ⟨_, _, rfl, p6, q6, nd6⟩
  clear p6 q6 nd6
  have F6 := Lib.hid o6.fps
  have O6 := Lib.hid o6
  clear o6
  obtain ⟨x0, y0⟩ := B0.six
  have l0 := B0.lt
  go_wp2_with fail
  clear x0 y0 l0
  obtain ⟨wb2, hwb2⟩ : ∃ w' : World, w' = w6.alloc (.cells #[.slice A6 z0.elems.length c6, .slice D6 z0.limits.length d6, .int .i64 z0.repeats, .int .i64 z0.bonus, .int .i64 z0.keeps, .int .i64 z0.fall] 32) := ⟨_, rfl⟩
  rw [← hwb2]
  have KB6 : Kept w6 wb2 := hwb2 ▸ (Kept.refl w6).alloc _
  have B6 : Box wb2 (w6.heap.size) 32 #[.slice A6 z0.elems.length c6, .slice D6 z0.limits.length d6, .int .i64 z0.repeats, .int .i64 z0.bonus, .int .i64 z0.keeps, .int .i64 z0.fall] := hwb2 ▸ Box.new w6 (w6.heap.size) 32 #[.slice A6 z0.elems.length c6, .slice D6 z0.limits.length d6, .int .i64 z0.repeats, .int .i64 z0.bonus, .int .i64 z0.keeps, .int .i64 z0.fall] rfl
  have szwb2 : wb2.heap.size = w6.heap.size + 1 := by rw [hwb2]; simp
  clear hwb2
  replace B0 := B0.kept KB6
  replace O6 := Lib.hid (O6.out.kept KB6)
  have Kwb2 := K6.trans KB6
  refine (toItemS_any _ z1 _ (H1.out.kept Kwb2) (by omega)).mono ?_
  rintro e w7 ⟨u7, S7, rfl, o7, k7⟩
  replace B0 := B0.kept k7
  replace B6 := B6.kept k7
  replace O6 := Lib.hid (O6.out.kept k7)
  have sz7 := k7.size
  have K7 := Kwb2.trans k7
  obtain ⟨cs7, oc7, rfl, hF7⟩ := o7.toC
  have O7 := Lib.hid oc7
  have F7 := Lib.hid hF7
  clear o7 oc7 hF7
  obtain ⟨x0, y0⟩ := B0.six
  obtain ⟨x6, y6⟩ := B6.six
  go_wp2_with fail
  clear x0 y0 x6 y6
  refine (implKnowsItems_any _ _ z0 z1 _ O6.out.code O7.out.items).mono ?_
  rintro e w8 ⟨rfl, k8⟩
  replace B0 := B0.kept k8
  replace B6 := B6.kept k8
  replace O6 := Lib.hid (O6.out.kept k8)
  replace O7 := Lib.hid (O7.out.kept k8)
  have sz8 := k8.size
  have K8 := K7.trans k8
  obtain ⟨x0, y0⟩ := B0.six
  obtain ⟨x6, y6⟩ := B6.six
  go_wp2_with fail
  clear x0 y0 x6 y6
  have KDw8 : Kept w8 w8.drew := (Kept.refl _).drew
  replace B0 := B0.kept KDw8
  replace B6 := B6.kept KDw8
  replace O6 := Lib.hid (O6.out.kept KDw8)
  replace O7 := Lib.hid (O7.out.kept KDw8)
  have KKw8 := K8.trans KDw8
  have szdw8 : w8.heap.size ≤ w8.drew.heap.size := KDw8.size
  go_region_held3 (fun w' => (w'.cell? ⟨w.heap.size, 0, none⟩ = some (.slice A0 z0.elems.length c0) ∧ w'.cell? ⟨w.heap.size, 1, none⟩ = some (.slice D0 z0.limits.length d0) ∧ w'.cell? ⟨w.heap.size, 2, none⟩ = some (.int .i64 z0.repeats) ∧ w'.cell? ⟨w.heap.size, 3, none⟩ = some (.int .i64 z0.bonus) ∧ w'.cell? ⟨w.heap.size, 4, none⟩ = some (.int .i64 z0.keeps) ∧ w'.cell? ⟨w.heap.size, 5, none⟩ = some (.int .i64 z0.fall)) ∧ (w'.cell? ⟨w6.heap.size, 0, none⟩ = some (.slice A6 z0.elems.length c6) ∧ w'.cell? ⟨w6.heap.size, 1, none⟩ = some (.slice D6 z0.limits.length d6) ∧ w'.cell? ⟨w6.heap.size, 2, none⟩ = some (.int .i64 z0.repeats) ∧ w'.cell? ⟨w6.heap.size, 3, none⟩ = some (.int .i64 z0.bonus) ∧ w'.cell? ⟨w6.heap.size, 4, none⟩ = some (.int .i64 z0.keeps) ∧ w'.cell? ⟨w6.heap.size, 5, none⟩ = some (.int .i64 z0.fall))) (first | exact ⟨B0.six.1, B6.six.1⟩ | exact ⟨(B0.kept (by assumption)).six.1, (B6.kept (by assumption)).six.1⟩)
    (first | (go_at_call 20; refine (toCode_any _ z0 _ (H0.out.kept KKw8) (by omega) (by omega)).mono ?_; rintro e w9 ⟨u9, rfl, o9, k9⟩) | (go_at_call 23; refine (eqCode_any _ _ z0 _ (O6.out.code.kept k9) o9.code).mono ?_; rintro e w10 ⟨rfl, k10⟩; have kk10 := k9.trans k10))
  clear o9
  replace B0 := B0.kept kk10
  replace B6 := B6.kept kk10
  replace O6 := Lib.hid (O6.out.kept kk10)
  replace O7 := Lib.hid (O7.out.kept kk10)
  have sz10 := kk10.size
  have K10 := KKw8.trans kk10
  obtain ⟨x0, y0⟩ := B0.six
  obtain ⟨x6, y6⟩ := B6.six
  go_wp2_with fail
  clear x0 y0 x6 y6
  refine (toItemS_any _ z1 _ (H1.out.kept K10) (by omega)).mono ?_
  rintro e w11 ⟨u11, S11, rfl, o11, k11⟩
  replace B0 := B0.kept k11
  replace B6 := B6.kept k11
  replace O6 := Lib.hid (O6.out.kept k11)
  replace O7 := Lib.hid (O7.out.kept k11)
  have sz11 := k11.size
  have K11 := K10.trans k11
  have R11 := Lib.hid o11.items
  clear o11
  obtain ⟨x0, y0⟩ := B0.six
  obtain ⟨x6, y6⟩ := B6.six
  go_wp2_with fail
  clear x0 y0 x6 y6
  refine (eqItemS_any _ _ (z1) _ O7.out.items R11.out).mono ?_
  rintro e w12 ⟨rfl, k12⟩
  replace B0 := B0.kept k12
  replace B6 := B6.kept k12
  replace R11 := Lib.hid (R11.out.kept k12)
  replace O6 := Lib.hid (O6.out.kept k12)
  replace O7 := Lib.hid (O7.out.kept k12)
  have sz12 := k12.size
  have K12 := K11.trans k12
  clear R11
  go_wp2_with fail
  go_ret
  exact ⟨rfl, K12⟩
end Go.Proofs.Ythadbgeafcepoaa
