/- Programmes: BrokenRules, IsProgramme. -/
import Derived.Test.YtmbgcmeiigmbaaaPe
namespace Go.Proofs.Ytmbgcmeiigmbaaa
open Go.RowKit

def goodB (x : CodeD) (its : List ItemD) : Bool := kwOk x its && (brokenV x its 8).isEmpty
set_option maxHeartbeats 4000000 in
theorem pgFaults_any (v0 v1 : Value) (x : CodeD) (its : List ItemD) (w : World) (h0 : CodeAt w v0 x) (h1 : ItemsAt w v1 its) (hx : codeB x = true) (hb : itemsB its = true) :
    Calls Try.prog 78 #[v0, v1] w fun e w' => ∃ v', e = .returned v' ∧ OwnI w' w.heap.size v' (brokenV x its 8) ∧ Kept w w' := by
  have H0 := Lib.hid h0
  obtain ⟨n0, m0, rfl, p0, q0⟩ := h0
  have HE0 := Lib.hid p0; have HI0 := Lib.hid q0
  obtain ⟨A0, c0, rfl, hnc0, hcm0, _⟩ := p0.1.out; obtain ⟨D0, d0, rfl, hnd0, hdm0, _⟩ := q0.out; clear p0 q0; unfold maxLen at hcm0 hdm0
  have H1 := Lib.hid h1
  obtain ⟨A1, c1, cs1, rfl, hnc1, hcm1, hA1⟩ := h1.out; have HA1 := Lib.hid hA1; clear hA1 h1; unfold maxLen at hcm1
  have HBB := Lib.hid hb
  have hl14 := (itemsB_true hb).1
  have HX := Lib.hid hx
  clear hx hb
  go_enter Try.func78, Try.ntmps78
  have K0 := Kept.refl w
  go_wp2_with fail
  obtain ⟨wb1, hwb1⟩ : ∃ w' : World, w' = w.alloc (.cells #[.slice A0 x.elems.length c0, .slice D0 x.limits.length d0, .int .i64 x.repeats, .int .i64 x.bonus, .int .i64 x.keeps, .int .i64 x.fall] 51) := ⟨_, rfl⟩
  rw [← hwb1]
  have KB0 : Kept w wb1 := hwb1 ▸ (Kept.refl w).alloc _
  have B0 : Box wb1 (w.heap.size) 51 #[.slice A0 x.elems.length c0, .slice D0 x.limits.length d0, .int .i64 x.repeats, .int .i64 x.bonus, .int .i64 x.keeps, .int .i64 x.fall] := hwb1 ▸ Box.new w (w.heap.size) 51 #[.slice A0 x.elems.length c0, .slice D0 x.limits.length d0, .int .i64 x.repeats, .int .i64 x.bonus, .int .i64 x.keeps, .int .i64 x.fall] rfl
  have swb1 : wb1.heap.size = w.heap.size + 1 := by rw [hwb1]; simp
  clear hwb1
  have Kwb1 := K0.trans KB0
  go_loopw [5, 6] (fun q i wr => ∃ j : Nat, j ≤ 8 ∧ i = .int .i64 ((j : Int) + 1) ∧ OwnI wr wb1.heap.size q (brokenV x its j) ∧ Kept wb1 wr) (fun _ i _ => 9 - (intOf i).toNat)
  case atStart => exact ⟨0, Nat.zero_le _, rfl, own_nil _ _, Kept.refl _⟩
  case round =>
    obtain ⟨j, hj, rfl, ho, hkept⟩ := hrel
    have HO := Lib.hid ho
    clear ho
    replace B0 := B0.kept hkept
    have szr := hkept.size
    have Kr := Kwb1.trans hkept
    have hbl := brokenV_len x its j
    by_cases hlt : j < 8
    · have HSN := Lib.hid (brokenV_snoc x its j)
      obtain ⟨x0, y0⟩ := B0.six
      go_wp2_with fail
      clear x0 y0
      refine (pgHolds_any _ _ x its ((j : Int) + 1) _ (H0.out.kept Kr) (H1.out.kept Kr) HX.out HBB.out (by omega) (by omega)).mono ?_
      rintro e w1 ⟨rfl, k1⟩
      replace B0 := B0.kept k1
      have sz1 := k1.size
      have K1 := Kr.trans k1
      by_cases hq : ruleB x its ((j : Int) + 1) = true
      · have HN : Hid (brokenV x its (j + 1) = brokenV x its j) := Lib.hid (by rw [HSN.out, if_pos hq, List.append_nil])
        rw [hq]
        clear hq
        obtain ⟨x0, y0⟩ := B0.six
        go_wp2_with fail
        clear x0 y0
        go_roundw
        case rel => exact ⟨j + 1, by omega, by go_num, by rw [HN.out]; exact HO.out.kept k1, hkept.trans k1⟩
        case measure => simp [intOf]; omega
      · have HN : Hid (brokenV x its (j + 1) = brokenV x its j ++ [(j : Int) + 1]) := Lib.hid (by rw [HSN.out, if_neg hq])
        simp only [Bool.not_eq_true] at hq
        rw [hq]
        clear hq
        obtain ⟨x0, y0⟩ := B0.six
        go_wp2_with (at_builtin; refine wpList_append_int _ rfl _ _ rfl wb1.heap.size _ (brokenV x its j) rfl ((HO.out.kept k1).kept ((Kept.refl _).alloc _)) _ ((j : Int) + 1) rfl ((Box.new _ _ _ _ rfl).cell 0) (by omega) (by have := k1.size; have := hkept.size; simp; omega) ?_; intro v3 w3 o3 g3)
        clear x0 y0
        have kg : Kept wb1 w3 := ((hkept.trans k1).alloc (.cells #[.int .i64 ((j : Int) + 1)] 3)).grew ((HO.out.kept k1).kept ((Kept.refl _).alloc _)) g3 (Nat.le_refl _)
        have HO3 := Lib.hid o3
        clear o3 g3
        go_wp2_with fail
        go_roundw
        case rel => exact ⟨j + 1, by omega, by go_num, by rw [HN.out]; exact HO3.out, kg⟩
        case measure => simp [intOf]; omega
    · obtain rfl : j = 8 := by omega
      obtain ⟨x0, y0⟩ := B0.six
      go_wp2_with fail
      clear x0 y0
      go_ret
      exact ⟨_, rfl, HO.out.base Kwb1.size, Kr⟩
set_option maxHeartbeats 4000000 in
theorem specBrokenRules_any (v0 v1 : Value) (x : CodeD) (its : List ItemD) (w : World) (h0 : CodeAt w v0 x) (h1 : ItemsAt w v1 its)  :
    Calls Try.prog 38 #[v0, v1] w fun e w' => ∃ v', e = .returned (.tuple #[v', .bool (kwOk x its)]) ∧ OwnI w' w.heap.size v' (onL (kwOk x its) (brokenV x its 8)) ∧ Kept w w' := by
  have H0 := Lib.hid h0
  obtain ⟨n0, m0, rfl, p0, q0⟩ := h0
  have HE0 := Lib.hid p0; have HI0 := Lib.hid q0
  obtain ⟨A0, c0, rfl, hnc0, hcm0, _⟩ := p0.1.out; obtain ⟨D0, d0, rfl, hnd0, hdm0, _⟩ := q0.out; clear p0 q0; unfold maxLen at hcm0 hdm0
  have H1 := Lib.hid h1
  obtain ⟨A1, c1, cs1, rfl, hnc1, hcm1, hA1⟩ := h1.out; have HA1 := Lib.hid hA1; clear hA1 h1; unfold maxLen at hcm1
  go_enter Try.func38, Try.ntmps38
  have K0 := Kept.refl w
  go_wp2_with fail
  obtain ⟨wb1, hwb1⟩ : ∃ w' : World, w' = w.alloc (.cells #[.slice A0 x.elems.length c0, .slice D0 x.limits.length d0, .int .i64 x.repeats, .int .i64 x.bonus, .int .i64 x.keeps, .int .i64 x.fall] 51) := ⟨_, rfl⟩
  rw [← hwb1]
  have KB0 : Kept w wb1 := hwb1 ▸ (Kept.refl w).alloc _
  have B0 : Box wb1 (w.heap.size) 51 #[.slice A0 x.elems.length c0, .slice D0 x.limits.length d0, .int .i64 x.repeats, .int .i64 x.bonus, .int .i64 x.keeps, .int .i64 x.fall] := hwb1 ▸ Box.new w (w.heap.size) 51 #[.slice A0 x.elems.length c0, .slice D0 x.limits.length d0, .int .i64 x.repeats, .int .i64 x.bonus, .int .i64 x.keeps, .int .i64 x.fall] rfl
  have swb1 : wb1.heap.size = w.heap.size + 1 := by rw [hwb1]; simp
  clear hwb1
  have Kwb1 := K0.trans KB0
  refine (pgAsked_any _ _ x its _ (H0.out.kept Kwb1) (H1.out.kept Kwb1)).mono ?_
  rintro e w1 ⟨rfl, k1⟩
  replace B0 := B0.kept k1
  have sz1 := k1.size
  have K1 := Kwb1.trans k1
  by_cases hq : kwOk x its = true
  case neg =>
    simp only [Bool.not_eq_true] at hq
    rw [hq]
    have HO := Lib.hid hq
    clear hq
    obtain ⟨x0, y0⟩ := B0.six
    go_wp2_with fail
    clear x0 y0
    go_ret2
    exact ⟨_, ret_vb2 HO.out.symm, by rw [HO.out]; exact own_nil _ _, K1⟩
  rw [hq]
  obtain ⟨hc, hi⟩ := kwOk_true hq
  have HK := Lib.hid hq
  clear hq
  obtain ⟨x0, y0⟩ := B0.six
  go_wp2_with fail
  clear x0 y0
  refine (pgFaults_any _ _ x its _ (H0.out.kept K1) (H1.out.kept K1) hc hi).mono ?_
  rintro e w2 ⟨v2, rfl, o2, k2⟩
  replace B0 := B0.kept k2
  have sz2 := k2.size
  have K2 := K1.trans k2
  have HV := Lib.hid o2
  clear o2
  obtain ⟨x0, y0⟩ := B0.six
  go_wp2_with fail
  clear x0 y0
  go_ret2
  exact ⟨_, ret_vb2 HK.out.symm, by rw [HK.out]; exact HV.out.base K1.size, K2⟩
set_option maxHeartbeats 4000000 in
theorem implBrokenRules_any (v0 v1 : Value) (x : CodeD) (its : List ItemD) (w : World) (h0 : CodeAt w v0 x) (h1 : ItemsAt w v1 its)  :
    Calls Try.prog 39 #[v0, v1] w fun e w' => ∃ v', e = .returned (.tuple #[v', .bool (kwOk x its)]) ∧ OwnI w' w.heap.size v' (onL (kwOk x its) (brokenV x its 8)) ∧ Kept w w' := by
  have H0 := Lib.hid h0
  obtain ⟨n0, m0, rfl, p0, q0⟩ := h0
  have HE0 := Lib.hid p0; have HI0 := Lib.hid q0
  obtain ⟨A0, c0, rfl, hnc0, hcm0, _⟩ := p0.1.out; obtain ⟨D0, d0, rfl, hnd0, hdm0, _⟩ := q0.out; clear p0 q0; unfold maxLen at hcm0 hdm0
  have H1 := Lib.hid h1
  obtain ⟨A1, c1, cs1, rfl, hnc1, hcm1, hA1⟩ := h1.out; have HA1 := Lib.hid hA1; clear hA1 h1; unfold maxLen at hcm1
  go_enter Try.func39, Try.ntmps39
  have K0 := Kept.refl w
  go_wp2_with fail
  obtain ⟨wb1, hwb1⟩ : ∃ w' : World, w' = w.alloc (.cells #[.slice A0 x.elems.length c0, .slice D0 x.limits.length d0, .int .i64 x.repeats, .int .i64 x.bonus, .int .i64 x.keeps, .int .i64 x.fall] 51) := ⟨_, rfl⟩
  rw [← hwb1]
  have KB0 : Kept w wb1 := hwb1 ▸ (Kept.refl w).alloc _
  have B0 : Box wb1 (w.heap.size) 51 #[.slice A0 x.elems.length c0, .slice D0 x.limits.length d0, .int .i64 x.repeats, .int .i64 x.bonus, .int .i64 x.keeps, .int .i64 x.fall] := hwb1 ▸ Box.new w (w.heap.size) 51 #[.slice A0 x.elems.length c0, .slice D0 x.limits.length d0, .int .i64 x.repeats, .int .i64 x.bonus, .int .i64 x.keeps, .int .i64 x.fall] rfl
  have swb1 : wb1.heap.size = w.heap.size + 1 := by rw [hwb1]; simp
  clear hwb1
  have Kwb1 := K0.trans KB0
  refine (isCode_any _ x _ (H0.out.kept Kwb1)).mono ?_
  rintro e w1 ⟨rfl, k1⟩
  replace B0 := B0.kept k1
  have sz1 := k1.size
  have K1 := Kwb1.trans k1
  by_cases hc : codeB x = true
  case neg =>
    simp only [Bool.not_eq_true] at hc
    rw [hc]
    have HO : Hid (kwOk x its = false) := Lib.hid (by unfold kwOk; simp [hc])
    obtain ⟨x0, y0⟩ := B0.six
    go_wp2_with fail
    clear x0 y0
    go_ret2
    exact ⟨_, ret_vb2 HO.out.symm, by rw [HO.out]; exact own_nil _ _, K1⟩
  rw [hc]
  obtain ⟨x0, y0⟩ := B0.six
  go_wp2_with fail
  clear x0 y0
  refine (areItems_any _ its _ (H1.out.kept K1)).mono ?_
  rintro e w2 ⟨rfl, k2⟩
  replace B0 := B0.kept k2
  have sz2 := k2.size
  have K2 := K1.trans k2
  by_cases hi : itemsB its = true
  case neg =>
    simp only [Bool.not_eq_true] at hi
    rw [hi]
    have HO : Hid (kwOk x its = false) := Lib.hid (by unfold kwOk; simp [hc, hi])
    obtain ⟨x0, y0⟩ := B0.six
    go_wp2_with fail
    clear x0 y0
    go_ret2
    exact ⟨_, ret_vb2 HO.out.symm, by rw [HO.out]; exact own_nil _ _, K2⟩
  rw [hi]
  have HK : Hid (kwOk x its = true) := Lib.hid (by unfold kwOk; rw [hc, hi]; rfl)
  have HX := Lib.hid hc
  have HBB := Lib.hid hi
  have hl14 := (itemsB_true hi).1
  clear hc hi
  obtain ⟨x0, y0⟩ := B0.six
  go_wp2_with fail
  clear x0 y0
  obtain ⟨w0, hw0⟩ : ∃ w' : World, w' = w2.alloc (.cells #[] 3) := ⟨_, rfl⟩
  rw [← hw0]
  have KE : Kept w2 w0 := hw0 ▸ (Kept.refl w2).alloc _
  have HO0 : Hid (OwnI w0 w2.heap.size (.slice (some ⟨w2.heap.size, 0, none⟩) 0 0) (brokenV x its 0)) := Lib.hid (own_made _ _ 1 (Nat.le_refl _) (hw0 ▸ Box.new w2 _ _ _ rfl))
  clear hw0
  go_loopw [6, 7] (fun q i wr => ∃ j : Nat, j ≤ 8 ∧ i = .int .i64 ((j : Int) + 1) ∧ OwnI wr w2.heap.size q (brokenV x its j) ∧ Kept w2 wr) (fun _ i _ => 9 - (intOf i).toNat)
  case atStart => exact ⟨0, Nat.zero_le _, rfl, HO0.out, KE⟩
  case round =>
    obtain ⟨j, hj, rfl, ho, hkept⟩ := hrel
    have HO := Lib.hid ho
    clear ho
    replace B0 := B0.kept hkept
    have szr := hkept.size
    have Kr := K2.trans hkept
    have hbl := brokenV_len x its j
    by_cases hlt : j < 8
    · have HSN := Lib.hid (brokenV_snoc x its j)
      obtain ⟨x0, y0⟩ := B0.six
      go_wp2_with fail
      clear x0 y0
      refine (ruleHolds_any _ _ x its ((j : Int) + 1) _ (H0.out.kept Kr) (H1.out.kept Kr) HX.out HBB.out (by omega) (by omega)).mono ?_
      rintro e w3 ⟨rfl, k3⟩
      replace B0 := B0.kept k3
      have sz3 := k3.size
      have K3 := Kr.trans k3
      by_cases hq : ruleB x its ((j : Int) + 1) = true
      · have HN : Hid (brokenV x its (j + 1) = brokenV x its j) := Lib.hid (by rw [HSN.out, if_pos hq, List.append_nil])
        rw [hq]
        clear hq
        obtain ⟨x0, y0⟩ := B0.six
        go_wp2_with fail
        clear x0 y0
        go_roundw
        case rel => exact ⟨j + 1, by omega, by go_num, by rw [HN.out]; exact HO.out.kept k3, hkept.trans k3⟩
        case measure => simp [intOf]; omega
      · have HN : Hid (brokenV x its (j + 1) = brokenV x its j ++ [(j : Int) + 1]) := Lib.hid (by rw [HSN.out, if_neg hq])
        simp only [Bool.not_eq_true] at hq
        rw [hq]
        clear hq
        obtain ⟨x0, y0⟩ := B0.six
        go_wp2_with (at_builtin; refine wpList_append_int _ rfl _ _ rfl w2.heap.size _ (brokenV x its j) rfl ((HO.out.kept k3).kept ((Kept.refl _).alloc _)) _ ((j : Int) + 1) rfl ((Box.new _ _ _ _ rfl).cell 0) (by omega) (by have := k3.size; have := hkept.size; simp; omega) ?_; intro v3 w3 o3 g3)
        clear x0 y0
        have kg : Kept w2 w3 := ((hkept.trans k3).alloc (.cells #[.int .i64 ((j : Int) + 1)] 3)).grew ((HO.out.kept k3).kept ((Kept.refl _).alloc _)) g3 (Nat.le_refl _)
        have HO3 := Lib.hid o3
        clear o3 g3
        go_wp2_with fail
        go_roundw
        case rel => exact ⟨j + 1, by omega, by go_num, by rw [HN.out]; exact HO3.out, kg⟩
        case measure => simp [intOf]; omega
    · obtain rfl : j = 8 := by omega
      obtain ⟨x0, y0⟩ := B0.six
      go_wp2_with fail
      clear x0 y0
      go_ret2
      exact ⟨_, ret_vb2 HK.out.symm, by rw [HK.out]; exact HO.out.base K2.size, Kr⟩
set_option maxHeartbeats 2000000 in
theorem pgGood_any (v0 v1 : Value) (x : CodeD) (its : List ItemD) (w : World) (h0 : CodeAt w v0 x) (h1 : ItemsAt w v1 its)  :
    Calls Try.prog 80 #[v0, v1] w fun e w' => e = .returned (.bool (goodB x its)) ∧ Kept w w' := by
  have H0 := Lib.hid h0
  obtain ⟨n0, m0, rfl, p0, q0⟩ := h0
  have HE0 := Lib.hid p0; have HI0 := Lib.hid q0
  obtain ⟨A0, c0, rfl, hnc0, hcm0, _⟩ := p0.1.out; obtain ⟨D0, d0, rfl, hnd0, hdm0, _⟩ := q0.out; clear p0 q0; unfold maxLen at hcm0 hdm0
  have H1 := Lib.hid h1
  obtain ⟨A1, c1, cs1, rfl, hnc1, hcm1, hA1⟩ := h1.out; have HA1 := Lib.hid hA1; clear hA1 h1; unfold maxLen at hcm1
  go_enter Try.func80, Try.ntmps80
  have K0 := Kept.refl w
  go_wp2_with fail
  obtain ⟨wb1, hwb1⟩ : ∃ w' : World, w' = w.alloc (.cells #[.slice A0 x.elems.length c0, .slice D0 x.limits.length d0, .int .i64 x.repeats, .int .i64 x.bonus, .int .i64 x.keeps, .int .i64 x.fall] 51) := ⟨_, rfl⟩
  rw [← hwb1]
  have KB0 : Kept w wb1 := hwb1 ▸ (Kept.refl w).alloc _
  have B0 : Box wb1 (w.heap.size) 51 #[.slice A0 x.elems.length c0, .slice D0 x.limits.length d0, .int .i64 x.repeats, .int .i64 x.bonus, .int .i64 x.keeps, .int .i64 x.fall] := hwb1 ▸ Box.new w (w.heap.size) 51 #[.slice A0 x.elems.length c0, .slice D0 x.limits.length d0, .int .i64 x.repeats, .int .i64 x.bonus, .int .i64 x.keeps, .int .i64 x.fall] rfl
  have swb1 : wb1.heap.size = w.heap.size + 1 := by rw [hwb1]; simp
  clear hwb1
  have Kwb1 := K0.trans KB0
  refine (pgAsked_any _ _ x its _ (H0.out.kept Kwb1) (H1.out.kept Kwb1)).mono ?_
  rintro e w1 ⟨rfl, k1⟩
  replace B0 := B0.kept k1
  have sz1 := k1.size
  have K1 := Kwb1.trans k1
  by_cases hq : kwOk x its = true
  case neg =>
    simp only [Bool.not_eq_true] at hq
    rw [hq]
    have HO : Hid (goodB x its = false) := Lib.hid (by unfold goodB; rw [hq]; rfl)
    clear hq
    obtain ⟨x0, y0⟩ := B0.six
    go_wp2_with fail
    clear x0 y0
    go_ret
    exact ⟨ret_bool HO.out.symm, K1⟩
  rw [hq]
  obtain ⟨hc, hi⟩ := kwOk_true hq
  have HK := Lib.hid hq
  clear hq
  obtain ⟨x0, y0⟩ := B0.six
  go_wp2_with fail
  clear x0 y0
  refine (pgFaults_any _ _ x its _ (H0.out.kept K1) (H1.out.kept K1) hc hi).mono ?_
  rintro e w2 ⟨v2, rfl, o2, k2⟩
  replace B0 := B0.kept k2
  have sz2 := k2.size
  have K2 := K1.trans k2
  obtain ⟨Ag, cg, rfl, hcg1, hcg2, _⟩ := own_form o2
  unfold maxLen at hcg2
  clear o2
  have HG : Hid (goodB x its = (brokenV x its 8).isEmpty) := Lib.hid (by unfold goodB; rw [HK.out]; rfl)
  generalize brokenV x its 8 = bl at *
  rcases bl with _ | ⟨bh, bt⟩
  · have HF : Hid (goodB x its = true) := Lib.hid HG.out
    obtain ⟨x0, y0⟩ := B0.six
    go_wp2_with fail
    clear x0 y0
    go_ret
    exact ⟨ret_bool HF.out.symm, K2⟩
  · have HF : Hid (goodB x its = false) := Lib.hid HG.out
    have e1 : (((bh :: bt).length : Int) == 0) = false := beq_eq_false_iff_ne.2 (by simp; omega)
    generalize (bh :: bt).length = bn at *
    obtain ⟨x0, y0⟩ := B0.six
    go_wp2_with fail
    clear x0 y0
    go_ret
    exact ⟨ret_bool HF.out.symm, K2⟩
set_option maxHeartbeats 2000000 in
theorem isProgramme_any (v0 v1 : Value) (x : CodeD) (its : List ItemD) (w : World) (h0 : CodeAt w v0 x) (h1 : ItemsAt w v1 its)  :
    Calls Try.prog 81 #[v0, v1] w fun e w' => e = .returned (.bool (goodB x its)) ∧ Kept w w' := by
  have H0 := Lib.hid h0
  obtain ⟨n0, m0, rfl, p0, q0⟩ := h0
  have HE0 := Lib.hid p0; have HI0 := Lib.hid q0
  obtain ⟨A0, c0, rfl, hnc0, hcm0, _⟩ := p0.1.out; obtain ⟨D0, d0, rfl, hnd0, hdm0, _⟩ := q0.out; clear p0 q0; unfold maxLen at hcm0 hdm0
  have H1 := Lib.hid h1
  obtain ⟨A1, c1, cs1, rfl, hnc1, hcm1, hA1⟩ := h1.out; have HA1 := Lib.hid hA1; clear hA1 h1; unfold maxLen at hcm1
  go_enter Try.func81, Try.ntmps81
  have K0 := Kept.refl w
  go_wp2_with fail
  obtain ⟨wb1, hwb1⟩ : ∃ w' : World, w' = w.alloc (.cells #[.slice A0 x.elems.length c0, .slice D0 x.limits.length d0, .int .i64 x.repeats, .int .i64 x.bonus, .int .i64 x.keeps, .int .i64 x.fall] 51) := ⟨_, rfl⟩
  rw [← hwb1]
  have KB0 : Kept w wb1 := hwb1 ▸ (Kept.refl w).alloc _
  have B0 : Box wb1 (w.heap.size) 51 #[.slice A0 x.elems.length c0, .slice D0 x.limits.length d0, .int .i64 x.repeats, .int .i64 x.bonus, .int .i64 x.keeps, .int .i64 x.fall] := hwb1 ▸ Box.new w (w.heap.size) 51 #[.slice A0 x.elems.length c0, .slice D0 x.limits.length d0, .int .i64 x.repeats, .int .i64 x.bonus, .int .i64 x.keeps, .int .i64 x.fall] rfl
  have swb1 : wb1.heap.size = w.heap.size + 1 := by rw [hwb1]; simp
  clear hwb1
  have Kwb1 := K0.trans KB0
  refine (implBrokenRules_any _ _ x its _ (H0.out.kept Kwb1) (H1.out.kept Kwb1)).mono ?_
  rintro e w1 ⟨v1, rfl, o1, k1⟩
  replace B0 := B0.kept k1
  have sz1 := k1.size
  have K1 := Kwb1.trans k1
  obtain ⟨Ag, cg, rfl, hcg1, hcg2, _⟩ := own_form o1
  unfold maxLen at hcg2
  clear o1
  by_cases hq : kwOk x its = true
  case neg =>
    simp only [Bool.not_eq_true] at hq
    have HO : Hid (goodB x its = false) := Lib.hid (by unfold goodB; rw [hq]; rfl)
    rw [hq]
    clear hq
    rw [show onL false (brokenV x its 8) = [] from rfl]
    obtain ⟨x0, y0⟩ := B0.six
    go_wp2_with fail
    clear x0 y0
    go_ret
    exact ⟨ret_bool HO.out.symm, K1⟩
  have HG : Hid (goodB x its = (brokenV x its 8).isEmpty) := Lib.hid (by unfold goodB; rw [hq]; rfl)
  rw [hq]
  clear hq
  rw [show onL true (brokenV x its 8) = brokenV x its 8 from rfl]
  generalize brokenV x its 8 = bl at *
  rcases bl with _ | ⟨bh, bt⟩
  · have HF : Hid (goodB x its = true) := Lib.hid HG.out
    obtain ⟨x0, y0⟩ := B0.six
    go_wp2_with fail
    clear x0 y0
    go_ret
    exact ⟨ret_bool HF.out.symm, K1⟩
  · have HF : Hid (goodB x its = false) := Lib.hid HG.out
    have e1 : (((bh :: bt).length : Int) == 0) = false := beq_eq_false_iff_ne.2 (by simp; omega)
    generalize (bh :: bt).length = bn at *
    obtain ⟨x0, y0⟩ := B0.six
    go_wp2_with fail
    clear x0 y0
    go_ret
    exact ⟨ret_bool HF.out.symm, K1⟩
set_option maxHeartbeats 2000000 in
theorem specIsProgramme_any (v0 v1 : Value) (x : CodeD) (its : List ItemD) (w : World) (h0 : CodeAt w v0 x) (h1 : ItemsAt w v1 its)  :
    Calls Try.prog 41 #[v0, v1] w fun e w' => e = .returned (.tuple #[.bool (onB (kwOk x its) (goodB x its)), .bool (kwOk x its)]) ∧ Kept w w' := by
  have H0 := Lib.hid h0
  obtain ⟨n0, m0, rfl, p0, q0⟩ := h0
  have HE0 := Lib.hid p0; have HI0 := Lib.hid q0
  obtain ⟨A0, c0, rfl, hnc0, hcm0, _⟩ := p0.1.out; obtain ⟨D0, d0, rfl, hnd0, hdm0, _⟩ := q0.out; clear p0 q0; unfold maxLen at hcm0 hdm0
  have H1 := Lib.hid h1
  obtain ⟨A1, c1, cs1, rfl, hnc1, hcm1, hA1⟩ := h1.out; have HA1 := Lib.hid hA1; clear hA1 h1; unfold maxLen at hcm1
  go_enter Try.func41, Try.ntmps41
  have K0 := Kept.refl w
  go_wp2_with fail
  obtain ⟨wb1, hwb1⟩ : ∃ w' : World, w' = w.alloc (.cells #[.slice A0 x.elems.length c0, .slice D0 x.limits.length d0, .int .i64 x.repeats, .int .i64 x.bonus, .int .i64 x.keeps, .int .i64 x.fall] 51) := ⟨_, rfl⟩
  rw [← hwb1]
  have KB0 : Kept w wb1 := hwb1 ▸ (Kept.refl w).alloc _
  have B0 : Box wb1 (w.heap.size) 51 #[.slice A0 x.elems.length c0, .slice D0 x.limits.length d0, .int .i64 x.repeats, .int .i64 x.bonus, .int .i64 x.keeps, .int .i64 x.fall] := hwb1 ▸ Box.new w (w.heap.size) 51 #[.slice A0 x.elems.length c0, .slice D0 x.limits.length d0, .int .i64 x.repeats, .int .i64 x.bonus, .int .i64 x.keeps, .int .i64 x.fall] rfl
  have swb1 : wb1.heap.size = w.heap.size + 1 := by rw [hwb1]; simp
  clear hwb1
  have Kwb1 := K0.trans KB0
  refine (pgAsked_any _ _ x its _ (H0.out.kept Kwb1) (H1.out.kept Kwb1)).mono ?_
  rintro e w1 ⟨rfl, k1⟩
  replace B0 := B0.kept k1
  have sz1 := k1.size
  have K1 := Kwb1.trans k1
  by_cases hq : kwOk x its = true
  case neg =>
    simp only [Bool.not_eq_true] at hq
    rw [hq]
    have HO := Lib.hid hq
    clear hq
    obtain ⟨x0, y0⟩ := B0.six
    go_wp2_with fail
    clear x0 y0
    go_ret2
    exact ⟨by rw [HO.out]; rfl, K1⟩
  rw [hq]
  have HK := Lib.hid hq
  clear hq
  obtain ⟨x0, y0⟩ := B0.six
  go_wp2_with fail
  clear x0 y0
  refine (pgGood_any _ _ x its _ (H0.out.kept K1) (H1.out.kept K1)).mono ?_
  rintro e w2 ⟨rfl, k2⟩
  replace B0 := B0.kept k2
  have sz2 := k2.size
  have K2 := K1.trans k2
  obtain ⟨x0, y0⟩ := B0.six
  go_wp2_with fail
  clear x0 y0
  go_ret2
  exact ⟨by rw [HK.out]; rfl, K2⟩
set_option maxHeartbeats 2000000 in
theorem implIsProgramme_any (v0 v1 : Value) (x : CodeD) (its : List ItemD) (w : World) (h0 : CodeAt w v0 x) (h1 : ItemsAt w v1 its)  :
    Calls Try.prog 42 #[v0, v1] w fun e w' => e = .returned (.tuple #[.bool (onB (kwOk x its) (goodB x its)), .bool (kwOk x its)]) ∧ Kept w w' := by
  have H0 := Lib.hid h0
  obtain ⟨n0, m0, rfl, p0, q0⟩ := h0
  have HE0 := Lib.hid p0; have HI0 := Lib.hid q0
  obtain ⟨A0, c0, rfl, hnc0, hcm0, _⟩ := p0.1.out; obtain ⟨D0, d0, rfl, hnd0, hdm0, _⟩ := q0.out; clear p0 q0; unfold maxLen at hcm0 hdm0
  have H1 := Lib.hid h1
  obtain ⟨A1, c1, cs1, rfl, hnc1, hcm1, hA1⟩ := h1.out; have HA1 := Lib.hid hA1; clear hA1 h1; unfold maxLen at hcm1
  go_enter Try.func42, Try.ntmps42
  have K0 := Kept.refl w
  go_wp2_with fail
  obtain ⟨wb1, hwb1⟩ : ∃ w' : World, w' = w.alloc (.cells #[.slice A0 x.elems.length c0, .slice D0 x.limits.length d0, .int .i64 x.repeats, .int .i64 x.bonus, .int .i64 x.keeps, .int .i64 x.fall] 51) := ⟨_, rfl⟩
  rw [← hwb1]
  have KB0 : Kept w wb1 := hwb1 ▸ (Kept.refl w).alloc _
  have B0 : Box wb1 (w.heap.size) 51 #[.slice A0 x.elems.length c0, .slice D0 x.limits.length d0, .int .i64 x.repeats, .int .i64 x.bonus, .int .i64 x.keeps, .int .i64 x.fall] := hwb1 ▸ Box.new w (w.heap.size) 51 #[.slice A0 x.elems.length c0, .slice D0 x.limits.length d0, .int .i64 x.repeats, .int .i64 x.bonus, .int .i64 x.keeps, .int .i64 x.fall] rfl
  have swb1 : wb1.heap.size = w.heap.size + 1 := by rw [hwb1]; simp
  clear hwb1
  have Kwb1 := K0.trans KB0
  refine (isCode_any _ x _ (H0.out.kept Kwb1)).mono ?_
  rintro e w1 ⟨rfl, k1⟩
  replace B0 := B0.kept k1
  have sz1 := k1.size
  have K1 := Kwb1.trans k1
  by_cases hc : codeB x = true
  case neg =>
    simp only [Bool.not_eq_true] at hc
    rw [hc]
    have HO : Hid (kwOk x its = false) := Lib.hid (by unfold kwOk; simp [hc])
    obtain ⟨x0, y0⟩ := B0.six
    go_wp2_with fail
    clear x0 y0
    go_ret2
    exact ⟨by rw [HO.out]; rfl, K1⟩
  rw [hc]
  obtain ⟨x0, y0⟩ := B0.six
  go_wp2_with fail
  clear x0 y0
  refine (areItems_any _ its _ (H1.out.kept K1)).mono ?_
  rintro e w2 ⟨rfl, k2⟩
  replace B0 := B0.kept k2
  have sz2 := k2.size
  have K2 := K1.trans k2
  by_cases hi : itemsB its = true
  case neg =>
    simp only [Bool.not_eq_true] at hi
    rw [hi]
    have HO : Hid (kwOk x its = false) := Lib.hid (by unfold kwOk; simp [hc, hi])
    obtain ⟨x0, y0⟩ := B0.six
    go_wp2_with fail
    clear x0 y0
    go_ret2
    exact ⟨by rw [HO.out]; rfl, K2⟩
  rw [hi]
  have HK : Hid (kwOk x its = true) := Lib.hid (by unfold kwOk; rw [hc, hi]; rfl)
  clear hc hi
  obtain ⟨x0, y0⟩ := B0.six
  go_wp2_with fail
  clear x0 y0
  refine (isProgramme_any _ _ x its _ (H0.out.kept K2) (H1.out.kept K2)).mono ?_
  rintro e w3 ⟨rfl, k3⟩
  replace B0 := B0.kept k3
  have sz3 := k3.size
  have K3 := K2.trans k3
  obtain ⟨x0, y0⟩ := B0.six
  go_wp2_with fail
  clear x0 y0
  go_ret2
  exact ⟨by rw [HK.out]; rfl, K3⟩
set_option maxHeartbeats 2000000 in
theorem lawIsProgramme_any {w : World} {v0 : Value} {v1 : Value} (z0 : CodeD) (z1 : List ItemD) (h0 : CodeAt w v0 z0) (h1 : ItemsAt w v1 z1) :
    Calls Try.prog 9 #[v0, v1] w fun e w' => e = .returned (.bool true) ∧ Kept w w' := by
  have H0 := Lib.hid h0
  obtain ⟨n0, m0, rfl, p0, q0⟩ := h0
  obtain ⟨A0, c0, rfl, _⟩ := p0.1.out
  obtain ⟨D0, d0, rfl, _⟩ := q0.out
  clear p0 q0
  have H1 := Lib.hid h1
  clear h1
  go_enter Try.func9, Try.ntmps9
  have K0 := Kept.refl w
  go_wp2_with fail
  obtain ⟨wb1, hwb1⟩ : ∃ w' : World, w' = w.alloc (.cells #[.slice A0 z0.elems.length c0, .slice D0 z0.limits.length d0, .int .i64 z0.repeats, .int .i64 z0.bonus, .int .i64 z0.keeps, .int .i64 z0.fall] 45) := ⟨_, rfl⟩
  rw [← hwb1]
  have KB0 : Kept w wb1 := hwb1 ▸ (Kept.refl w).alloc _
  have B0 : Box wb1 (w.heap.size) 45 #[.slice A0 z0.elems.length c0, .slice D0 z0.limits.length d0, .int .i64 z0.repeats, .int .i64 z0.bonus, .int .i64 z0.keeps, .int .i64 z0.fall] := hwb1 ▸ Box.new w (w.heap.size) 45 #[.slice A0 z0.elems.length c0, .slice D0 z0.limits.length d0, .int .i64 z0.repeats, .int .i64 z0.bonus, .int .i64 z0.keeps, .int .i64 z0.fall] rfl
  have szwb1 : wb1.heap.size = w.heap.size + 1 := by rw [hwb1]; simp
  clear hwb1
  have Kwb1 := K0.trans KB0
  refine (szCode_any _ z0 _ _ (H0.out.kept Kwb1) (by omega) (by omega)).mono ?_
  rintro e w1 ⟨rfl, k1⟩
  replace B0 := B0.kept k1
  have sz1 := k1.size
  have K1 := Kwb1.trans k1
  by_cases hbig0 : ((z0.size : Nat) : Int) ≤ 1048576
  case neg =>
    have e1 : lessOr 1048576 (z0.size) = -1 := by unfold lessOr; exact if_neg (by omega)
    rw [e1]
    go_wp2_with fail
    go_ret
    exact ⟨rfl, K1⟩
  have e1 : lessOr 1048576 (z0.size) = 1048576 - (z0.size : Int) := by unfold lessOr; exact if_pos (by omega)
  rw [e1]
  clear e1
  have hparts0 := code_parts z0
  obtain ⟨x0, y0⟩ := B0.six
  go_wp2_with fail
  clear x0 y0
  refine (szItemS_any _ z1 _ _ (H1.out.kept K1) (by omega) (by omega)).mono ?_
  rintro e w2 ⟨rfl, k2⟩
  replace B0 := B0.kept k2
  have sz2 := k2.size
  have K2 := K1.trans k2
  by_cases hbig1 : ((itemsSize z1 : Nat) : Int) ≤ (1048576 - (z0.size : Int))
  case neg =>
    have e1 : lessOr (1048576 - (z0.size : Int)) (itemsSize z1) = -1 := by unfold lessOr; exact if_neg (by omega)
    rw [e1]
    go_wp2_with fail
    go_ret
    exact ⟨rfl, K2⟩
  have e1 : lessOr (1048576 - (z0.size : Int)) (itemsSize z1) = (1048576 - (z0.size : Int)) - (itemsSize z1 : Int) := by unfold lessOr; exact if_pos (by omega)
  rw [e1]
  clear e1
  obtain ⟨x0, y0⟩ := B0.six
  go_wp2_with fail
  clear x0 y0
  refine (toCode_any _ z0 _ (H0.out.kept K2) (by omega) (by omega)).mono ?_
  rintro e w3 ⟨u3, rfl, o3, k3⟩
  replace B0 := B0.kept k3
  have sz3 := k3.size
  have K3 := K2.trans k3
  have R3 := Lib.hid o3.code
  clear o3
  obtain ⟨x0, y0⟩ := B0.six
  go_wp2_with fail
  clear x0 y0
  refine (toItemS_any _ z1 _ (H1.out.kept K3) (by omega)).mono ?_
  rintro e w4 ⟨u4, S4, rfl, o4, k4⟩
  replace B0 := B0.kept k4
  replace R3 := Lib.hid (R3.out.kept k4)
  have sz4 := k4.size
  have K4 := K3.trans k4
  have R4 := Lib.hid o4.items
  clear o4
  obtain ⟨x0, y0⟩ := B0.six
  go_wp2_with fail
  clear x0 y0
  refine (specIsProgramme_any _ _ z0 z1 _ R3.out R4.out).mono ?_
  rintro e w5 ⟨rfl, k5⟩
  replace B0 := B0.kept k5
  replace R3 := Lib.hid (R3.out.kept k5)
  replace R4 := Lib.hid (R4.out.kept k5)
  have sz5 := k5.size
  have K5 := K4.trans k5
  clear R3
  clear R4
  obtain ⟨x0, y0⟩ := B0.six
  go_wp2_with fail
  clear x0 y0
  refine (toCode_any _ z0 _ (H0.out.kept K5) (by omega) (by omega)).mono ?_
  rintro e w6 ⟨u6, rfl, o6, k6⟩
  replace B0 := B0.kept k6
  have sz6 := k6.size
  have K6 := K5.trans k6
  obtain ⟨n6, m6, rfl, p6, q6, nd6⟩ := o6
  obtain ⟨A6, c6, rfl, _⟩ := own_form p6.1
  obtain ⟨D6, d6, rfl, _⟩ := own_form q6
  have o6 : OwnK w6 _ (.agg #[.slice A6 z0.elems.length c6, .slice D6 z0.limits.length d6, .int .i64 z0.repeats, .int .i64 z0.bonus, .int .i64 z0.keeps, .int .i64 z0.fall]) z0 := ⟨_, _, rfl, p6, q6, nd6⟩
  clear p6 q6 nd6
  have F6 := Lib.hid o6.fps
  have O6 := Lib.hid o6
  clear o6
  obtain ⟨x0, y0⟩ := B0.six
  have l0 := B0.lt
  go_wp2_with fail
  clear x0 y0 l0
  obtain ⟨wb2, hwb2⟩ : ∃ w' : World, w' = w6.alloc (.cells #[.slice A6 z0.elems.length c6, .slice D6 z0.limits.length d6, .int .i64 z0.repeats, .int .i64 z0.bonus, .int .i64 z0.keeps, .int .i64 z0.fall] 51) := ⟨_, rfl⟩
  rw [← hwb2]
  have KB6 : Kept w6 wb2 := hwb2 ▸ (Kept.refl w6).alloc _
  have B6 : Box wb2 (w6.heap.size) 51 #[.slice A6 z0.elems.length c6, .slice D6 z0.limits.length d6, .int .i64 z0.repeats, .int .i64 z0.bonus, .int .i64 z0.keeps, .int .i64 z0.fall] := hwb2 ▸ Box.new w6 (w6.heap.size) 51 #[.slice A6 z0.elems.length c6, .slice D6 z0.limits.length d6, .int .i64 z0.repeats, .int .i64 z0.bonus, .int .i64 z0.keeps, .int .i64 z0.fall] rfl
  have szwb2 : wb2.heap.size = w6.heap.size + 1 := by rw [hwb2]; simp
  clear hwb2
  replace B0 := B0.kept KB6
  replace O6 := Lib.hid (O6.out.kept KB6)
  have Kwb2 := K6.trans KB6
  refine (toItemS_any _ z1 _ (H1.out.kept Kwb2) (by omega)).mono ?_
  rintro e w7 ⟨u7, S7, rfl, o7, k7⟩
  replace B0 := B0.kept k7
  replace B6 := B6.kept k7
  replace O6 := Lib.hid (O6.out.kept k7)
  have sz7 := k7.size
  have K7 := Kwb2.trans k7
  obtain ⟨cs7, oc7, rfl, hF7⟩ := o7.toC
  have O7 := Lib.hid oc7
  have F7 := Lib.hid hF7
  clear o7 oc7 hF7
  obtain ⟨x0, y0⟩ := B0.six
  obtain ⟨x6, y6⟩ := B6.six
  go_wp2_with fail
  clear x0 y0 x6 y6
  refine (implIsProgramme_any _ _ z0 z1 _ O6.out.code O7.out.items).mono ?_
  rintro e w8 ⟨rfl, k8⟩
  replace B0 := B0.kept k8
  replace B6 := B6.kept k8
  replace O6 := Lib.hid (O6.out.kept k8)
  replace O7 := Lib.hid (O7.out.kept k8)
  have sz8 := k8.size
  have K8 := K7.trans k8
  obtain ⟨x0, y0⟩ := B0.six
  obtain ⟨x6, y6⟩ := B6.six
  go_wp2_with fail
  clear x0 y0 x6 y6
  have KDw8 : Kept w8 w8.drew := (Kept.refl _).drew
  replace B0 := B0.kept KDw8
  replace B6 := B6.kept KDw8
  replace O6 := Lib.hid (O6.out.kept KDw8)
  replace O7 := Lib.hid (O7.out.kept KDw8)
  have KKw8 := K8.trans KDw8
  have szdw8 : w8.heap.size ≤ w8.drew.heap.size := KDw8.size
  go_region_held3 (fun w' => (w'.cell? ⟨w.heap.size, 0, none⟩ = some (.slice A0 z0.elems.length c0) ∧ w'.cell? ⟨w.heap.size, 1, none⟩ = some (.slice D0 z0.limits.length d0) ∧ w'.cell? ⟨w.heap.size, 2, none⟩ = some (.int .i64 z0.repeats) ∧ w'.cell? ⟨w.heap.size, 3, none⟩ = some (.int .i64 z0.bonus) ∧ w'.cell? ⟨w.heap.size, 4, none⟩ = some (.int .i64 z0.keeps) ∧ w'.cell? ⟨w.heap.size, 5, none⟩ = some (.int .i64 z0.fall)) ∧ (w'.cell? ⟨w6.heap.size, 0, none⟩ = some (.slice A6 z0.elems.length c6) ∧ w'.cell? ⟨w6.heap.size, 1, none⟩ = some (.slice D6 z0.limits.length d6) ∧ w'.cell? ⟨w6.heap.size, 2, none⟩ = some (.int .i64 z0.repeats) ∧ w'.cell? ⟨w6.heap.size, 3, none⟩ = some (.int .i64 z0.bonus) ∧ w'.cell? ⟨w6.heap.size, 4, none⟩ = some (.int .i64 z0.keeps) ∧ w'.cell? ⟨w6.heap.size, 5, none⟩ = some (.int .i64 z0.fall))) (first | exact ⟨B0.six.1, B6.six.1⟩ | exact ⟨(B0.kept (by assumption)).six.1, (B6.kept (by assumption)).six.1⟩)
    (first | (go_at_call 35; refine (toCode_any _ z0 _ (H0.out.kept KKw8) (by omega) (by omega)).mono ?_; rintro e w9 ⟨u9, rfl, o9, k9⟩) | (go_at_call 37; refine (eqCode_any _ _ z0 _ (O6.out.code.kept k9) o9.code).mono ?_; rintro e w10 ⟨rfl, k10⟩; have kk10 := k9.trans k10))
  clear o9
  replace B0 := B0.kept kk10
  replace B6 := B6.kept kk10
  replace O6 := Lib.hid (O6.out.kept kk10)
  replace O7 := Lib.hid (O7.out.kept kk10)
  have sz10 := kk10.size
  have K10 := KKw8.trans kk10
  obtain ⟨x0, y0⟩ := B0.six
  obtain ⟨x6, y6⟩ := B6.six
  go_wp2_with fail
  clear x0 y0 x6 y6
  refine (toItemS_any _ z1 _ (H1.out.kept K10) (by omega)).mono ?_
  rintro e w11 ⟨u11, S11, rfl, o11, k11⟩
  replace B0 := B0.kept k11
  replace B6 := B6.kept k11
  replace O6 := Lib.hid (O6.out.kept k11)
  replace O7 := Lib.hid (O7.out.kept k11)
  have sz11 := k11.size
  have K11 := K10.trans k11
  have R11 := Lib.hid o11.items
  clear o11
  obtain ⟨x0, y0⟩ := B0.six
  obtain ⟨x6, y6⟩ := B6.six
  go_wp2_with fail
  clear x0 y0 x6 y6
  refine (eqItemS_any _ _ (z1) _ O7.out.items R11.out).mono ?_
  rintro e w12 ⟨rfl, k12⟩
  replace B0 := B0.kept k12
  replace B6 := B6.kept k12
  replace R11 := Lib.hid (R11.out.kept k12)
  replace O6 := Lib.hid (O6.out.kept k12)
  replace O7 := Lib.hid (O7.out.kept k12)
  have sz12 := k12.size
  have K12 := K11.trans k12
  clear R11
  go_wp2_with fail
  go_ret
  exact ⟨rfl, K12⟩
set_option maxHeartbeats 4000000 in
theorem lawBrokenRules_any {w : World} {v0 : Value} {v1 : Value} (z0 : CodeD) (z1 : List ItemD) (h0 : CodeAt w v0 z0) (h1 : ItemsAt w v1 z1) :
    Calls Try.prog 8 #[v0, v1] w fun e w' => e = .returned (.bool true) ∧ Kept w w' := by
  have H0 := Lib.hid h0
  obtain ⟨n0, m0, rfl, p0, q0⟩ := h0
  obtain ⟨A0, c0, rfl, _⟩ := p0.1.out
  obtain ⟨D0, d0, rfl, _⟩ := q0.out
  clear p0 q0
  have H1 := Lib.hid h1
  clear h1
  go_enter Try.func8, Try.ntmps8
  have K0 := Kept.refl w
  go_wp2_with fail
  obtain ⟨wb1, hwb1⟩ : ∃ w' : World, w' = w.alloc (.cells #[.slice A0 z0.elems.length c0, .slice D0 z0.limits.length d0, .int .i64 z0.repeats, .int .i64 z0.bonus, .int .i64 z0.keeps, .int .i64 z0.fall] 45) := ⟨_, rfl⟩
  rw [← hwb1]
  have KB0 : Kept w wb1 := hwb1 ▸ (Kept.refl w).alloc _
  have B0 : Box wb1 (w.heap.size) 45 #[.slice A0 z0.elems.length c0, .slice D0 z0.limits.length d0, .int .i64 z0.repeats, .int .i64 z0.bonus, .int .i64 z0.keeps, .int .i64 z0.fall] := hwb1 ▸ Box.new w (w.heap.size) 45 #[.slice A0 z0.elems.length c0, .slice D0 z0.limits.length d0, .int .i64 z0.repeats, .int .i64 z0.bonus, .int .i64 z0.keeps, .int .i64 z0.fall] rfl
  have szwb1 : wb1.heap.size = w.heap.size + 1 := by rw [hwb1]; simp
  clear hwb1
  have Kwb1 := K0.trans KB0
  refine (szCode_any _ z0 _ _ (H0.out.kept Kwb1) (by omega) (by omega)).mono ?_
  rintro e w1 ⟨rfl, k1⟩
  replace B0 := B0.kept k1
  have sz1 := k1.size
  have K1 := Kwb1.trans k1
  by_cases hbig0 : ((z0.size : Nat) : Int) ≤ 1048576
  case neg =>
    have e1 : lessOr 1048576 (z0.size) = -1 := by unfold lessOr; exact if_neg (by omega)
    rw [e1]
    go_wp2_with fail
    go_ret
    exact ⟨rfl, K1⟩
  have e1 : lessOr 1048576 (z0.size) = 1048576 - (z0.size : Int) := by unfold lessOr; exact if_pos (by omega)
  rw [e1]
  clear e1
  have hparts0 := code_parts z0
  obtain ⟨x0, y0⟩ := B0.six
  go_wp2_with fail
  clear x0 y0
  refine (szItemS_any _ z1 _ _ (H1.out.kept K1) (by omega) (by omega)).mono ?_
  rintro e w2 ⟨rfl, k2⟩
  replace B0 := B0.kept k2
  have sz2 := k2.size
  have K2 := K1.trans k2
  by_cases hbig1 : ((itemsSize z1 : Nat) : Int) ≤ (1048576 - (z0.size : Int))
  case neg =>
    have e1 : lessOr (1048576 - (z0.size : Int)) (itemsSize z1) = -1 := by unfold lessOr; exact if_neg (by omega)
    rw [e1]
    go_wp2_with fail
    go_ret
    exact ⟨rfl, K2⟩
  have e1 : lessOr (1048576 - (z0.size : Int)) (itemsSize z1) = (1048576 - (z0.size : Int)) - (itemsSize z1 : Int) := by unfold lessOr; exact if_pos (by omega)
  rw [e1]
  clear e1
  have hX : (onL (kwOk z0 z1) (brokenV z0 z1 8)).length ≤ 8 := onL_len (fun _ => brokenV_len z0 z1 8)
  obtain ⟨x0, y0⟩ := B0.six
  go_wp2_with fail
  clear x0 y0
  refine (toCode_any _ z0 _ (H0.out.kept K2) (by omega) (by omega)).mono ?_
  rintro e w3 ⟨u3, rfl, o3, k3⟩
  replace B0 := B0.kept k3
  have sz3 := k3.size
  have K3 := K2.trans k3
  have R3 := Lib.hid o3.code
  clear o3
  obtain ⟨x0, y0⟩ := B0.six
  go_wp2_with fail
  clear x0 y0
  refine (toItemS_any _ z1 _ (H1.out.kept K3) (by omega)).mono ?_
  rintro e w4 ⟨u4, S4, rfl, o4, k4⟩
  replace B0 := B0.kept k4
  replace R3 := Lib.hid (R3.out.kept k4)
  have sz4 := k4.size
  have K4 := K3.trans k4
  have R4 := Lib.hid o4.items
  clear o4
  obtain ⟨x0, y0⟩ := B0.six
  go_wp2_with fail
  clear x0 y0
  refine (specBrokenRules_any _ _ z0 z1 _ R3.out R4.out).mono ?_
  rintro e w5 ⟨u5, rfl, o5, k5⟩
  replace B0 := B0.kept k5
  replace R3 := Lib.hid (R3.out.kept k5)
  replace R4 := Lib.hid (R4.out.kept k5)
  have sz5 := k5.size
  have K5 := K4.trans k5
  clear R3
  clear R4
  have RS := Lib.hid o5.ints
  clear o5
  have KS := Kept.refl w5
  obtain ⟨x0, y0⟩ := B0.six
  go_wp2_with fail
  clear x0 y0
  refine (toCode_any _ z0 _ (H0.out.kept K5) (by omega) (by omega)).mono ?_
  rintro e w6 ⟨u6, rfl, o6, k6⟩
  replace B0 := B0.kept k6
  replace KS := KS.trans k6
  have sz6 := k6.size
  have K6 := K5.trans k6
  obtain ⟨n6, m6, rfl, p6, q6, nd6⟩ := o6
  obtain ⟨A6, c6, rfl, _⟩ := own_form p6.1
  obtain ⟨D6, d6, rfl, _⟩ := own_form q6
  have o6 : OwnK w6 _ (.agg #[.slice A6 z0.elems.length c6, .slice D6 z0.limits.length d6, .int .i64 z0.repeats, .int .i64 z0.bonus, .int .i64 z0.keeps, .int .i64 z0.fall]) z0 := ⟨_, _, rfl, p6, q6, nd6⟩
  clear p6 q6 nd6
  have F6 := Lib.hid o6.fps
  have O6 := Lib.hid o6
  clear o6
  obtain ⟨x0, y0⟩ := B0.six
  have l0 := B0.lt
  go_wp2_with fail
  clear x0 y0 l0
  obtain ⟨wb2, hwb2⟩ : ∃ w' : World, w' = w6.alloc (.cells #[.slice A6 z0.elems.length c6, .slice D6 z0.limits.length d6, .int .i64 z0.repeats, .int .i64 z0.bonus, .int .i64 z0.keeps, .int .i64 z0.fall] 51) := ⟨_, rfl⟩
  rw [← hwb2]
  have KB6 : Kept w6 wb2 := hwb2 ▸ (Kept.refl w6).alloc _
  have B6 : Box wb2 (w6.heap.size) 51 #[.slice A6 z0.elems.length c6, .slice D6 z0.limits.length d6, .int .i64 z0.repeats, .int .i64 z0.bonus, .int .i64 z0.keeps, .int .i64 z0.fall] := hwb2 ▸ Box.new w6 (w6.heap.size) 51 #[.slice A6 z0.elems.length c6, .slice D6 z0.limits.length d6, .int .i64 z0.repeats, .int .i64 z0.bonus, .int .i64 z0.keeps, .int .i64 z0.fall] rfl
  have szwb2 : wb2.heap.size = w6.heap.size + 1 := by rw [hwb2]; simp
  clear hwb2
  replace B0 := B0.kept KB6
  replace O6 := Lib.hid (O6.out.kept KB6)
  replace KS := KS.trans KB6
  have Kwb2 := K6.trans KB6
  refine (toItemS_any _ z1 _ (H1.out.kept Kwb2) (by omega)).mono ?_
  rintro e w7 ⟨u7, S7, rfl, o7, k7⟩
  replace B0 := B0.kept k7
  replace B6 := B6.kept k7
  replace O6 := Lib.hid (O6.out.kept k7)
  replace KS := KS.trans k7
  have sz7 := k7.size
  have K7 := Kwb2.trans k7
  obtain ⟨cs7, oc7, rfl, hF7⟩ := o7.toC
  have O7 := Lib.hid oc7
  have F7 := Lib.hid hF7
  clear o7 oc7 hF7
  obtain ⟨x0, y0⟩ := B0.six
  obtain ⟨x6, y6⟩ := B6.six
  go_wp2_with fail
  clear x0 y0 x6 y6
  refine (implBrokenRules_any _ _ z0 z1 _ O6.out.code O7.out.items).mono ?_
  rintro e w8 ⟨u8, rfl, o8, k8⟩
  replace B0 := B0.kept k8
  replace B6 := B6.kept k8
  replace O6 := Lib.hid (O6.out.kept k8)
  replace O7 := Lib.hid (O7.out.kept k8)
  replace KS := KS.trans k8
  have sz8 := k8.size
  have K8 := K7.trans k8
  have F8 := Lib.hid (own_fp o8)
  have O8 := Lib.hid o8
  clear o8
  obtain ⟨x0, y0⟩ := B0.six
  obtain ⟨x6, y6⟩ := B6.six
  go_wp2_with fail
  clear x0 y0 x6 y6
  refine (eqIntS_any _ _ (onL (kwOk z0 z1) (brokenV z0 z1 8)) (onL (kwOk z0 z1) (brokenV z0 z1 8)) _ O8.out.ints (RS.out.kept KS)).mono ?_
  rintro e w9 ⟨rfl, k9⟩
  replace B0 := B0.kept k9
  replace B6 := B6.kept k9
  replace O6 := Lib.hid (O6.out.kept k9)
  replace O7 := Lib.hid (O7.out.kept k9)
  replace O8 := Lib.hid (O8.out.kept k9)
  replace KS := KS.trans k9
  have sz9 := k9.size
  have K9 := K8.trans k9
  rw [show decide (onL (kwOk z0 z1) (brokenV z0 z1 8) = onL (kwOk z0 z1) (brokenV z0 z1 8)) = true from by simp]
  obtain ⟨x0, y0⟩ := B0.six
  obtain ⟨x6, y6⟩ := B6.six
  go_wp2_with fail
  clear x0 y0 x6 y6
  have KDw9 : Kept w9 w9.drew := (Kept.refl _).drew
  replace B0 := B0.kept KDw9
  replace B6 := B6.kept KDw9
  replace O6 := Lib.hid (O6.out.kept KDw9)
  replace O7 := Lib.hid (O7.out.kept KDw9)
  replace O8 := Lib.hid (O8.out.kept KDw9)
  replace KS := KS.trans KDw9
  have KKw9 := K9.trans KDw9
  have szdw9 : w9.heap.size ≤ w9.drew.heap.size := KDw9.size
  go_region_held3 (fun w' => (w'.cell? ⟨w.heap.size, 0, none⟩ = some (.slice A0 z0.elems.length c0) ∧ w'.cell? ⟨w.heap.size, 1, none⟩ = some (.slice D0 z0.limits.length d0) ∧ w'.cell? ⟨w.heap.size, 2, none⟩ = some (.int .i64 z0.repeats) ∧ w'.cell? ⟨w.heap.size, 3, none⟩ = some (.int .i64 z0.bonus) ∧ w'.cell? ⟨w.heap.size, 4, none⟩ = some (.int .i64 z0.keeps) ∧ w'.cell? ⟨w.heap.size, 5, none⟩ = some (.int .i64 z0.fall)) ∧ (w'.cell? ⟨w6.heap.size, 0, none⟩ = some (.slice A6 z0.elems.length c6) ∧ w'.cell? ⟨w6.heap.size, 1, none⟩ = some (.slice D6 z0.limits.length d6) ∧ w'.cell? ⟨w6.heap.size, 2, none⟩ = some (.int .i64 z0.repeats) ∧ w'.cell? ⟨w6.heap.size, 3, none⟩ = some (.int .i64 z0.bonus) ∧ w'.cell? ⟨w6.heap.size, 4, none⟩ = some (.int .i64 z0.keeps) ∧ w'.cell? ⟨w6.heap.size, 5, none⟩ = some (.int .i64 z0.fall))) (first | exact ⟨B0.six.1, B6.six.1⟩ | exact ⟨(B0.kept (by assumption)).six.1, (B6.kept (by assumption)).six.1⟩)
    (first | (go_at_call 35; refine (toCode_any _ z0 _ (H0.out.kept KKw9) (by omega) (by omega)).mono ?_; rintro e w10 ⟨u10, rfl, o10, k10⟩) | (go_at_call 37; refine (eqCode_any _ _ z0 _ (O6.out.code.kept k10) o10.code).mono ?_; rintro e w11 ⟨rfl, k11⟩; have kk11 := k10.trans k11))
  clear o10
  replace B0 := B0.kept kk11
  replace B6 := B6.kept kk11
  replace O6 := Lib.hid (O6.out.kept kk11)
  replace O7 := Lib.hid (O7.out.kept kk11)
  replace O8 := Lib.hid (O8.out.kept kk11)
  replace KS := KS.trans kk11
  have sz11 := kk11.size
  have K11 := KKw9.trans kk11
  obtain ⟨x0, y0⟩ := B0.six
  obtain ⟨x6, y6⟩ := B6.six
  go_wp2_with fail
  clear x0 y0 x6 y6
  refine (toItemS_any _ z1 _ (H1.out.kept K11) (by omega)).mono ?_
  rintro e w12 ⟨u12, S12, rfl, o12, k12⟩
  replace B0 := B0.kept k12
  replace B6 := B6.kept k12
  replace O6 := Lib.hid (O6.out.kept k12)
  replace O7 := Lib.hid (O7.out.kept k12)
  replace O8 := Lib.hid (O8.out.kept k12)
  replace KS := KS.trans k12
  have sz12 := k12.size
  have K12 := K11.trans k12
  have R12 := Lib.hid o12.items
  clear o12
  obtain ⟨x0, y0⟩ := B0.six
  obtain ⟨x6, y6⟩ := B6.six
  go_wp2_with fail
  clear x0 y0 x6 y6
  refine (eqItemS_any _ _ (z1) _ O7.out.items R12.out).mono ?_
  rintro e w13 ⟨rfl, k13⟩
  replace B0 := B0.kept k13
  replace B6 := B6.kept k13
  replace R12 := Lib.hid (R12.out.kept k13)
  replace O6 := Lib.hid (O6.out.kept k13)
  replace O7 := Lib.hid (O7.out.kept k13)
  replace O8 := Lib.hid (O8.out.kept k13)
  replace KS := KS.trans k13
  have sz13 := k13.size
  have K13 := K12.trans k13
  clear R12
  have nb6 : (1) ≤ nextC (1) z0 ∧ nextC (1) z0 ≤ (1) + 5242880 := ⟨by unfold nextC; omega, by unfold nextC; omega⟩
  obtain ⟨x0, y0⟩ := B0.six
  obtain ⟨x6, y6⟩ := B6.six
  go_wp2_with fail
  clear x0 y0 x6 y6
  refine (markCode_any _ z0 _ _ _ O6.out (by omega) (by omega) (by omega) (by omega)).mono ?_
  rintro e w14 ⟨rfl, o14, on14⟩
  have sz14 := on14.size
  replace B0 := B0.only on14 (fun hb => by have := F6.out _ hb; omega)
  replace B6 := B6.only on14 (fun hb => by have := F6.out _ hb; omega)
  replace O7 := Lib.hid (O7.out.only on14 (fun b hb hb' => by have := F7.out b hb; have := F6.out b hb'; omega))
  replace O8 := Lib.hid (O8.out.only on14 (fun b hb hb' => by have := F8.out b hb; have := F6.out b hb'; omega))
  replace KS := on14.above KS (fun b hb => by have := F6.out b hb; omega)
  have K14 := on14.above K13 (fun b hb => by have := F6.out b hb; omega)
  replace O6 := Lib.hid o14
  clear o14 on14
  have nb7 := nk_bd (nextC (1) z0) z1
  obtain ⟨x0, y0⟩ := B0.six
  obtain ⟨x6, y6⟩ := B6.six
  go_wp2_with fail
  clear x0 y0 x6 y6
  refine (markItemS_any _ z1 cs7 _ _ _ O7.out (by omega) (by omega) (by omega)).mono ?_
  rintro e w15 ⟨rfl, o15, on15⟩
  have sz15 := on15.size
  replace B0 := B0.only on15 (fun hb => by have := F7.out _ hb; omega)
  replace B6 := B6.only on15 (fun hb => by have := F7.out _ hb; omega)
  replace O6 := Lib.hid (O6.out.only on15 (fun b hb hb' => by have := F6.out b hb; have := F7.out b hb'; omega))
  replace O8 := Lib.hid (O8.out.only on15 (fun b hb hb' => by have := F8.out b hb; have := F7.out b hb'; omega))
  replace KS := on15.above KS (fun b hb => by have := F7.out b hb; omega)
  have K15 := on15.above K14 (fun b hb => by have := F7.out b hb; omega)
  replace O7 := Lib.hid o15
  clear o15 on15
  obtain ⟨x0, y0⟩ := B0.six
  obtain ⟨x6, y6⟩ := B6.six
  go_wp2_with fail
  clear x0 y0 x6 y6
  refine (eqIntS_any _ _ (onL (kwOk z0 z1) (brokenV z0 z1 8)) (onL (kwOk z0 z1) (brokenV z0 z1 8)) _ O8.out.ints (RS.out.kept KS)).mono ?_
  rintro e w16 ⟨rfl, k16⟩
  replace B0 := B0.kept k16
  replace B6 := B6.kept k16
  replace O6 := Lib.hid (O6.out.kept k16)
  replace O7 := Lib.hid (O7.out.kept k16)
  replace O8 := Lib.hid (O8.out.kept k16)
  replace KS := KS.trans k16
  have sz16 := k16.size
  have K16 := K15.trans k16
  rw [show decide (onL (kwOk z0 z1) (brokenV z0 z1 8) = onL (kwOk z0 z1) (brokenV z0 z1 8)) = true from by simp]
  obtain ⟨x0, y0⟩ := B0.six
  obtain ⟨x6, y6⟩ := B6.six
  go_wp2_with fail
  clear x0 y0 x6 y6
  refine (markIntS_any _ (onL (kwOk z0 z1) (brokenV z0 z1 8)) _ _ _ O8.out (by omega) (by omega) (by omega)).mono ?_
  rintro e w17 ⟨rfl, o17, on17⟩
  have sz17 := on17.size
  replace B0 := B0.only on17 (fun hb => by have := F8.out _ hb; omega)
  replace B6 := B6.only on17 (fun hb => by have := F8.out _ hb; omega)
  replace O6 := Lib.hid (O6.out.only on17 (fun b hb hb' => by have := F6.out b hb; have := F8.out b hb'; omega))
  replace O7 := Lib.hid (O7.out.only on17 (fun b hb hb' => by have := F7.out b hb; have := F8.out b hb'; omega))
  replace KS := on17.above KS (fun b hb => by have := F8.out b hb; omega)
  have K17 := on17.above K16 (fun b hb => by have := F8.out b hb; omega)
  replace O8 := Lib.hid o17
  clear o17 on17
  obtain ⟨x0, y0⟩ := B0.six
  obtain ⟨x6, y6⟩ := B6.six
  go_wp2_with fail
  clear x0 y0 x6 y6
  refine (heldIntS_any _ _ ((onL (kwOk z0 z1) (brokenV z0 z1 8))).length _ O8.out.ints (by omega) (by omega) (by omega)).mono ?_
  rintro e w18 ⟨rfl, k18⟩
  replace k18 := kept_of k18
  replace B0 := B0.kept k18
  replace B6 := B6.kept k18
  replace O6 := Lib.hid (O6.out.kept k18)
  replace O7 := Lib.hid (O7.out.kept k18)
  replace O8 := Lib.hid (O8.out.kept k18)
  replace KS := KS.trans k18
  have sz18 := k18.size
  have K18 := K17.trans k18
  obtain ⟨x0, y0⟩ := B0.six
  obtain ⟨x6, y6⟩ := B6.six
  go_wp2_with fail
  clear x0 y0 x6 y6
  refine (toCode_any _ z0 _ (H0.out.kept K18) (by omega) (by omega)).mono ?_
  rintro e w19 ⟨u19, rfl, o19, k19⟩
  replace B0 := B0.kept k19
  replace B6 := B6.kept k19
  replace O6 := Lib.hid (O6.out.kept k19)
  replace O7 := Lib.hid (O7.out.kept k19)
  replace O8 := Lib.hid (O8.out.kept k19)
  replace KS := KS.trans k19
  have sz19 := k19.size
  have K19 := K18.trans k19
  have R19 := Lib.hid o19.code
  clear o19
  obtain ⟨x0, y0⟩ := B0.six
  obtain ⟨x6, y6⟩ := B6.six
  go_wp2_with fail
  clear x0 y0 x6 y6
  refine (toItemS_any _ z1 _ (H1.out.kept K19) (by omega)).mono ?_
  rintro e w20 ⟨u20, S20, rfl, o20, k20⟩
  replace B0 := B0.kept k20
  replace B6 := B6.kept k20
  replace R19 := Lib.hid (R19.out.kept k20)
  replace O6 := Lib.hid (O6.out.kept k20)
  replace O7 := Lib.hid (O7.out.kept k20)
  replace O8 := Lib.hid (O8.out.kept k20)
  replace KS := KS.trans k20
  have sz20 := k20.size
  have K20 := K19.trans k20
  have R20 := Lib.hid o20.items
  clear o20
  obtain ⟨x0, y0⟩ := B0.six
  obtain ⟨x6, y6⟩ := B6.six
  go_wp2_with fail
  clear x0 y0 x6 y6
  refine (implBrokenRules_any _ _ z0 z1 _ R19.out R20.out).mono ?_
  rintro e w21 ⟨u21, rfl, o21, k21⟩
  replace B0 := B0.kept k21
  replace B6 := B6.kept k21
  replace R19 := Lib.hid (R19.out.kept k21)
  replace R20 := Lib.hid (R20.out.kept k21)
  replace O6 := Lib.hid (O6.out.kept k21)
  replace O7 := Lib.hid (O7.out.kept k21)
  replace O8 := Lib.hid (O8.out.kept k21)
  replace KS := KS.trans k21
  have sz21 := k21.size
  have K21 := K20.trans k21
  clear R19
  clear R20
  have RH := Lib.hid o21.ints
  clear o21
  obtain ⟨x0, y0⟩ := B0.six
  obtain ⟨x6, y6⟩ := B6.six
  go_wp2_with fail
  clear x0 y0 x6 y6
  refine (eqIntS_any _ _ (onL (kwOk z0 z1) (brokenV z0 z1 8)) (onL (kwOk z0 z1) (brokenV z0 z1 8)) _ RH.out (RS.out.kept KS)).mono ?_
  rintro e w22 ⟨rfl, k22⟩
  replace B0 := B0.kept k22
  replace B6 := B6.kept k22
  replace RH := Lib.hid (RH.out.kept k22)
  replace O6 := Lib.hid (O6.out.kept k22)
  replace O7 := Lib.hid (O7.out.kept k22)
  replace O8 := Lib.hid (O8.out.kept k22)
  replace KS := KS.trans k22
  have sz22 := k22.size
  have K22 := K21.trans k22
  rw [show decide (onL (kwOk z0 z1) (brokenV z0 z1 8) = onL (kwOk z0 z1) (brokenV z0 z1 8)) = true from by simp]
  obtain ⟨x0, y0⟩ := B0.six
  obtain ⟨x6, y6⟩ := B6.six
  go_wp2_with fail
  clear x0 y0 x6 y6
  refine (heldIntS_any _ _ ((onL (kwOk z0 z1) (brokenV z0 z1 8))).length _ O8.out.ints (by omega) (by omega) (by omega)).mono ?_
  rintro e w23 ⟨rfl, k23⟩
  replace k23 := kept_of k23
  replace B0 := B0.kept k23
  replace B6 := B6.kept k23
  replace RH := Lib.hid (RH.out.kept k23)
  replace O6 := Lib.hid (O6.out.kept k23)
  replace O7 := Lib.hid (O7.out.kept k23)
  replace O8 := Lib.hid (O8.out.kept k23)
  replace KS := KS.trans k23
  have sz23 := k23.size
  have K23 := K22.trans k23
  go_wp2_with fail
  go_ret
  exact ⟨rfl, K23⟩
end Go.Proofs.Ytmbgcmeiigmbaaa
