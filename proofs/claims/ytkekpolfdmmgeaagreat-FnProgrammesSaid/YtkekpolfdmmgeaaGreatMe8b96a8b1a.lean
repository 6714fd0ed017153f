/- Contracts of functions that the proof leans on. No condition. -/
import Derived.Test.YtkekpolfdmmgeaaGreatMdf42b2ce3a
/- Programmes: InsertItem. -/
namespace Go.Proofs.YtkekpolfdmmgeaaGreat
set_option linter.unusedVariables false
set_option linter.unusedSimpArgs false
open Go.RowKit

theorem inV_size (x : CodeD) (its : List ItemD) (a : Int) (it : ItemD) : itemsSize (inV x its a it) ≤ 330 := by
  refine onT_size (fun h => ?_)
  unfold inOk at h
  simp only [Bool.and_eq_true] at h
  have hi := (goodB_parts h.1).2
  refine lated_small (insert_all (all_of hi) h.2.1 _) ?_
  have h1 := insert_len its a.toNat it
  have h2 := (itemsB_true hi).1
  omega
set_option maxRecDepth 100000 in
set_option maxHeartbeats 8000000 in
theorem specInsertItem_any (v0 v1 v3 : Value) (x : CodeD) (its : List ItemD) (a : Int) (it : ItemD) (w : World) (h0 : CodeAt w v0 x) (h1 : ItemsAt w v1 its) (h3 : ItemAt w v3 it)  :
    Calls Tryz.prog 6 #[v0, v1, .int .i64 a, v3] w fun e w' => ∃ v' S, e = .returned (.tuple #[v', .bool (inOk x its a it)]) ∧ OwnL w' w.heap.size v' (inV x its a it) S ∧ Kept w w' := by
  have H0 := Lib.hid h0
  obtain ⟨n0, m0, rfl, p0, q0⟩ := h0
  have HE0 := Lib.hid p0; have HI0 := Lib.hid q0
  obtain ⟨A0, c0, rfl, hnc0, hcm0, _⟩ := p0.1.out; obtain ⟨D0, d0, rfl, hnd0, hdm0, _⟩ := q0.out; clear p0 q0; unfold maxLen at hcm0 hdm0
  have H1 := Lib.hid h1
  obtain ⟨A1, c1, cs1, rfl, hnc1, hcm1, hA1⟩ := h1.out; have HA1 := Lib.hid hA1; clear hA1 h1; unfold maxLen at hcm1
  have H3 := Lib.hid h3
  obtain ⟨n3, m3, rfl, p3, q3⟩ := h3
  have HN3 := Lib.hid p3; have HM3 := Lib.hid q3
  obtain ⟨A3, c3, rfl, hnc3, hcm3, _⟩ := p3.1.out; obtain ⟨D3, d3, rfl, hnd3, hdm3, _⟩ := q3.out; clear p3 q3; unfold maxLen at hcm3 hdm3
  go_enter Tryz.func6, Tryz.ntmps6
  have K0 := Kept.refl w
  go_wp2_with fail
  obtain ⟨wb1, hwb1⟩ : ∃ w' : World, w' = w.alloc (.cells #[.slice A0 x.elems.length c0, .slice D0 x.limits.length d0, .int .i64 x.repeats, .int .i64 x.bonus, .int .i64 x.keeps, .int .i64 x.fall] 26) := ⟨_, rfl⟩
  rw [← hwb1]
  have KB0 : Kept w wb1 := hwb1 ▸ (Kept.refl w).alloc _
  have B0 : Box wb1 (w.heap.size) 26 #[.slice A0 x.elems.length c0, .slice D0 x.limits.length d0, .int .i64 x.repeats, .int .i64 x.bonus, .int .i64 x.keeps, .int .i64 x.fall] := hwb1 ▸ Box.new w (w.heap.size) 26 #[.slice A0 x.elems.length c0, .slice D0 x.limits.length d0, .int .i64 x.repeats, .int .i64 x.bonus, .int .i64 x.keeps, .int .i64 x.fall] rfl
  have swb1 : wb1.heap.size = w.heap.size + 1 := by rw [hwb1]; simp
  clear hwb1
  have Kwb1 := K0.trans KB0
  obtain ⟨wb2, hwb2⟩ : ∃ w' : World, w' = wb1.alloc (.cells #[.slice A3 it.names.length c3, .slice D3 it.marks.length d3, .bool it.late] 30) := ⟨_, rfl⟩
  rw [← hwb2]
  have KB3 : Kept wb1 wb2 := hwb2 ▸ (Kept.refl wb1).alloc _
  have B3 : Box wb2 (w.heap.size + 1) 30 #[.slice A3 it.names.length c3, .slice D3 it.marks.length d3, .bool it.late] := hwb2 ▸ Box.new wb1 (w.heap.size + 1) 30 #[.slice A3 it.names.length c3, .slice D3 it.marks.length d3, .bool it.late] (by omega)
  have swb2 : wb2.heap.size = wb1.heap.size + 1 := by rw [hwb2]; simp
  clear hwb2
  replace B0 := B0.kept KB3
  have Kwb2 := Kwb1.trans KB3
  refine (pgGood_any _ _ x its _ (H0.out.kept Kwb2) (H1.out.kept Kwb2)).mono ?_
  rintro e w1 ⟨rfl, k1⟩
  replace B0 := B0.kept k1
  replace B3 := B3.kept k1
  have sz1 := k1.size
  have K1 := Kwb2.trans k1
  by_cases hq : goodB x its = true
  case neg =>
    simp only [Bool.not_eq_true] at hq
    rw [hq]
    have HO : Hid (inOk x its a it = false) := Lib.hid (by unfold inOk; rw [hq]; rfl)
    clear hq
    obtain ⟨x0, y0⟩ := B0.six
    obtain ⟨x3, y3⟩ := B3.three
    go_wp2_with fail
    clear x0 y0 x3 y3
    go_ret2
    exact ⟨_, _, ret_vb3 HO.out.symm, by unfold inV; rw [HO.out]; exact nilL _ _, K1⟩
  rw [hq]
  obtain ⟨hc, hi⟩ := goodB_parts hq
  have HQ := Lib.hid hq
  have hl14 := (itemsB_true hi).1
  have HAL := Lib.hid (all_of hi)
  have h0s := goodB_some hq
  clear hq hc hi
  obtain ⟨x0, y0⟩ := B0.six
  obtain ⟨x3, y3⟩ := B3.three
  go_wp2_with fail
  clear x0 y0 x3 y3
  refine (itGood_any _ it _ (H3.out.kept K1)).mono ?_
  rintro e w2 ⟨rfl, k2⟩
  replace B0 := B0.kept k2
  replace B3 := B3.kept k2
  have sz2 := k2.size
  have K2 := K1.trans k2
  by_cases ht : itemB it = true
  case neg =>
    simp only [Bool.not_eq_true] at ht
    rw [ht]
    have HO : Hid (inOk x its a it = false) := Lib.hid (by unfold inOk; rw [HQ.out, ht]; rfl)
    clear ht
    obtain ⟨x0, y0⟩ := B0.six
    obtain ⟨x3, y3⟩ := B3.three
    go_wp2_with fail
    clear x0 y0 x3 y3
    go_ret2
    exact ⟨_, _, ret_vb3 HO.out.symm, by unfold inV; rw [HO.out]; exact nilL _ _, K2⟩
  rw [ht]
  have HT := Lib.hid ht
  clear ht
  obtain ⟨x0, y0⟩ := B0.six
  obtain ⟨x3, y3⟩ := B3.three
  go_wp2_with fail
  clear x0 y0 x3 y3
  refine (l1In_any _ _ _ _).mono ?_
  rintro e w' ⟨rfl, rfl⟩
  by_cases hr : inB a 0 (its.length : Int) = true
  case neg =>
    simp only [Bool.not_eq_true] at hr
    rw [hr]
    have HO : Hid (inOk x its a it = false) := Lib.hid (by unfold inOk; rw [HQ.out, HT.out, hr]; rfl)
    clear hr
    obtain ⟨x0, y0⟩ := B0.six
    obtain ⟨x3, y3⟩ := B3.three
    go_wp2_with fail
    clear x0 y0 x3 y3
    go_ret2
    exact ⟨_, _, ret_vb3 HO.out.symm, by unfold inV; rw [HO.out]; exact nilL _ _, K2⟩
  rw [hr]
  obtain ⟨ha0, ha1⟩ := inB_true hr
  obtain ⟨k, rfl⟩ := Int.eq_ofNat_of_zero_le ha0
  have hk : k ≤ its.length := by omega
  have HDR : Hid (inOk x its (k : Int) it = ifB x (insertV its k it)) := Lib.hid (by unfold inOk; rw [HQ.out, HT.out, hr, Int.toNat_natCast]; rfl)
  clear hr ha0 ha1
  obtain ⟨x0, y0⟩ := B0.six
  obtain ⟨x3, y3⟩ := B3.three
  go_wp2_with fail
  clear x0 y0 x3 y3
  have B0w := B0
  have B3w := B3
  obtain ⟨ps, hps, hsrc, hgood⟩ := pairs_of (H1.out.kept K2)
  have hpl : ps.length = its.length := by rw [← hps, itsP_len]
  have HSRC := Lib.hid hsrc
  have HGOOD := Lib.hid hgood
  have HPS := Lib.hid hps
  have HPL := Lib.hid hpl
  have hk2 : k ≤ ps.length := by omega
  have hl2 : ps.length ≤ 1000 := by omega
  have h02 : 0 < ps.length := by omega
  clear hsrc hgood hps hpl
  have HWA := Lib.hid (insert_all (p := itemB) HAL.out HT.out k)
  have hwl := insert_len its k it
  obtain ⟨X, hX⟩ : ∃ X, insertV its k it = X := ⟨_, rfl⟩
  rw [hX] at HDR HWA hwl
  have HXX := Lib.hid hX
  clear hX
  have kD : Kept w2 w2.drew := (Kept.refl _).drew
  go_region_held3 (fun w' => (w'.cell? ⟨w.heap.size, 0, none⟩ = some (.slice A0 x.elems.length c0) ∧ w'.cell? ⟨w.heap.size, 1, none⟩ = some (.slice D0 x.limits.length d0) ∧ w'.cell? ⟨w.heap.size, 2, none⟩ = some (.int .i64 x.repeats) ∧ w'.cell? ⟨w.heap.size, 3, none⟩ = some (.int .i64 x.bonus) ∧ w'.cell? ⟨w.heap.size, 4, none⟩ = some (.int .i64 x.keeps) ∧ w'.cell? ⟨w.heap.size, 5, none⟩ = some (.int .i64 x.fall)) ∧ (w'.cell? ⟨w.heap.size + 1, 0, none⟩ = some (.slice A3 it.names.length c3) ∧ w'.cell? ⟨w.heap.size + 1, 1, none⟩ = some (.slice D3 it.marks.length d3) ∧ w'.cell? ⟨w.heap.size + 1, 2, none⟩ = some (.bool it.late))) (first | (with_reducible exact ⟨(B0w.kept kD).six.1, (B3w.kept kD).three.1⟩) | (with_reducible exact ⟨(B0w.kept (by assumption)).six.1, (B3w.kept (by assumption)).three.1⟩)) (first | (go_at_call 34; refine (pgInsert_any _ _ ps k it _ (HSRC.out.kept kD) (HGOOD.out.kept kD) (H3.out.kept (K2.trans kD)) h02 hk2 hl2).mono ?_; rintro e w8 ⟨v8, y, rfl, o8, hy2, hyg, k8⟩; have k8' := kD.trans k8; have r8 := items_of o8.src ((GoodP.insert (HGOOD.out.kept kD) hyg k).kept k8); rw [itsP_insert, HPS.out, hy2, HXX.out] at r8; have R8 := Lib.hid r8; clear r8 hy2 hyg) | (go_at_call 33; refine (pgIf_any _ _ x X _ (H0.out.kept (K2.trans k8')) R8.out HWA.out (by omega)).mono ?_; rintro e w9 ⟨v9, S9, rfl, o9, k9⟩; have kk9 := k8'.trans k9))
  rename_i hheld
  clear hheld
  all_goals
    go_wp2_with fail
    go_ret2
    refine ⟨_, S9, ret_vb3 HDR.out.symm, ?_, K2.trans kk9⟩
    have e9 : inV x its (k : Int) it = onT (ifB x X) (lated X) := by unfold inV; rw [HDR.out, Int.toNat_natCast, HXX.out]
    rw [e9]
    have hz1 := K2.size
    have hz2 := k8'.size
    exact o9.base (by omega)
set_option maxRecDepth 100000 in
set_option maxHeartbeats 8000000 in
theorem implInsertItem_any (v0 v1 v3 : Value) (x : CodeD) (its : List ItemD) (a : Int) (it : ItemD) (w : World) (h0 : CodeAt w v0 x) (h1 : ItemsAt w v1 its) (h3 : ItemAt w v3 it)  :
    Calls Tryz.prog 5 #[v0, v1, .int .i64 a, v3] w fun e w' => ∃ v' S, e = .returned (.tuple #[v', .bool (inOk x its a it)]) ∧ OwnL w' w.heap.size v' (inV x its a it) S ∧ Kept w w' := by
  have H0 := Lib.hid h0
  obtain ⟨n0, m0, rfl, p0, q0⟩ := h0
  have HE0 := Lib.hid p0; have HI0 := Lib.hid q0
  obtain ⟨A0, c0, rfl, hnc0, hcm0, _⟩ := p0.1.out; obtain ⟨D0, d0, rfl, hnd0, hdm0, _⟩ := q0.out; clear p0 q0; unfold maxLen at hcm0 hdm0
  have H1 := Lib.hid h1
  obtain ⟨A1, c1, cs1, rfl, hnc1, hcm1, hA1⟩ := h1.out; have HA1 := Lib.hid hA1; clear hA1 h1; unfold maxLen at hcm1
  have H3 := Lib.hid h3
  obtain ⟨n3, m3, rfl, p3, q3⟩ := h3
  have HN3 := Lib.hid p3; have HM3 := Lib.hid q3
  obtain ⟨A3, c3, rfl, hnc3, hcm3, _⟩ := p3.1.out; obtain ⟨D3, d3, rfl, hnd3, hdm3, _⟩ := q3.out; clear p3 q3; unfold maxLen at hcm3 hdm3
  go_enter Tryz.func5, Tryz.ntmps5
  have K0 := Kept.refl w
  go_wp2_with fail
  obtain ⟨wb1, hwb1⟩ : ∃ w' : World, w' = w.alloc (.cells #[.slice A0 x.elems.length c0, .slice D0 x.limits.length d0, .int .i64 x.repeats, .int .i64 x.bonus, .int .i64 x.keeps, .int .i64 x.fall] 26) := ⟨_, rfl⟩
  rw [← hwb1]
  have KB0 : Kept w wb1 := hwb1 ▸ (Kept.refl w).alloc _
  have B0 : Box wb1 (w.heap.size) 26 #[.slice A0 x.elems.length c0, .slice D0 x.limits.length d0, .int .i64 x.repeats, .int .i64 x.bonus, .int .i64 x.keeps, .int .i64 x.fall] := hwb1 ▸ Box.new w (w.heap.size) 26 #[.slice A0 x.elems.length c0, .slice D0 x.limits.length d0, .int .i64 x.repeats, .int .i64 x.bonus, .int .i64 x.keeps, .int .i64 x.fall] rfl
  have swb1 : wb1.heap.size = w.heap.size + 1 := by rw [hwb1]; simp
  clear hwb1
  have Kwb1 := K0.trans KB0
  obtain ⟨wb2, hwb2⟩ : ∃ w' : World, w' = wb1.alloc (.cells #[.slice A3 it.names.length c3, .slice D3 it.marks.length d3, .bool it.late] 30) := ⟨_, rfl⟩
  rw [← hwb2]
  have KB3 : Kept wb1 wb2 := hwb2 ▸ (Kept.refl wb1).alloc _
  have B3 : Box wb2 (w.heap.size + 1) 30 #[.slice A3 it.names.length c3, .slice D3 it.marks.length d3, .bool it.late] := hwb2 ▸ Box.new wb1 (w.heap.size + 1) 30 #[.slice A3 it.names.length c3, .slice D3 it.marks.length d3, .bool it.late] (by omega)
  have swb2 : wb2.heap.size = wb1.heap.size + 1 := by rw [hwb2]; simp
  clear hwb2
  replace B0 := B0.kept KB3
  have Kwb2 := Kwb1.trans KB3
  refine (isProgramme_any _ _ x its _ (H0.out.kept Kwb2) (H1.out.kept Kwb2)).mono ?_
  rintro e w1 ⟨rfl, k1⟩
  replace B0 := B0.kept k1
  replace B3 := B3.kept k1
  have sz1 := k1.size
  have K1 := Kwb2.trans k1
  by_cases hq : goodB x its = true
  case neg =>
    simp only [Bool.not_eq_true] at hq
    rw [hq]
    have HO : Hid (inOk x its a it = false) := Lib.hid (by unfold inOk; rw [hq]; rfl)
    clear hq
    obtain ⟨x0, y0⟩ := B0.six
    obtain ⟨x3, y3⟩ := B3.three
    go_wp2_with fail
    clear x0 y0 x3 y3
    go_ret2
    exact ⟨_, _, ret_vb3 HO.out.symm, by unfold inV; rw [HO.out]; exact nilL _ _, K1⟩
  rw [hq]
  obtain ⟨hc, hi⟩ := goodB_parts hq
  have HQ := Lib.hid hq
  have hl14 := (itemsB_true hi).1
  have HAL := Lib.hid (all_of hi)
  have h0s := goodB_some hq
  clear hq hc hi
  obtain ⟨x0, y0⟩ := B0.six
  obtain ⟨x3, y3⟩ := B3.three
  go_wp2_with fail
  clear x0 y0 x3 y3
  refine (isItem_any _ it _ (H3.out.kept K1)).mono ?_
  rintro e w2 ⟨rfl, k2⟩
  replace B0 := B0.kept k2
  replace B3 := B3.kept k2
  have sz2 := k2.size
  have K2 := K1.trans k2
  by_cases ht : itemB it = true
  case neg =>
    simp only [Bool.not_eq_true] at ht
    rw [ht]
    have HO : Hid (inOk x its a it = false) := Lib.hid (by unfold inOk; rw [HQ.out, ht]; rfl)
    clear ht
    obtain ⟨x0, y0⟩ := B0.six
    obtain ⟨x3, y3⟩ := B3.three
    go_wp2_with fail
    clear x0 y0 x3 y3
    go_ret2
    exact ⟨_, _, ret_vb3 HO.out.symm, by unfold inV; rw [HO.out]; exact nilL _ _, K2⟩
  rw [ht]
  have HT := Lib.hid ht
  clear ht
  obtain ⟨x0, y0⟩ := B0.six
  obtain ⟨x3, y3⟩ := B3.three
  go_wp2_with fail
  clear x0 y0 x3 y3
  refine (within_any _ _ _ _).mono ?_
  rintro e w' ⟨rfl, rfl⟩
  by_cases hr : inB a 0 (its.length : Int) = true
  case neg =>
    simp only [Bool.not_eq_true] at hr
    rw [hr]
    have HO : Hid (inOk x its a it = false) := Lib.hid (by unfold inOk; rw [HQ.out, HT.out, hr]; rfl)
    clear hr
    obtain ⟨x0, y0⟩ := B0.six
    obtain ⟨x3, y3⟩ := B3.three
    go_wp2_with fail
    clear x0 y0 x3 y3
    go_ret2
    exact ⟨_, _, ret_vb3 HO.out.symm, by unfold inV; rw [HO.out]; exact nilL _ _, K2⟩
  rw [hr]
  obtain ⟨ha0, ha1⟩ := inB_true hr
  obtain ⟨k, rfl⟩ := Int.eq_ofNat_of_zero_le ha0
  have hk : k ≤ its.length := by omega
  have HDR : Hid (inOk x its (k : Int) it = ifB x (insertV its k it)) := Lib.hid (by unfold inOk; rw [HQ.out, HT.out, hr, Int.toNat_natCast]; rfl)
  clear hr ha0 ha1
  obtain ⟨x0, y0⟩ := B0.six
  obtain ⟨x3, y3⟩ := B3.three
  go_wp2_with fail
  clear x0 y0 x3 y3
  have B0w := B0
  have B3w := B3
  obtain ⟨ps, hps, hsrc, hgood⟩ := pairs_of (H1.out.kept K2)
  have hpl : ps.length = its.length := by rw [← hps, itsP_len]
  have HSRC := Lib.hid hsrc
  have HGOOD := Lib.hid hgood
  have HPS := Lib.hid hps
  have HPL := Lib.hid hpl
  have hk2 : k ≤ ps.length := by omega
  have hl2 : ps.length ≤ 1000 := by omega
  have h02 : 0 < ps.length := by omega
  clear hsrc hgood hps hpl
  have HWA := Lib.hid (insert_all (p := itemB) HAL.out HT.out k)
  have hwl := insert_len its k it
  obtain ⟨X, hX⟩ : ∃ X, insertV its k it = X := ⟨_, rfl⟩
  rw [hX] at HDR HWA hwl
  have HXX := Lib.hid hX
  clear hX
  have kD : Kept w2 w2.drew := (Kept.refl _).drew
  obtain ⟨y, hy⟩ : ∃ y : Pr, y = ((.slice A3 it.names.length c3, .slice D3 it.marks.length d3), it) := ⟨_, rfl⟩
  have H3p := H3.out.parts
  have HYG : Hid (Strs w y.1.1 y.2.names ∧ Ints w y.1.2 y.2.marks) := Lib.hid (by subst hy; exact H3p)
  have HY2 : Hid (y.2 = it) := Lib.hid (by subst hy; rfl)
  have HYB : Hid (∀ (W : World) (g : Nat), Box W g 30 #[.slice A3 it.names.length c3, .slice D3 it.marks.length d3, .bool it.late] → Box W g 30 #[y.1.1, y.1.2, .bool y.2.late]) := Lib.hid (fun W g hb => by subst hy; exact hb)
  clear hy H3p
  have HIN : Hid (itsP (insertV ps k y) = X) := Lib.hid (by rw [itsP_insert, HPS.out, HY2.out, HXX.out])
  have kA : Kept w2 (w2.alloc (.cells #[] 30)).drew := ((Kept.refl _).alloc _).drew
  have kB : Kept w2 ((w2.alloc (.cells #[] 30)).alloc (.cells #[.slice A3 it.names.length c3, .slice D3 it.marks.length d3, .bool it.late] 30)).drew := (((Kept.refl _).alloc _).alloc _).drew
  have kC : Kept w2 ((w2.alloc (.cells #[.slice A3 it.names.length c3, .slice D3 it.marks.length d3, .bool it.late] 30)).alloc (.cells #[] 30)).drew := (((Kept.refl _).alloc _).alloc _).drew
  have kE : Kept w2 (w2.alloc (.cells #[.slice A3 it.names.length c3, .slice D3 it.marks.length d3, .bool it.late] 30)).drew := ((Kept.refl _).alloc _).drew
  have bA : Box (w2.alloc (.cells #[] 30)).drew w2.heap.size 30 #[] := Box.new w2 _ _ _ rfl
  have bB : Box ((w2.alloc (.cells #[] 30)).alloc (.cells #[.slice A3 it.names.length c3, .slice D3 it.marks.length d3, .bool it.late] 30)).drew w2.heap.size 30 #[] := (Box.new w2 w2.heap.size _ _ rfl).alloc _
  have bC : Box ((w2.alloc (.cells #[.slice A3 it.names.length c3, .slice D3 it.marks.length d3, .bool it.late] 30)).alloc (.cells #[] 30)).drew (w2.heap.size + 1) 30 #[] := Box.new (w2.alloc (.cells #[.slice A3 it.names.length c3, .slice D3 it.marks.length d3, .bool it.late] 30)) _ _ _ (by simp)
  have vB : Box ((w2.alloc (.cells #[] 30)).alloc (.cells #[.slice A3 it.names.length c3, .slice D3 it.marks.length d3, .bool it.late] 30)).drew (w2.heap.size + 1) 30 #[.slice A3 it.names.length c3, .slice D3 it.marks.length d3, .bool it.late] := Box.new (w2.alloc (.cells #[] 30)) _ _ _ (by simp)
  have vC : Box ((w2.alloc (.cells #[.slice A3 it.names.length c3, .slice D3 it.marks.length d3, .bool it.late] 30)).alloc (.cells #[] 30)).drew w2.heap.size 30 #[.slice A3 it.names.length c3, .slice D3 it.marks.length d3, .bool it.late] := (Box.new w2 w2.heap.size _ _ rfl).alloc _
  go_region_held3 (fun w' => (w'.cell? ⟨w.heap.size, 0, none⟩ = some (.slice A0 x.elems.length c0) ∧ w'.cell? ⟨w.heap.size, 1, none⟩ = some (.slice D0 x.limits.length d0) ∧ w'.cell? ⟨w.heap.size, 2, none⟩ = some (.int .i64 x.repeats) ∧ w'.cell? ⟨w.heap.size, 3, none⟩ = some (.int .i64 x.bonus) ∧ w'.cell? ⟨w.heap.size, 4, none⟩ = some (.int .i64 x.keeps) ∧ w'.cell? ⟨w.heap.size, 5, none⟩ = some (.int .i64 x.fall)) ∧ (w'.cell? ⟨w.heap.size + 1, 0, none⟩ = some (.slice A3 it.names.length c3) ∧ w'.cell? ⟨w.heap.size + 1, 1, none⟩ = some (.slice D3 it.marks.length d3) ∧ w'.cell? ⟨w.heap.size + 1, 2, none⟩ = some (.bool it.late))) (first | (with_reducible exact ⟨(B0w.kept kD).six.1, (B3w.kept kD).three.1⟩) | (with_reducible exact ⟨(B0w.kept kA).six.1, (B3w.kept kA).three.1⟩) | (with_reducible exact ⟨(B0w.kept kB).six.1, (B3w.kept kB).three.1⟩) | (with_reducible exact ⟨(B0w.kept kC).six.1, (B3w.kept kC).three.1⟩) | (with_reducible exact ⟨(B0w.kept kE).six.1, (B3w.kept kE).three.1⟩) | (with_reducible exact ⟨(B0w.kept (by assumption)).six.1, (B3w.kept (by assumption)).three.1⟩) | (with_reducible exact ⟨(B0w.kept (Kept.alloc (by assumption) _)).six.1, (B3w.kept (Kept.alloc (by assumption) _)).three.1⟩)) (first | (refine step_append_P2 w2 _ rfl (.tmp 27) (.tmp 28) rfl (.slice (some ⟨w2.heap.size, 0, none⟩) 0 0) [] rfl (RowP.nil0 _ _ (by first | exact Nat.le_refl _ | omega) bA) kA _ ps rfl (HSRC.out.kept kA) (HGOOD.out.kept kA) (by simp; omega) ?_; intro v1 w1 o1 k1 on1 lo1; rw [List.nil_append] at o1) | (refine step_append_P2 w2 _ rfl (.tmp 27) (.tmp 28) rfl (.slice (some ⟨w2.heap.size, 0, none⟩) 0 0) [] rfl (RowP.nil0 _ _ (by first | exact Nat.le_refl _ | omega) bB) kB _ ps rfl (HSRC.out.kept kB) (HGOOD.out.kept kB) (by simp; omega) ?_; intro v1 w1 o1 k1 on1 lo1; rw [List.nil_append] at o1; have vb1 := HYB.out _ _ (vB.only on1 (by simp [fp_some])); have nb1 : ∀ b ∈ fp v1, w2.heap.size + 1 ≠ b := (fun b hb => by have := lo1 b hb; simp [fp_some] at this; omega)) | (refine step_append_P2 w2 _ rfl (.tmp 27) (.tmp 28) rfl (.slice (some ⟨w2.heap.size + 1, 0, none⟩) 0 0) [] rfl (RowP.nil0 _ _ (by first | exact Nat.le_refl _ | omega) bC) kC _ ps rfl (HSRC.out.kept kC) (HGOOD.out.kept kC) (by simp; omega) ?_; intro v1 w1 o1 k1 on1 lo1; rw [List.nil_append] at o1; have vb1 := HYB.out _ _ (vC.only on1 (by simp [fp_some])); have nb1 : ∀ b ∈ fp v1, w2.heap.size ≠ b := (fun b hb => by have := lo1 b hb; simp [fp_some] at this; omega)) | (go_at_call 28; refine (asProgramme_any _ _ x X _ (H0.out.kept (K2.trans k2)) R2.out HWA.out (by omega)).mono ?_; rintro e w9 ⟨v9, S9, rfl, o9, k9⟩; have k8' := k2; have kk9 := k2.trans k9) | (go_at_call 29; have z1 := k1.size; (with_reducible refine (insP_any v1 ps y k _ _ _ o1 (HGOOD.out.kept k1) ⟨HYG.out.1.kept (K2.trans k1), HYG.out.2.kept (K2.trans k1)⟩ h02 hk2 (by omega) z1 vb1 nb1).mono ?_); rintro e w2 ⟨v2, rfl, o2, on2⟩; have k2 := on2.above k1 (fun b hb => (own_fp o1 b hb).1); have r2 : ItemsAt w2 v2 (itsP (insertV ps k y)) := items_of o2.src ((GoodP.insert HGOOD.out ⟨HYG.out.1.kept K2, HYG.out.2.kept K2⟩ k).kept k2); rw [HIN.out] at r2; have R2 := Lib.hid r2; clear r2) | (go_at_call 29; have z1 := k1.size; have q1 : ∀ b ∈ fp v1, w2.heap.size ≤ b ∧ b < w1.heap.size := own_fp o1; (with_reducible refine (insP_any v1 ps y k _ _ _ (o1.kept ((Kept.refl w1).alloc (.cells #[.slice A3 it.names.length c3, .slice D3 it.marks.length d3, .bool it.late] 30))) (HGOOD.out.kept (k1.alloc (.cells #[.slice A3 it.names.length c3, .slice D3 it.marks.length d3, .bool it.late] 30))) ⟨HYG.out.1.kept (K2.trans (k1.alloc (.cells #[.slice A3 it.names.length c3, .slice D3 it.marks.length d3, .bool it.late] 30))), HYG.out.2.kept (K2.trans (k1.alloc (.cells #[.slice A3 it.names.length c3, .slice D3 it.marks.length d3, .bool it.late] 30)))⟩ h02 hk2 (by omega) (by simp; omega) (HYB.out _ _ (Box.new w1 _ _ _ rfl)) (fun b hb => by have := q1 b hb; omega)).mono ?_); rintro e w2 ⟨v2, rfl, o2, on2⟩; have k2 := on2.above (k1.alloc (.cells #[.slice A3 it.names.length c3, .slice D3 it.marks.length d3, .bool it.late] 30)) (fun b hb => (own_fp o1 b hb).1); have r2 : ItemsAt w2 v2 (itsP (insertV ps k y)) := items_of o2.src ((GoodP.insert HGOOD.out ⟨HYG.out.1.kept K2, HYG.out.2.kept K2⟩ k).kept k2); rw [HIN.out] at r2; have R2 := Lib.hid r2; clear r2))
  all_goals
    rename_i hheld
    clear hheld
  all_goals
    go_wp2_with fail
    go_ret2
    refine ⟨_, S9, ret_vb3 HDR.out.symm, ?_, K2.trans kk9⟩
    have e9 : inV x its (k : Int) it = onT (ifB x X) (lated X) := by unfold inV; rw [HDR.out, Int.toNat_natCast, HXX.out]
    rw [e9]
    have hz1 := K2.size
    have hz2 := k8'.size
    exact o9.base (by omega)
end Go.Proofs.YtkekpolfdmmgeaaGreat

/- Programmes: MoveItem. -/
namespace Go.Proofs.YtkekpolfdmmgeaaGreat
set_option linter.unusedVariables false
set_option linter.unusedSimpArgs false
open Go.RowKit

def mvOk (x : CodeD) (its : List ItemD) (a b : Int) : Bool := goodB x its && (inB a 0 ((its.length : Int) - 1) && (inB b 0 ((its.length : Int) - 1) && (match its[a.toNat]? with | some it => ifB x (insertV (withoutV its a.toNat) b.toNat it) | none => false)))
def mvL (its : List ItemD) (a b : Int) : List ItemD := match its[a.toNat]? with | some it => insertV (withoutV its a.toNat) b.toNat it | none => []
def mvV (x : CodeD) (its : List ItemD) (a b : Int) : List ItemD := onT (mvOk x its a b) (lated (mvL its a b))
theorem mvOk_at {x : CodeD} {its : List ItemD} {k m : Nat} {it : ItemD} (hg : goodB x its = true) (h1 : inB (k : Int) 0 ((its.length : Int) - 1) = true) (h2 : inB (m : Int) 0 ((its.length : Int) - 1) = true) (h : its[k]? = some it) : mvOk x its k m = ifB x (insertV (withoutV its k) m it) := by
  unfold mvOk
  rw [hg, h1, h2, Int.toNat_natCast, Int.toNat_natCast, h]
  rfl
theorem mvL_at {its : List ItemD} {k m : Nat} {it : ItemD} (h : its[k]? = some it) : mvL its k m = insertV (withoutV its k) m it := by
  unfold mvL
  rw [Int.toNat_natCast, Int.toNat_natCast, h]
theorem without_length {α : Type} {l : List α} {k : Nat} (h : k < l.length) : (withoutV l k).length = l.length - 1 := by
  unfold withoutV
  rw [List.length_append, List.length_take, List.length_drop]
  omega
theorem mvV_size (x : CodeD) (its : List ItemD) (a b : Int) : itemsSize (mvV x its a b) ≤ 330 := by
  refine onT_size (fun h => ?_)
  unfold mvOk at h
  simp only [Bool.and_eq_true] at h
  have hi := (goodB_parts h.1).2
  have h2 := (itemsB_true hi).1
  unfold mvL
  cases hq : its[a.toNat]? with
  | none =>
    have e0 : itemsSize (lated []) = 0 := rfl
    simp only
    omega
  | some it =>
    have hlt := (List.getElem?_eq_some_iff.1 hq).1
    have h3 := without_length hlt
    have h4 := insert_len (withoutV its a.toNat) b.toNat it
    have hl := (itemsB_true hi).1
    exact lated_small (insert_all (without_all (all_of hi) _) (List.all_eq_true.1 (all_of hi) it (List.mem_of_getElem? hq)) _) (Nat.le_trans h4 (by omega))
theorem delP_form (v : Value) (ps : List Pr) (i : Nat) (w : World) (base : Nat) (h : RowP w base v ps) (hg : GoodP w ps) (hi : i < ps.length) :
    Calls Tryz.prog 35 #[v, .int .i64 i, .int .i64 ((i : Int) + 1)] w fun e w' => ∃ g c, e = .returned (.slice (some ⟨g, 0, none⟩) (withoutV ps i).length c) ∧ RowP w' base (.slice (some ⟨g, 0, none⟩) (withoutV ps i).length c) (withoutV ps i) ∧ Only (fp v) w w' := by
  obtain ⟨A, c, rfl, _, _, hA⟩ := own_form h
  obtain ⟨g, rfl⟩ := hA (by omega)
  refine (delRowT _ ps.length i c g w base h hi hg.one).mono ?_
  rintro e w' ⟨rfl, h2, h3⟩
  rw [without_length hi]
  refine ⟨g, c, rfl, ?_, h3⟩
  rw [flat_takeP, flat_dropP, ← List.flatMap_append] at h2
  unfold RowP
  rw [without_length hi]
  exact h2
theorem insP_form (g c : Nat) (ps : List Pr) (y : Pr) (i vb : Nat) (w : World) (base : Nat) (h : RowP w base (.slice (some ⟨g, 0, none⟩) ps.length c) ps) (hg : GoodP w ps) (hy : Strs w y.1.1 y.2.names ∧ Ints w y.1.2 y.2.marks) (hi : i ≤ ps.length) (hn : ps.length ≤ 1000000) (hbase : base ≤ w.heap.size)
    (hV : Box w vb 30 #[y.1.1, y.1.2, .bool y.2.late]) (hne : vb ≠ g) :
    Calls Tryz.prog 29 #[.slice (some ⟨g, 0, none⟩) ps.length c, .int .i64 i, .slice (some ⟨vb, 0, none⟩) 1 1] w fun e w' => ∃ v', e = .returned v' ∧ RowP w' base v' (insertV ps i y) ∧ Only [g] w w' := by
  rcases Nat.eq_zero_or_pos ps.length with h0 | h0
  · obtain rfl : ps = [] := List.eq_nil_of_length_eq_zero h0
    obtain rfl : i = 0 := by simpa using hi
    have h1y : ∀ u ∈ row3 y, u.oneCell' = true := by
      intro u hu
      exact (goodP_one hy).one u (by simpa using hu)
    refine (insEndT [] (row3 y) 0 c g vb w base h hbase (by omega) hV rfl h1y).mono ?_
    rintro e w' ⟨v', rfl, h2, h3⟩
    exact ⟨v', rfl, h2, only_of_grown (v := .slice (some ⟨g, 0, none⟩) 0 c) h3⟩
  · refine (insP_any _ ps y i vb w base h hg hy h0 hi hn hbase hV (fun b hb => by rw [fp_some, List.mem_singleton] at hb; subst hb; exact hne)).mono ?_
    rintro e w' ⟨v', rfl, h2, h3⟩
    exact ⟨v', rfl, h2, h3⟩
set_option maxRecDepth 100000 in
theorem step_append_P3 (a0 w : World) {ops : Array Oper} {o : Oper} {a : Act} {K : Act → World → Prop} {Q : Exit → Act → World → Prop} {E : Prop} (hgd : o.guard = none) (s x : Operand)
    (ho : o.op = .call { callee := .builtin .append, args := #[s, x], argTypes := #[27, 27] })
    (v : Value) (ps : List Pr) (hs : a.eval s = v) (hown : RowP w a0.heap.size v ps) (hk : Kept a0 w) (u : Value) (qs : List Pr) (hx : a.eval x = u) (hr : SrcP w u qs) (hg : GoodP w qs)
    (hl : ps.length + qs.length ≤ 1000000)
    (h : ∀ v' w', RowP w' a0.heap.size v' (ps ++ qs) → Kept a0 w' → (v.ownBlock ≠ none → v'.ownBlock ≠ none) → K (a.put o.dst v') w') :
    if Region.wanted o (yielded ops a.tmps) = true then Oper.wp Tryz.prog o a w K Q else E := by
  have hw : Region.wanted o (yielded ops a.tmps) = true := by simp [Region.wanted, hgd]
  rw [if_pos hw]
  obtain ⟨i0, hi, hz0, hz1, hz2⟩ := info_parts info_item
  obtain ⟨v', w', hrun, h2, h3, h4⟩ := run_append_locT (P := Tryz.prog) w a0.heap.size 27 o.type 30 i0 _ 3 56 Tryz.underlying27 hi hz0 hz1 hz2 rfl (by omega) v ps.length _ hown u qs.length (qs.flatMap row3) hr (flat_length row3 3 (fun _ => rfl) qs) hg.one (by unfold maxLen; omega) (by omega) hk.size
  have hon := only_of_grown h3
  unfold Oper.wp execOp
  simp only [ho, resolve, invoke, builtin, Sem.run_bind, Sem.run_pure, Result.andThen_ok, List.map_toArray, List.map_cons, List.map_nil, hs, hx, hrun]
  refine h v' w' ?_ (hon.above hk (fun b hb => (own_fp hown b hb).1)) (fun hv => ?_)
  · unfold RowP
    rw [List.length_append, List.flatMap_append]
    exact h2
  · rcases h4 with h4 | h4
    · rw [h4]; exact hv
    · rw [h4]; simp
set_option maxRecDepth 100000 in
set_option maxHeartbeats 4000000 in
theorem pgWithout_form (v : Value) (ps : List Pr) (k : Nat) (w : World) (h : SrcP w v ps) (hg : GoodP w ps) (hk : k < ps.length) (hl : ps.length ≤ 1000) :
    Calls Tryz.prog 36 #[v, .int .i64 (k : Int)] w fun e w' => ∃ g c, e = .returned (.slice (some ⟨g, 0, none⟩) (withoutV ps k).length c) ∧ RowP w' w.heap.size (.slice (some ⟨g, 0, none⟩) (withoutV ps k).length c) (withoutV ps k) ∧ Kept w w' := by
  have H := Lib.hid h
  have HG := Lib.hid hg
  obtain ⟨A, c, rfl, hnc, hcm, hA⟩ := h.out
  obtain ⟨b, o, rfl, hb, _⟩ := hA (by omega)
  have HTO := Lib.hid (srcP_to H.out rfl (i := k) (by omega))
  have h1 : (k : Int) ≤ (c : Int) := by omega
  have h2 : (0 : Int) ≤ (k : Int) + 1 := by omega
  have h3 : (k : Int) + 1 ≤ (ps.length : Int) := by omega
  have h4 : ((k : Int) + 1).toNat = k + 1 := by omega
  have h5 : (ps.length : Int) ≤ (c : Int) := by omega
  have h6 : k ≤ c := by omega
  have h7 : k + 1 ≤ c := by omega
  have h8 : k + 1 ≤ ps.length := by omega
  have hw1 : IntKind.i64.wrap ((k : Int) + 1) = (k : Int) + 1 := IntWalk.i64_in _ (by omega)
  have hlt : (ps.take k).length + (ps.drop (k + 1)).length ≤ 1000000 := by rw [List.length_take, List.length_drop]; omega
  have HLT := Lib.hid hlt
  have htl : (ps.take k).length ≤ 1000 := by rw [List.length_take]; omega
  clear h hg hA hlt
  unfold maxLen at hcm
  by_cases hcap : c = k + 1
  · subst hcap
    have HFR : Hid (SrcP w (.slice (some ⟨b, o, none⟩) 0 0) (ps.drop (k + 1))) := Lib.hid (srcP_none (by omega))
    have h9 : ps.length = k + 1 := by omega
    have H9 := Lib.hid h9
    clear h9
    have b1 : (k : Int) ≤ (k : Int) + 1 := by omega
    have b2 : ¬ ((k : Int) + 1 < (k : Int)) := by omega
    have b3 : (0 : Int) ≤ (k : Int) := by omega
    go_enter Tryz.func36, Tryz.ntmps36
    go_wp2_with fail
    go_region_held3 (fun _ => True) (trivial) (first | (refine step_append_P3 w _ rfl (.tmp 5) (.tmp 8) rfl (.slice (some ⟨w.heap.size, 0, none⟩) 0 0) [] rfl (RowP.nil0 _ _ (Nat.le_refl _) (Box.new w _ _ _ rfl)) ((Kept.refl w).alloc _).drew _ (ps.take k) rfl (HTO.out.kept ((Kept.refl w).alloc _).drew) ((HG.out.take k).kept ((Kept.refl w).alloc _).drew) (by simp; omega) ?_; intro v1 w1 o1 k1 n1) | (refine step_append_P3 w _ rfl (.tmp 9) (.tmp 13) rfl _ (ps.take k) rfl o1 k1 _ (ps.drop (k + 1)) (by first | rfl | (simp [Act.eval, Act.put, H9.out])) (HFR.out.kept k1) ((HG.out.drop (k + 1)).kept k1) HLT.out ?_; intro v2 w2 o2 k2 n2; have N2 : v2.ownBlock ≠ none := n2 (n1 (by simp [Value.ownBlock])); obtain ⟨g9, c9, e9⟩ := RowP.some o2 N2; have O2 := Lib.hid (e9 ▸ o2); have E9 := Lib.hid e9; clear o2 e9 N2))
    all_goals
      go_wp2_with fail
      go_ret
      exact ⟨g9, c9, by rw [E9.out]; rfl, O2.out, k2⟩
  · have HFR := Lib.hid (srcP_from H.out rfl (k := k + 1) (by omega))
    have hc2 : ¬ c = k + 1 := hcap
    have hc3 : (c == k + 1) = false := beq_eq_false_iff_ne.2 hcap
    go_enter Tryz.func36, Tryz.ntmps36
    go_wp2_with fail
    go_region_held3 (fun _ => True) (trivial) (first | (refine step_append_P3 w _ rfl (.tmp 5) (.tmp 8) rfl (.slice (some ⟨w.heap.size, 0, none⟩) 0 0) [] rfl (RowP.nil0 _ _ (Nat.le_refl _) (Box.new w _ _ _ rfl)) ((Kept.refl w).alloc _).drew _ (ps.take k) rfl (HTO.out.kept ((Kept.refl w).alloc _).drew) ((HG.out.take k).kept ((Kept.refl w).alloc _).drew) (by simp; omega) ?_; intro v1 w1 o1 k1 n1) | (refine step_append_P3 w _ rfl (.tmp 9) (.tmp 13) rfl _ (ps.take k) rfl o1 k1 _ (ps.drop (k + 1)) rfl (HFR.out.kept k1) ((HG.out.drop (k + 1)).kept k1) HLT.out ?_; intro v2 w2 o2 k2 n2; have N2 : v2.ownBlock ≠ none := n2 (n1 (by simp [Value.ownBlock])); obtain ⟨g9, c9, e9⟩ := RowP.some o2 N2; have O2 := Lib.hid (e9 ▸ o2); have E9 := Lib.hid e9; clear o2 e9 N2))
    all_goals
      go_wp2_with fail
      go_ret
      exact ⟨g9, c9, by rw [E9.out]; rfl, O2.out, k2⟩
set_option maxRecDepth 100000 in
set_option maxHeartbeats 8000000 in
theorem specMoveItem_any (v0 v1 : Value) (x : CodeD) (its : List ItemD) (a : Int) (z : Int) (w : World) (h0 : CodeAt w v0 x) (h1 : ItemsAt w v1 its)  :
    Calls Tryz.prog 9 #[v0, v1, .int .i64 a, .int .i64 z] w fun e w' => ∃ v' S, e = .returned (.tuple #[v', .bool (mvOk x its a z)]) ∧ OwnL w' w.heap.size v' (mvV x its a z) S ∧ Kept w w' := by
  have H0 := Lib.hid h0
  obtain ⟨n0, m0, rfl, p0, q0⟩ := h0
  have HE0 := Lib.hid p0; have HI0 := Lib.hid q0
  obtain ⟨A0, c0, rfl, hnc0, hcm0, _⟩ := p0.1.out; obtain ⟨D0, d0, rfl, hnd0, hdm0, _⟩ := q0.out; clear p0 q0; unfold maxLen at hcm0 hdm0
  have H1 := Lib.hid h1
  obtain ⟨A1, c1, cs1, rfl, hnc1, hcm1, hA1⟩ := h1.out; have HA1 := Lib.hid hA1; clear hA1 h1; unfold maxLen at hcm1
  go_enter Tryz.func9, Tryz.ntmps9
  have K0 := Kept.refl w
  go_wp2_with fail
  obtain ⟨wb1, hwb1⟩ : ∃ w' : World, w' = w.alloc (.cells #[.slice A0 x.elems.length c0, .slice D0 x.limits.length d0, .int .i64 x.repeats, .int .i64 x.bonus, .int .i64 x.keeps, .int .i64 x.fall] 26) := ⟨_, rfl⟩
  rw [← hwb1]
  have KB0 : Kept w wb1 := hwb1 ▸ (Kept.refl w).alloc _
  have B0 : Box wb1 (w.heap.size) 26 #[.slice A0 x.elems.length c0, .slice D0 x.limits.length d0, .int .i64 x.repeats, .int .i64 x.bonus, .int .i64 x.keeps, .int .i64 x.fall] := hwb1 ▸ Box.new w (w.heap.size) 26 #[.slice A0 x.elems.length c0, .slice D0 x.limits.length d0, .int .i64 x.repeats, .int .i64 x.bonus, .int .i64 x.keeps, .int .i64 x.fall] rfl
  have swb1 : wb1.heap.size = w.heap.size + 1 := by rw [hwb1]; simp
  clear hwb1
  have Kwb1 := K0.trans KB0
  refine (pgGood_any _ _ x its _ (H0.out.kept Kwb1) (H1.out.kept Kwb1)).mono ?_
  rintro e w1 ⟨rfl, k1⟩
  replace B0 := B0.kept k1
  have sz1 := k1.size
  have K1 := Kwb1.trans k1
  by_cases hq : goodB x its = true
  case neg =>
    simp only [Bool.not_eq_true] at hq
    rw [hq]
    have HO : Hid (mvOk x its a z = false) := Lib.hid (by unfold mvOk; rw [hq]; rfl)
    clear hq
    obtain ⟨x0, y0⟩ := B0.six
    go_wp2_with fail
    clear x0 y0
    go_ret2
    exact ⟨_, _, ret_vb3 HO.out.symm, by unfold mvV; rw [HO.out]; exact nilL _ _, K1⟩
  rw [hq]
  obtain ⟨hc, hi⟩ := goodB_parts hq
  have HQ := Lib.hid hq
  have hl14 := (itemsB_true hi).1
  have HAL := Lib.hid (all_of hi)
  clear hq hc hi
  obtain ⟨x0, y0⟩ := B0.six
  go_wp2_with fail
  clear x0 y0
  refine (l1In_any _ _ _ _).mono ?_
  rintro e w' ⟨rfl, rfl⟩
  by_cases hr : inB a 0 ((its.length : Int) - 1) = true
  case neg =>
    simp only [Bool.not_eq_true] at hr
    rw [hr]
    have HO : Hid (mvOk x its a z = false) := Lib.hid (by unfold mvOk; rw [HQ.out, hr]; rfl)
    clear hr
    obtain ⟨x0, y0⟩ := B0.six
    go_wp2_with fail
    clear x0 y0
    go_ret2
    exact ⟨_, _, ret_vb3 HO.out.symm, by unfold mvV; rw [HO.out]; exact nilL _ _, K1⟩
  rw [hr]
  have HR := Lib.hid hr
  have ha01 := inB_true hr
  clear hr
  obtain ⟨x0, y0⟩ := B0.six
  go_wp2_with fail
  clear x0 y0
  refine (l1In_any _ _ _ _).mono ?_
  rintro e w' ⟨rfl, rfl⟩
  by_cases hr2 : inB z 0 ((its.length : Int) - 1) = true
  case neg =>
    simp only [Bool.not_eq_true] at hr2
    rw [hr2]
    have HO : Hid (mvOk x its a z = false) := Lib.hid (by unfold mvOk; rw [HQ.out, HR.out, hr2]; rfl)
    clear hr2
    obtain ⟨x0, y0⟩ := B0.six
    go_wp2_with fail
    clear x0 y0
    go_ret2
    exact ⟨_, _, ret_vb3 HO.out.symm, by unfold mvV; rw [HO.out]; exact nilL _ _, K1⟩
  rw [hr2]
  have HR2 := Lib.hid hr2
  have hz01 := inB_true hr2
  clear hr2
  obtain ⟨ha0, ha1⟩ := ha01
  obtain ⟨hz0, hz1⟩ := hz01
  obtain ⟨k, rfl⟩ := Int.eq_ofNat_of_zero_le ha0
  obtain ⟨m, rfl⟩ := Int.eq_ofNat_of_zero_le hz0
  have hk : k < its.length := by omega
  have hm : m < its.length := by omega
  have hkI : (k : Int) < (its.length : Int) := by omega
  obtain ⟨b, o, Aa, ca, Ab, cb, it, rfl, hbb, h2, h3, hit, q0, q1, q2⟩ := items_at (HA1.out.kept K1) hk
  have HDR : Hid (mvOk x its (k : Int) (m : Int) = ifB x (insertV (withoutV its k) m it)) := Lib.hid (mvOk_at HQ.out HR.out HR2.out h2)
  have HML : Hid (mvL its (k : Int) (m : Int) = insertV (withoutV its k) m it) := Lib.hid (mvL_at h2)
  have HT : Hid (itemB it = true) := Lib.hid (List.all_eq_true.1 HAL.out it (List.mem_of_getElem? h2))
  have HIT := Lib.hid hit
  clear h2 h3 hit ha0 ha1 hz0 hz1
  have HC3 : Hid (∀ w' : World, Kept w1 w' → (w'.cell? ⟨b, o + k * 3, none⟩ = some (.slice Aa it.names.length ca) ∧ w'.cell? ⟨b, o + k * 3 + 1, none⟩ = some (.slice Ab it.marks.length cb) ∧ w'.cell? ⟨b, o + k * 3 + 2, none⟩ = some (.bool it.late))) := Lib.hid (fun w' hk => ⟨(hk.cell (p := ⟨b, o + k * 3, none⟩) hbb).trans q0, (hk.cell (p := ⟨b, o + k * 3 + 1, none⟩) hbb).trans q1, (hk.cell (p := ⟨b, o + k * 3 + 2, none⟩) hbb).trans q2⟩)
  clear q0 q1 q2
  obtain ⟨ps, hps, hsrc, hgood⟩ := pairs_of (H1.out.kept K1)
  have hpl : ps.length = its.length := by rw [← hps, itsP_len]
  have HSRC := Lib.hid hsrc
  have HGOOD := Lib.hid hgood
  have HPS := Lib.hid hps
  have HPL := Lib.hid hpl
  have hk2 : k < ps.length := by omega
  have hl2 : ps.length ≤ 1000 := by omega
  have hwp := without_length hk2
  have hm2 : m ≤ (withoutV ps k).length := by omega
  have hl3 : (withoutV ps k).length ≤ 1000 := by omega
  clear hsrc hgood hps hpl hwp
  have HWA := Lib.hid (insert_all (p := itemB) (without_all (p := itemB) HAL.out k) HT.out m)
  have hwl := insert_len (withoutV its k) m it
  have hwl2 := without_length hk
  have hwl3 : (insertV (withoutV its k) m it).length ≤ 15 := by omega
  clear hwl hwl2
  obtain ⟨X, hX⟩ : ∃ X, insertV (withoutV its k) m it = X := ⟨_, rfl⟩
  rw [hX] at HDR HWA HML hwl3
  have HXX := Lib.hid hX
  clear hX
  obtain ⟨x0, y0⟩ := B0.six
  go_wp2_with fail
  clear x0 y0
  have B0w := B0
  have kD : Kept w1 w1.drew := (Kept.refl _).drew
  go_region_held3 (fun w' => (w'.cell? ⟨w.heap.size, 0, none⟩ = some (.slice A0 x.elems.length c0) ∧ w'.cell? ⟨w.heap.size, 1, none⟩ = some (.slice D0 x.limits.length d0) ∧ w'.cell? ⟨w.heap.size, 2, none⟩ = some (.int .i64 x.repeats) ∧ w'.cell? ⟨w.heap.size, 3, none⟩ = some (.int .i64 x.bonus) ∧ w'.cell? ⟨w.heap.size, 4, none⟩ = some (.int .i64 x.keeps) ∧ w'.cell? ⟨w.heap.size, 5, none⟩ = some (.int .i64 x.fall)) ∧ (w'.cell? ⟨b, o + k * 3, none⟩ = some (.slice Aa it.names.length ca) ∧ w'.cell? ⟨b, o + k * 3 + 1, none⟩ = some (.slice Ab it.marks.length cb) ∧ w'.cell? ⟨b, o + k * 3 + 2, none⟩ = some (.bool it.late))) (first | (with_reducible exact ⟨(B0w.kept kD).six.1, HC3.out _ kD⟩) | (with_reducible exact ⟨(B0w.kept (by assumption)).six.1, HC3.out _ (by assumption)⟩)) (first | (go_at_call 36; refine (pgWithout_form _ ps k _ (HSRC.out.kept kD) (HGOOD.out.kept kD) hk2 hl2).mono ?_; rintro e w7 ⟨g7, c7, rfl, o7, k7⟩; have k7' := kD.trans k7; have G7 := Lib.hid ((HGOOD.out.without k).kept k7'); have O7 := Lib.hid o7; clear o7) | (go_at_call 34; refine (pgInsert_form g7 0 c7 _ (withoutV ps k) m it _ O7.out.src G7.out (HIT.out.kept k7') hm2 hl3).mono ?_; rintro e w8 ⟨v8, y, rfl, o8, hy2, hyg, k8⟩; have k8' := k7'.trans k8; have r8 := items_of o8.src ((GoodP.insert G7.out hyg m).kept k8); rw [itsP_insert, itsP_without, HPS.out, hy2, HXX.out] at r8; have R8 := Lib.hid r8; clear r8 hy2 hyg) | (go_at_call 33; refine (pgIf_any _ _ x X _ (H0.out.kept (K1.trans k8')) R8.out HWA.out (by omega)).mono ?_; rintro e w9 ⟨v9, S9, rfl, o9, k9⟩; have kk9 := k8'.trans k9))
  rename_i hheld
  clear hheld
  all_goals
    go_wp2_with fail
    go_ret2
    refine ⟨_, S9, ret_vb3 HDR.out.symm, ?_, K1.trans kk9⟩
    have e9 : mvV x its (k : Int) (m : Int) = onT (ifB x X) (lated X) := by unfold mvV; rw [HDR.out, HML.out]
    rw [e9]
    have hz1 := K1.size
    have hz2 := k8'.size
    exact o9.base (by omega)
end Go.Proofs.YtkekpolfdmmgeaaGreat

/- FnProgrammes: plain facts: what is inserted is dropped again, what is moved is moved back. -/
namespace Go.Proofs.YtkekpolfdmmgeaaGreat
set_option linter.unusedVariables false
set_option linter.unusedSimpArgs false
open Go.RowKit

def nm (it : ItemD) : List ByteArray × List Int := (it.names, it.marks)
theorem lateI_nm {n k : Nat} {a b : ItemD} (h : nm a = nm b) : lateI n k a = lateI n k b := by
  obtain ⟨an, am, al⟩ := a
  obtain ⟨bn, bm, bl⟩ := b
  unfold nm at h
  simp only [Prod.mk.injEq] at h
  obtain ⟨rfl, rfl⟩ := h
  rfl
theorem lated_el {its : List ItemD} {k : Nat} (h : k < (lated its).length) (h2 : k < its.length) : (lated its)[k] = lateI its.length k its[k] := by
  have := lated_get (List.getElem?_eq_getElem h2)
  rw [List.getElem?_eq_getElem h] at this
  injection this
theorem lated_congr {a b : List ItemD} (h : a.map nm = b.map nm) : lated a = lated b := by
  have hl : a.length = b.length := by have := congrArg List.length h; simpa using this
  refine List.ext_getElem (by rw [lated_length, lated_length, hl]) fun k h1 h2 => ?_
  have h3 : k < a.length := by rw [lated_length] at h1; exact h1
  have h4 : k < b.length := by rw [lated_length] at h2; exact h2
  rw [lated_el h1 h3, lated_el h2 h4, hl]
  refine lateI_nm ?_
  have : (a.map nm)[k]'(by simpa using h3) = (b.map nm)[k]'(by simpa using h4) := by simp only [h]
  simpa using this
theorem lated_nm (a : List ItemD) : (lated a).map nm = a.map nm := by
  refine List.ext_getElem (by simp [lated_length]) fun k h1 h2 => ?_
  simp only [List.getElem_map]
  unfold lated
  rw [List.getElem_mapIdx]
  rfl
theorem lated_half {its : List ItemD} (h : halfB its = true) : lated its = its := by
  refine List.ext_getElem (lated_length its) fun k h1 h2 => ?_
  rw [lated_el h1 h2]
  have := List.all_eq_true.1 h k (by simpa using h2)
  unfold lateB at this
  rw [List.getElem?_eq_getElem h2] at this
  have e := eq_of_beq this
  unfold lateI
  rw [← e]
theorem good_half {x : CodeD} {its : List ItemD} (h : goodB x its = true) : halfB its = true := by
  unfold goodB at h
  rw [Bool.and_eq_true] at h
  have h2 := h.2
  by_cases hh : halfB its = true
  · exact hh
  · simp only [Bool.not_eq_true] at hh
    have hm : (8 : Int) ∈ brokenV x its 8 := by
      unfold brokenV
      refine List.mem_filter.2 ⟨by decide, ?_⟩
      show (!ruleB x its 8) = true
      have : ruleB x its 8 = halfB its := rfl
      rw [this, hh]
      rfl
    cases hb : brokenV x its 8 with
    | nil => rw [hb] at hm; cases hm
    | cons a l => rw [hb] at h2; cases h2
theorem good_lated {x : CodeD} {its : List ItemD} (h : goodB x its = true) : lated its = its := lated_half (good_half h)
theorem map_without {α β : Type} (f : α → β) (l : List α) (k : Nat) : (withoutV l k).map f = withoutV (l.map f) k := by
  unfold withoutV
  rw [List.map_append, List.map_take, List.map_drop]
theorem map_insert {α β : Type} (f : α → β) (l : List α) (k : Nat) (y : α) : (insertV l k y).map f = insertV (l.map f) k (f y) := by
  unfold insertV
  rw [List.map_append, List.map_cons, List.map_take, List.map_drop]
theorem without_insert {α : Type} {l : List α} {k : Nat} {y : α} (h : k ≤ l.length) : withoutV (insertV l k y) k = l := by
  unfold withoutV insertV
  have hk : (l.take k).length = k := by rw [List.length_take]; omega
  rw [List.take_append_of_le_length (by omega), List.take_of_length_le (by omega), List.drop_append, List.drop_eq_nil_of_le (by omega), hk, show k + 1 - k = 1 by omega]
  simp
theorem insert_without {α : Type} {l : List α} {k : Nat} {y : α} (h : l[k]? = some y) : insertV (withoutV l k) k y = l := by
  obtain ⟨hl, rfl⟩ := List.getElem?_eq_some_iff.1 h
  unfold withoutV insertV
  have hk : (l.take k).length = k := by rw [List.length_take]; omega
  rw [List.take_append_of_le_length (by omega), List.take_of_length_le (by omega), List.drop_append, hk, List.drop_eq_nil_of_le (by omega), Nat.sub_self, List.nil_append, List.drop_zero]
  rw [← List.drop_eq_getElem_cons hl, List.take_append_drop]
theorem insert_get {α : Type} {l : List α} {k : Nat} {y : α} (h : k ≤ l.length) : (insertV l k y)[k]? = some y := by
  unfold insertV
  have hk : (l.take k).length = k := by rw [List.length_take]; omega
  rw [List.getElem?_append_right (by omega), hk, Nat.sub_self]
  rfl
theorem insert_length {α : Type} {l : List α} {k : Nat} {y : α} (h : k ≤ l.length) : (insertV l k y).length = l.length + 1 := by
  unfold insertV
  rw [List.length_append, List.length_cons, List.length_take, List.length_drop]
  omega
/-- an inserted item is dropped again -/
theorem inserted_back {x : CodeD} {its : List ItemD} {a : Int} {it : ItemD} (h : inOk x its a it = true) : goodB x (inV x its a it) = true ∧ (inV x its a it).length = its.length + 1 ∧ drB x (inV x its a it) a = true ∧ drV x (inV x its a it) a = its := by
  have hv : inV x its a it = lated (insertV its a.toNat it) := by unfold inV; rw [h]; rfl
  unfold inOk at h
  simp only [Bool.and_eq_true] at h
  obtain ⟨hg, _, hr, hi⟩ := h
  have hr := inB_true hr
  have hk : a.toNat ≤ its.length := by omega
  have hg2 : goodB x (inV x its a it) = true := by rw [hv]; exact hi
  have hl : (inV x its a it).length = its.length + 1 := by rw [hv, lated_length, insert_length hk]
  have hw : lated (withoutV (inV x its a it) a.toNat) = its := by
    rw [hv]
    have : (withoutV (lated (insertV its a.toNat it)) a.toNat).map nm = its.map nm := by
      rw [map_without, lated_nm, map_insert, without_insert (by simpa using hk)]
    rw [lated_congr this, good_lated hg]
  have hd : drB x (inV x its a it) a = true := by
    unfold drB ifB
    rw [hg2, hw, hg, hl, inB_of (by omega) (by omega)]
    rfl
  refine ⟨hg2, hl, hd, ?_⟩
  unfold drV
  rw [hd, hw]
  rfl
/-- a moved item is moved back -/
theorem moved_back {x : CodeD} {its : List ItemD} {a b : Int} (h : mvOk x its a b = true) : goodB x (mvV x its a b) = true ∧ mvOk x (mvV x its a b) b a = true ∧ mvV x (mvV x its a b) b a = its := by
  have hv : mvV x its a b = lated (mvL its a b) := by unfold mvV; rw [h]; rfl
  unfold mvOk at h
  simp only [Bool.and_eq_true] at h
  obtain ⟨hg, h1, h2, hi⟩ := h
  have h1 := inB_true h1
  have h2 := inB_true h2
  have ha : a.toNat < its.length := by omega
  obtain ⟨it, hit⟩ : ∃ it, its[a.toNat]? = some it := ⟨_, List.getElem?_eq_getElem ha⟩
  rw [hit] at hi
  have hm : mvL its a b = insertV (withoutV its a.toNat) b.toNat it := by unfold mvL; rw [hit]
  have hwl := without_length ha
  have hb : b.toNat ≤ (withoutV its a.toNat).length := by omega
  rw [hm] at hv
  have hl : (mvV x its a b).length = its.length := by rw [hv, lated_length, insert_length hb]; omega
  have hg2 : goodB x (mvV x its a b) = true := by rw [hv]; exact hi
  have hget : (mvV x its a b)[b.toNat]? = some (lateI (insertV (withoutV its a.toNat) b.toNat it).length b.toNat it) := by rw [hv]; exact lated_get (insert_get hb)
  obtain ⟨jt, hjt⟩ : ∃ jt, lateI (insertV (withoutV its a.toNat) b.toNat it).length b.toNat it = jt := ⟨_, rfl⟩
  rw [hjt] at hget
  have hnm : nm jt = nm it := by rw [← hjt]; rfl
  have hw : lated (insertV (withoutV (mvV x its a b) b.toNat) a.toNat jt) = its := by
    have : (insertV (withoutV (mvV x its a b) b.toNat) a.toNat jt).map nm = its.map nm := by
      rw [map_insert, map_without, hv, lated_nm, map_insert, hnm, without_insert (by rw [List.length_map]; exact hb), map_without]
      exact insert_without (by rw [List.getElem?_map, hit]; rfl)
    rw [lated_congr this, good_lated hg]
  have hok : mvOk x (mvV x its a b) b a = true := by
    unfold mvOk ifB
    rw [hg2, hl, inB_of h2.1 h2.2, inB_of h1.1 h1.2, hget]
    simp only [Bool.true_and]
    rw [hw, hg]
  refine ⟨hg2, hok, ?_⟩
  have e : mvV x (mvV x its a b) b a = lated (mvL (mvV x its a b) b a) := by
    show onT (mvOk x (mvV x its a b) b a) (lated (mvL (mvV x its a b) b a)) = _
    rw [hok]
    rfl
  rw [e]
  have : mvL (mvV x its a b) b a = insertV (withoutV (mvV x its a b) b.toNat) a.toNat jt := by
    show (match (mvV x its a b)[b.toNat]? with | some it => insertV (withoutV (mvV x its a b) b.toNat) a.toNat it | none => []) = _
    rw [hget]
  rw [this, hw]
theorem dropped_good {x : CodeD} {its : List ItemD} {a : Int} (h : drB x its a = true) : goodB x (drV x its a) = true ∧ (drV x its a).length + 1 = its.length := by
  have hv : drV x its a = lated (withoutV its a.toNat) := by unfold drV; rw [h]; rfl
  unfold drB at h
  simp only [Bool.and_eq_true] at h
  obtain ⟨_, h1, h2⟩ := h
  have h1 := inB_true h1
  rw [hv]
  refine ⟨h2, ?_⟩
  rw [lated_length, without_length (by omega)]
  omega
theorem lated_at {its : List ItemD} {j : Nat} {it : ItemD} (h : (lated its)[j]? = some it) : it.late = decide (its.length ≤ 2 * j) := by
  have hj : j < its.length := by have := (List.getElem?_eq_some_iff.1 h).1; rw [lated_length] at this; exact this
  rw [lated_get (List.getElem?_eq_getElem hj)] at h
  injection h with h
  rw [← h]
  rfl
theorem timesC_le (its : List ItemD) (s : ByteArray) : timesC its s ≤ times its s := by
  unfold timesC times
  induction its with
  | nil => exact Nat.le_refl _
  | cons a l ih =>
    simp only [List.map_cons, List.sum_cons]
    have : cntC s a ≤ cnt s a.names := by unfold cntC; split <;> omega
    omega
theorem good_kw {x : CodeD} {its : List ItemD} (h : goodB x its = true) : kwOk x its = true := by
  unfold goodB at h
  rw [Bool.and_eq_true] at h
  exact h.1
theorem tm_bd (its : List ItemD) (s : ByteArray) : 0 ≤ tmC its s ∧ tmC its s ≤ tmV its s := by
  unfold tmC tmV
  have := timesC_le its s
  split <;> omega
end Go.Proofs.YtkekpolfdmmgeaaGreat

/- Rows of numbers and of strings: the words for 'append(append(append([]T{}, l[:k]...), x), l[k:]...)'. -/
namespace Go.Proofs.YtkekpolfdmmgeaaGreat
set_option linter.unusedVariables false
set_option linter.unusedSimpArgs false
open Go.RowKit

theorem seq_to {w : World} {A : Option Addr} {n c : Nat} {xs : List Value} (h : Seq w (.slice A n c) n xs) {i : Nat} (hi : i ≤ n) : Seq w (.slice A i c) i (xs.take i) := by
  obtain ⟨A', c', e, h1, h2, h3, h4⟩ := h
  injection e with e1 e2 e3
  subst e1 e3
  refine ⟨A, c, rfl, by omega, h2, h3, fun hp => ?_⟩
  obtain ⟨b, o, e1, hb, hc⟩ := h4 (by omega)
  refine ⟨b, o, e1, hb, fun j u hu => hc j u ?_⟩
  rw [List.getElem?_take] at hu
  split at hu
  · exact hu
  · cases hu
theorem seq_from {w : World} {b o n c : Nat} {xs : List Value} (h : Seq w (.slice (some ⟨b, o, none⟩) n c) n xs) {k : Nat} (hk : k ≤ n) : Seq w (.slice (some ⟨b, o + k, none⟩) (n - k) (c - k)) (n - k) (xs.drop k) := by
  obtain ⟨A', c', e, h1, h2, h3, h4⟩ := h
  injection e with e1 e2 e3
  subst e1 e3
  refine ⟨_, c - k, rfl, by omega, by unfold maxLen at *; omega, (fun h => by cases h), fun hp => ?_⟩
  obtain ⟨b', o', e1, hb, hc⟩ := h4 (by omega)
  injection e1 with e1
  injection e1 with e1 e2
  subst e1 e2
  refine ⟨b, o + k, rfl, hb, fun j u hu => ?_⟩
  rw [List.getElem?_drop] at hu
  rw [Nat.add_assoc]
  exact hc _ u hu
theorem seq_none {w : World} {A : Option Addr} {xs : List Value} {k : Nat} (hk : xs.length ≤ k) : Seq w (.slice A 0 0) 0 (xs.drop k) := by
  rw [List.drop_of_length_le hk]
  exact ⟨A, 0, rfl, Nat.le_refl _, Nat.zero_le _, fun _ => rfl, fun h => absurd h (by simp)⟩
theorem seq_one {w : World} {g : Nat} {t : TypeId} {u : Value} (h : Box w g t #[u]) : Seq w (.slice (some ⟨g, 0, none⟩) 1 1) 1 [u] := by
  refine ⟨_, 1, rfl, Nat.le_refl _, by unfold maxLen; omega, (fun h => by cases h), fun _ => ⟨g, 0, rfl, h.lt, fun j v hv => ?_⟩⟩
  cases j with
  | zero =>
    have e : v = u := by simpa using hv.symm
    subst e
    exact h.cell 0
  | succ j => simp at hv
theorem ints_to {w : World} {A : Option Addr} {n c : Nat} {zs : List Int} (h : Ints w (.slice A n c) zs) (hn : zs.length = n) {i : Nat} (hi : i ≤ n) : Ints w (.slice A i c) (zs.take i) := by
  unfold Ints
  rw [List.length_take, hn, Nat.min_eq_left hi, List.map_take]
  unfold Ints at h
  rw [hn] at h
  exact seq_to h hi
theorem ints_from {w : World} {b o n c : Nat} {zs : List Int} (h : Ints w (.slice (some ⟨b, o, none⟩) n c) zs) (hn : zs.length = n) {k : Nat} (hk : k ≤ n) : Ints w (.slice (some ⟨b, o + k, none⟩) (n - k) (c - k)) (zs.drop k) := by
  unfold Ints
  rw [List.length_drop, hn, List.map_drop]
  unfold Ints at h
  rw [hn] at h
  exact seq_from h hk
theorem ints_none {w : World} {A : Option Addr} {zs : List Int} {k : Nat} (hk : zs.length ≤ k) : Ints w (.slice A 0 0) (zs.drop k) := by
  unfold Ints
  rw [List.length_drop, Nat.sub_eq_zero_of_le hk, List.map_drop]
  exact seq_none (by simpa using hk)
theorem ints_box1 {w : World} {g : Nat} {z : Int} (h : Box w g 3 #[.int .i64 z]) : Ints w (.slice (some ⟨g, 0, none⟩) 1 1) [z] := seq_one h
theorem step_put_I (a0 w : World) {ops : Array Oper} {o : Oper} {a : Act} {K : Act → World → Prop} {Q : Exit → Act → World → Prop} {E : Prop} (hgd : o.guard = none) (s x : Operand)
    (ho : o.op = .call { callee := .builtin .append, args := #[s, x], argTypes := #[24, 24] })
    (v : Value) (zs : List Int) (hs : a.eval s = v) (hown : OwnI w a0.heap.size v zs) (hk : Kept a0 w) (u : Value) (ys : List Int) (hx : a.eval x = u) (hr : Ints w u ys)
    (hl : zs.length + ys.length ≤ 16777216)
    (h : ∀ v' w', OwnI w' a0.heap.size v' (zs ++ ys) → Kept a0 w' → Only (fp v) w w' → K (a.put o.dst v') w') :
    if Region.wanted o (yielded ops a.tmps) = true then Oper.wp Tryz.prog o a w K Q else E :=
  step_append_I w hgd s x ho a0.heap.size v zs hs hown u ys hx hr hl hk.size fun v' w' h2 h3 =>
    h v' w' h2 ((only_of_grown h3).above hk (fun b hb => (own_fp hown b hb).1)) (only_of_grown h3)
theorem own0_I {w : World} {base g : Nat} (hg : base ≤ g) (h : Box w g 3 #[]) : OwnI w base (.slice (some ⟨g, 0, none⟩) 0 0) [] := own_made _ _ _ hg h
theorem strs_to {w : World} {A : Option Addr} {n c : Nat} {zs : List ByteArray} (h : Strs w (.slice A n c) zs) (hn : zs.length = n) {i : Nat} (hi : i ≤ n) : Strs w (.slice A i c) (zs.take i) := by
  refine ⟨?_, fun z hz => h.2 z (List.mem_of_mem_take hz)⟩
  rw [List.length_take, hn, Nat.min_eq_left hi, List.map_take]
  have h1 := h.1
  rw [hn] at h1
  exact seq_to h1 hi
theorem strs_from {w : World} {b o n c : Nat} {zs : List ByteArray} (h : Strs w (.slice (some ⟨b, o, none⟩) n c) zs) (hn : zs.length = n) {k : Nat} (hk : k ≤ n) : Strs w (.slice (some ⟨b, o + k, none⟩) (n - k) (c - k)) (zs.drop k) := by
  refine ⟨?_, fun z hz => h.2 z (List.mem_of_mem_drop hz)⟩
  rw [List.length_drop, hn, List.map_drop]
  have h1 := h.1
  rw [hn] at h1
  exact seq_from h1 hk
theorem strs_none {w : World} {A : Option Addr} {zs : List ByteArray} {k : Nat} (hk : zs.length ≤ k) : Strs w (.slice A 0 0) (zs.drop k) := by
  refine ⟨?_, fun z hz => by rw [List.drop_of_length_le hk] at hz; cases hz⟩
  rw [List.length_drop, Nat.sub_eq_zero_of_le hk, List.map_drop]
  exact seq_none (by simpa using hk)
theorem strs_box1 {w : World} {g : Nat} {z : ByteArray} (h : Box w g 9 #[.string z]) (hz : z.size ≤ maxLen) : Strs w (.slice (some ⟨g, 0, none⟩) 1 1) [z] := ⟨seq_one h, fun y hy => by rw [List.mem_singleton] at hy; subst hy; exact hz⟩
theorem step_put_S (a0 w : World) {ops : Array Oper} {o : Oper} {a : Act} {K : Act → World → Prop} {Q : Exit → Act → World → Prop} {E : Prop} (hgd : o.guard = none) (s x : Operand)
    (ho : o.op = .call { callee := .builtin .append, args := #[s, x], argTypes := #[28, 28] })
    (v : Value) (zs : List ByteArray) (hs : a.eval s = v) (hown : OwnS w a0.heap.size v zs) (hk : Kept a0 w) (u : Value) (ys : List ByteArray) (hx : a.eval x = u) (hr : Strs w u ys)
    (hl : zs.length + ys.length ≤ 16777216)
    (h : ∀ v' w', OwnS w' a0.heap.size v' (zs ++ ys) → Kept a0 w' → Only (fp v) w w' → K (a.put o.dst v') w') :
    if Region.wanted o (yielded ops a.tmps) = true then Oper.wp Tryz.prog o a w K Q else E :=
  step_append_S w hgd s x ho a0.heap.size v zs hs hown u ys hx hr hl hk.size fun v' w' h2 h3 =>
    h v' w' h2 ((only_of_grown h3).above hk (fun b hb => (own_fp hown.1 b hb).1)) (only_of_grown h3)
theorem own0_S {w : World} {base g : Nat} (hg : base ≤ g) (h : Box w g 9 #[]) : OwnS w base (.slice (some ⟨g, 0, none⟩) 0 0) [] := ⟨own_made _ _ _ hg h, fun _ h => by cases h⟩
end Go.Proofs.YtkekpolfdmmgeaaGreat
