/- Contracts of functions that the proof leans on. No condition. -/
import Derived.Test.YtkekpolfdmmgeaaGreatM073b8889f6
import Derived.Deep.DeepBigQuietO
import Derived.Deep.DeepCutAuto
/- Programmes: MoveItem, the program's side. -/
namespace Go.Proofs.YtkekpolfdmmgeaaGreat
set_option linter.unusedVariables false
set_option linter.unusedSimpArgs false
open Go.RowKit

set_option maxRecDepth 100000 in
set_option maxHeartbeats 8000000 in
theorem implMoveItem_any (v0 v1 : Value) (x : CodeD) (its : List ItemD) (a : Int) (z : Int) (w : World) (h0 : CodeAt w v0 x) (h1 : ItemsAt w v1 its)  :
    Calls Tryz.prog 8 #[v0, v1, .int .i64 a, .int .i64 z] w fun e w' => ∃ v' S, e = .returned (.tuple #[v', .bool (mvOk x its a z)]) ∧ OwnL w' w.heap.size v' (mvV x its a z) S ∧ Kept w w' := by
  have H0 := Lib.hid h0
  obtain ⟨n0, m0, rfl, p0, q0⟩ := h0
  have HE0 := Lib.hid p0; have HI0 := Lib.hid q0
  obtain ⟨A0, c0, rfl, hnc0, hcm0, _⟩ := p0.1.out; obtain ⟨D0, d0, rfl, hnd0, hdm0, _⟩ := q0.out; clear p0 q0; unfold maxLen at hcm0 hdm0
  have H1 := Lib.hid h1
  obtain ⟨A1, c1, cs1, rfl, hnc1, hcm1, hA1⟩ := h1.out; have HA1 := Lib.hid hA1; clear hA1 h1; unfold maxLen at hcm1
  go_enter Tryz.func8, Tryz.ntmps8
  have K0 := Kept.refl w
  go_wp2_with fail
  obtain ⟨wb1, hwb1⟩ : ∃ w' : World, w' = w.alloc (.cells #[.slice A0 x.elems.length c0, .slice D0 x.limits.length d0, .int .i64 x.repeats, .int .i64 x.bonus, .int .i64 x.keeps, .int .i64 x.fall] 26) := ⟨_, rfl⟩
  rw [← hwb1]
  have KB0 : Kept w wb1 := hwb1 ▸ (Kept.refl w).alloc _
  have B0 : Box wb1 (w.heap.size) 26 #[.slice A0 x.elems.length c0, .slice D0 x.limits.length d0, .int .i64 x.repeats, .int .i64 x.bonus, .int .i64 x.keeps, .int .i64 x.fall] := hwb1 ▸ Box.new w (w.heap.size) 26 #[.slice A0 x.elems.length c0, .slice D0 x.limits.length d0, .int .i64 x.repeats, .int .i64 x.bonus, .int .i64 x.keeps, .int .i64 x.fall] rfl
  have swb1 : wb1.heap.size = w.heap.size + 1 := by rw [hwb1]; simp
  clear hwb1
  have Kwb1 := K0.trans KB0
  refine (isProgramme_any _ _ x its _ (H0.out.kept Kwb1) (H1.out.kept Kwb1)).mono ?_
  rintro e w1 ⟨rfl, k1⟩
  replace B0 := B0.kept k1
  have sz1 := k1.size
  have K1 := Kwb1.trans k1
  by_cases hq : goodB x its = true
  case neg =>
    simp only [Bool.not_eq_true] at hq
    rw [hq]
    have HO : Hid (mvOk x its a z = false) := Lib.hid (by unfold mvOk; rw [hq]; rfl)
    clear hq
    obtain ⟨x0, y0⟩ := B0.six
    go_wp2_with fail
    clear x0 y0
    go_ret2
    exact ⟨_, _, ret_vb3 HO.out.symm, by unfold mvV; rw [HO.out]; exact nilL _ _, K1⟩
  rw [hq]
  obtain ⟨hc, hi⟩ := goodB_parts hq
  have HQ := Lib.hid hq
  have hl14 := (itemsB_true hi).1
  have HAL := Lib.hid (all_of hi)
  clear hq hc hi
  obtain ⟨x0, y0⟩ := B0.six
  go_wp2_with fail
  clear x0 y0
  refine (within_any _ _ _ _).mono ?_
  rintro e w' ⟨rfl, rfl⟩
  by_cases hr : inB a 0 ((its.length : Int) - 1) = true
  case neg =>
    simp only [Bool.not_eq_true] at hr
    rw [hr]
    have HO : Hid (mvOk x its a z = false) := Lib.hid (by unfold mvOk; rw [HQ.out, hr]; rfl)
    clear hr
    obtain ⟨x0, y0⟩ := B0.six
    go_wp2_with fail
    clear x0 y0
    go_ret2
    exact ⟨_, _, ret_vb3 HO.out.symm, by unfold mvV; rw [HO.out]; exact nilL _ _, K1⟩
  rw [hr]
  have HR := Lib.hid hr
  have ha01 := inB_true hr
  clear hr
  obtain ⟨x0, y0⟩ := B0.six
  go_wp2_with fail
  clear x0 y0
  refine (within_any _ _ _ _).mono ?_
  rintro e w' ⟨rfl, rfl⟩
  by_cases hr2 : inB z 0 ((its.length : Int) - 1) = true
  case neg =>
    simp only [Bool.not_eq_true] at hr2
    rw [hr2]
    have HO : Hid (mvOk x its a z = false) := Lib.hid (by unfold mvOk; rw [HQ.out, HR.out, hr2]; rfl)
    clear hr2
    obtain ⟨x0, y0⟩ := B0.six
    go_wp2_with fail
    clear x0 y0
    go_ret2
    exact ⟨_, _, ret_vb3 HO.out.symm, by unfold mvV; rw [HO.out]; exact nilL _ _, K1⟩
  rw [hr2]
  have HR2 := Lib.hid hr2
  have hz01 := inB_true hr2
  clear hr2
  obtain ⟨ha0, ha1⟩ := ha01
  obtain ⟨hz0, hz1⟩ := hz01
  obtain ⟨k, rfl⟩ := Int.eq_ofNat_of_zero_le ha0
  obtain ⟨m, rfl⟩ := Int.eq_ofNat_of_zero_le hz0
  have hk : k < its.length := by omega
  have hm : m < its.length := by omega
  have hkI : (k : Int) < (its.length : Int) := by omega
  obtain ⟨b, o, Aa, ca, Ab, cb, it, rfl, hbb, h2, h3, hit, q0, q1, q2⟩ := items_at (HA1.out.kept K1) hk
  have HDR : Hid (mvOk x its (k : Int) (m : Int) = ifB x (insertV (withoutV its k) m it)) := Lib.hid (mvOk_at HQ.out HR.out HR2.out h2)
  have HML : Hid (mvL its (k : Int) (m : Int) = insertV (withoutV its k) m it) := Lib.hid (mvL_at h2)
  have HT : Hid (itemB it = true) := Lib.hid (List.all_eq_true.1 HAL.out it (List.mem_of_getElem? h2))
  have HIT := Lib.hid hit
  clear h2 h3 hit ha0 ha1 hz0 hz1
  have HC3 : Hid (∀ w' : World, Kept w1 w' → (w'.cell? ⟨b, o + k * 3, none⟩ = some (.slice Aa it.names.length ca) ∧ w'.cell? ⟨b, o + k * 3 + 1, none⟩ = some (.slice Ab it.marks.length cb) ∧ w'.cell? ⟨b, o + k * 3 + 2, none⟩ = some (.bool it.late))) := Lib.hid (fun w' hk => ⟨(hk.cell (p := ⟨b, o + k * 3, none⟩) hbb).trans q0, (hk.cell (p := ⟨b, o + k * 3 + 1, none⟩) hbb).trans q1, (hk.cell (p := ⟨b, o + k * 3 + 2, none⟩) hbb).trans q2⟩)
  clear q0 q1 q2
  obtain ⟨ps, hps, hsrc, hgood⟩ := pairs_of (H1.out.kept K1)
  have hpl : ps.length = its.length := by rw [← hps, itsP_len]
  have HSRC := Lib.hid hsrc
  have HGOOD := Lib.hid hgood
  have HPS := Lib.hid hps
  have HPL := Lib.hid hpl
  have hk2 : k < ps.length := by omega
  have hl2 : ps.length ≤ 1000 := by omega
  have hwp := without_length hk2
  have hm2 : m ≤ (withoutV ps k).length := by omega
  have hl3 : (withoutV ps k).length ≤ 1000 := by omega
  clear hsrc hgood hps hpl hwp
  have HWA := Lib.hid (insert_all (p := itemB) (without_all (p := itemB) HAL.out k) HT.out m)
  have hwl := insert_len (withoutV its k) m it
  have hwl2 := without_length hk
  have hwl3 : (insertV (withoutV its k) m it).length ≤ 15 := by omega
  clear hwl hwl2
  obtain ⟨X, hX⟩ : ∃ X, insertV (withoutV its k) m it = X := ⟨_, rfl⟩
  rw [hX] at HDR HWA HML hwl3
  have HXX := Lib.hid hX
  clear hX
  have hw1 : IntKind.i64.wrap ((k : Int) + 1) = (k : Int) + 1 := IntWalk.i64_in _ (by omega)
  have hnn1 : (0 : Int) ≤ (k : Int) + 1 := by omega
  have B0v := B0
  obtain ⟨x0, y0⟩ := B0.six
  go_wp2_with (at_builtin; refine wpList_append_P w1 _ rfl (.tmp 31) (.tmp 32) rfl (.slice (some ⟨w1.heap.size, 0, none⟩) 0 0) [] rfl (RowP.nil0 _ _ (Nat.le_refl _) (Box.new w1 _ _ _ rfl)) ((Kept.refl _).alloc _) _ ps rfl (HSRC.out.kept ((Kept.refl _).alloc _)) (HGOOD.out.kept ((Kept.refl _).alloc _)) (by simp; omega) ?_; intro v5 w5 o5 k5 n5; rw [List.nil_append] at o5; have O5 := Lib.hid o5; clear o5)
  clear x0 y0
  refine (delP_form v5 ps k w5 _ O5.out (HGOOD.out.kept k5) hk2).mono ?_
  rintro e w6 ⟨g6, c6, rfl, o6, on6⟩
  have k6 := on6.above k5 (fun b hb => (own_fp O5.out b hb).1)
  have O6 := Lib.hid o6
  clear o6 n5 O5 k5 on6
  replace B0 := B0.kept k6
  have sz6 := k6.size
  have K6 := K1.trans k6
  have g6h : w1.heap.size ≤ g6 ∧ g6 < w6.heap.size := own_fp O6.out g6 (by simp [fp_some])
  obtain ⟨x0, y0⟩ := B0.six
  go_wp2_with fail
  clear x0 y0
  have B0w := B0
  obtain ⟨y, hy⟩ : ∃ y : Pr, y = ((.slice Aa it.names.length ca, .slice Ab it.marks.length cb), it) := ⟨_, rfl⟩
  have H3p := HIT.out.parts
  have HYG : Hid (Strs w1 y.1.1 y.2.names ∧ Ints w1 y.1.2 y.2.marks) := Lib.hid (by subst hy; exact H3p)
  have HY2 : Hid (y.2 = it) := Lib.hid (by subst hy; rfl)
  have HYB : Hid (∀ (W : World) (g : Nat), Box W g 30 #[(.slice Aa it.names.length ca), (.slice Ab it.marks.length cb), (.bool it.late)] → Box W g 30 #[y.1.1, y.1.2, .bool y.2.late]) := Lib.hid (fun W g hb => by subst hy; exact hb)
  clear hy H3p
  have HIN : Hid (itsP (insertV (withoutV ps k) m y) = X) := Lib.hid (by rw [itsP_insert, itsP_without, HPS.out, HY2.out, HXX.out])
  have kD : Kept w6 w6.drew := (Kept.refl _).drew
  have kE : Kept w6 (w6.alloc (.cells #[(.slice Aa it.names.length ca), (.slice Ab it.marks.length cb), (.bool it.late)] 30)).drew := ((Kept.refl _).alloc _).drew
  have vE : Box (w6.alloc (.cells #[(.slice Aa it.names.length ca), (.slice Ab it.marks.length cb), (.bool it.late)] 30)).drew w6.heap.size 30 #[(.slice Aa it.names.length ca), (.slice Ab it.marks.length cb), (.bool it.late)] := Box.new w6 _ _ _ rfl
  have C1 := Lib.hid (insP_form g6 c6 (withoutV ps k) y m w6.heap.size _ w1.heap.size (O6.out.kept kE) ((HGOOD.out.without k).kept (k6.trans kE)) ⟨HYG.out.1.kept (k6.trans kE), HYG.out.2.kept (k6.trans kE)⟩ hm2 (by omega) (by have := kE.size; omega) (HYB.out _ _ vE) (by omega))
  go_region_held3 (fun w' => (w'.cell? ⟨w.heap.size, 0, none⟩ = some (.slice A0 x.elems.length c0) ∧ w'.cell? ⟨w.heap.size, 1, none⟩ = some (.slice D0 x.limits.length d0) ∧ w'.cell? ⟨w.heap.size, 2, none⟩ = some (.int .i64 x.repeats) ∧ w'.cell? ⟨w.heap.size, 3, none⟩ = some (.int .i64 x.bonus) ∧ w'.cell? ⟨w.heap.size, 4, none⟩ = some (.int .i64 x.keeps) ∧ w'.cell? ⟨w.heap.size, 5, none⟩ = some (.int .i64 x.fall)) ∧ (w'.cell? ⟨b, o + k * 3, none⟩ = some (.slice Aa it.names.length ca) ∧ w'.cell? ⟨b, o + k * 3 + 1, none⟩ = some (.slice Ab it.marks.length cb) ∧ w'.cell? ⟨b, o + k * 3 + 2, none⟩ = some (.bool it.late))) (first | (with_reducible exact ⟨(B0w.kept kD).six.1, HC3.out _ (k6.trans kD)⟩) | (with_reducible exact ⟨(B0w.kept kE).six.1, HC3.out _ (k6.trans kE)⟩) | (with_reducible exact hS9) | (with_reducible exact hS8)) (first | (go_at_call 29; (with_reducible refine C1.out.mono ?_); rintro e w8 ⟨v8, rfl, o8, on8⟩; have k8 := on8.above (k6.trans kE) (fun b hb => by rw [List.mem_singleton] at hb; subst hb; exact g6h.1); have hS8 := (⟨(B0v.kept k8).six.1, HC3.out _ k8⟩ : _ ∧ _); have r8 := items_of o8.src ((GoodP.insert (HGOOD.out.without k) ⟨HYG.out.1, HYG.out.2⟩ m).kept k8); rw [HIN.out] at r8; have R8 := Lib.hid r8; clear r8) | (go_at_call 28; refine (asProgramme_any _ _ x X _ (H0.out.kept (K1.trans k8)) R8.out HWA.out (by omega)).mono ?_; rintro e w9 ⟨v9, S9, rfl, o9, k9⟩; have k8' := k8; have kk9 := k8.trans k9; have hS9 := (⟨(B0v.kept kk9).six.1, HC3.out _ kk9⟩ : _ ∧ _)))
  rename_i hheld
  clear hheld
  all_goals
    go_wp2_with fail
    go_ret2
    refine ⟨_, S9, ret_vb3 HDR.out.symm, ?_, K1.trans kk9⟩
    have e9 : mvV x its (k : Int) (m : Int) = onT (ifB x X) (lated X) := by unfold mvV; rw [HDR.out, HML.out]
    rw [e9]
    have hz1 := K1.size
    have hz2 := k8'.size
    exact o9.base (by omega)
end Go.Proofs.YtkekpolfdmmgeaaGreat

/- Equal lists of names and of items are told equal. -/
namespace Go.Proofs.YtkekpolfdmmgeaaGreat
set_option linter.unusedVariables false
set_option linter.unusedSimpArgs false
open Go.RowKit Go.Lib

set_option maxHeartbeats 1000000 in
theorem qWords_any (v1 v2 : Value) (zs : List ByteArray) (w : World) (h1 : Strs w v1 zs) (h2 : Strs w v2 zs) :
    Calls Tryz.prog 47 #[v1, v2] w fun e w' => e = .returned (.bool true) ∧ Kept w w' := by
  obtain ⟨A, c, rfl, hnc, hcm, hl⟩ := h1.1.out
  obtain ⟨A2, c2, rfl, hnc2, hcm2, hl2⟩ := h2.1.out
  unfold maxLen at hcm hcm2
  have HL := Lib.hid hl
  have HL2 := Lib.hid hl2
  clear hl h1 hl2 h2
  have hne : ((zs.length : Int) != (zs.length : Int)) = false := by simp
  go_enter Tryz.func47, Tryz.ntmps47
  go_wp2_with fail
  go_loopw [13] (fun i wr => ∃ k : Nat, k ≤ zs.length ∧ i = .int .i64 k ∧ Kept w wr) (fun i _ => zs.length - (RowKit.intOf i).toNat)
  case atStart => exact ⟨0, Nat.zero_le _, rfl, Kept.refl _⟩
  case round =>
    obtain ⟨k, hk, rfl, hkept⟩ := hrel
    by_cases hlt : k < zs.length
    · obtain ⟨b, o, z, rfl, hb, hz, hc⟩ := strs_at (HL.out.kept hkept) hlt
      obtain ⟨b2, o2, z2, rfl, hb2, hz2, hc2⟩ := strs_at (HL2.out.kept hkept) hlt
      rw [hz] at hz2
      injection hz2 with hz2
      subst hz2
      have hlt' : (k : Int) < (zs.length : Int) := by omega
      clear hz
      go_wp2_with fail
      go_quiet (fail)
      go_wp2_with fail
      go_roundw
      case rel => exact ⟨k + 1, by omega, by go_num, hkept.drewN _⟩
      case measure => simp [RowKit.intOf]; omega
    · go_wp2_with fail
      go_ret
      exact ⟨rfl, hkept⟩
set_option maxHeartbeats 1000000 in
theorem qIntsQ_any (v1 v2 : Value) (zs : List Int) (w : World) (h1 : Ints w v1 zs) (h2 : Ints w v2 zs) :
    Calls Tryz.prog 48 #[v1, v2] w fun e w' => e = .returned (.bool true) ∧ Kept w w' := by
  obtain ⟨A, c, rfl, hnc, hcm, hl⟩ := h1.out
  obtain ⟨A2, c2, rfl, hnc2, hcm2, hl2⟩ := h2.out
  unfold maxLen at hcm hcm2
  have HL := Lib.hid hl
  have HL2 := Lib.hid hl2
  clear hl h1 hl2 h2
  have hne : ((zs.length : Int) != (zs.length : Int)) = false := by simp
  go_enter Tryz.func48, Tryz.ntmps48
  go_wp2_with fail
  go_loopw [13] (fun i wr => ∃ k : Nat, k ≤ zs.length ∧ i = .int .i64 k ∧ Kept w wr) (fun i _ => zs.length - (RowKit.intOf i).toNat)
  case atStart => exact ⟨0, Nat.zero_le _, rfl, Kept.refl _⟩
  case round =>
    obtain ⟨k, hk, rfl, hkept⟩ := hrel
    by_cases hlt : k < zs.length
    · obtain ⟨b, o, z, rfl, hb, hz, hc⟩ := ints_at (HL.out.kept hkept) hlt
      obtain ⟨b2, o2, z2, rfl, hb2, hz2, hc2⟩ := ints_at (HL2.out.kept hkept) hlt
      rw [hz] at hz2
      injection hz2 with hz2
      subst hz2
      have hlt' : (k : Int) < (zs.length : Int) := by omega
      clear hz
      go_wp2_with fail
      go_quiet (fail)
      go_wp2_with fail
      go_roundw
      case rel => exact ⟨k + 1, by omega, by go_num, hkept.drewN _⟩
      case measure => simp [RowKit.intOf]; omega
    · go_wp2_with fail
      go_ret
      exact ⟨rfl, hkept⟩
set_option maxRecDepth 100000 in
set_option maxHeartbeats 4000000 in
theorem qItems_any (v1 v2 : Value) (its : List ItemD) (w : World) (h1 : ItemsAt w v1 its) (h2 : ItemsAt w v2 its) :
    Calls Tryz.prog 19 #[v1, v2] w fun e w' => e = .returned (.bool true) ∧ Kept w w' := by
  obtain ⟨A, c, cs, rfl, hnc, hcm, hA⟩ := h1.out
  obtain ⟨A', c', cs', rfl, hnc', hcm', hA'⟩ := h2.out
  unfold maxLen at hcm hcm'
  have HA := Lib.hid hA
  have HA' := Lib.hid hA'
  clear hA h1 hA' h2
  have hne : ((its.length : Int) != (its.length : Int)) = false := by simp
  go_enter Tryz.func19, Tryz.ntmps19
  go_wp2_with fail
  go_loopw [13] (fun i wr => ∃ k : Nat, k ≤ its.length ∧ i = .int .i64 k ∧ Kept w wr) (fun i _ => its.length - (RowKit.intOf i).toNat)
  case atStart => exact ⟨0, Nat.zero_le _, rfl, Kept.refl _⟩
  case round =>
    obtain ⟨k, hk, rfl, hkept⟩ := hrel
    by_cases hlt : k < its.length
    · obtain ⟨b, o, A1, c1, A2, c2, it, rfl, hb, h2, h3, hit, q0, q1, q2⟩ := items_at (HA.out.kept hkept) hlt
      obtain ⟨b', o', A1', c1', A2', c2', it', rfl, hb', h2', h3', hit', q0', q1', q2'⟩ := items_at (HA'.out.kept hkept) hlt
      rw [h2] at h2'
      injection h2' with h2'
      subst h2'
      have S1 := Lib.hid ((HA.out.kept hkept).2.2 k _ _ _ h3 h2)
      have S2 := Lib.hid ((HA'.out.kept hkept).2.2 k _ _ _ h3' h2)
      have hlt' : (k : Int) < (its.length : Int) := by omega
      have hlate : (it.late != it.late) = false := by simp
      clear h2 h3 h3' hit hit'
      have Kd1 : Kept wr wr.drew := (Kept.refl _).drew
      have y0 := After.cell (W := wr.drew) ((Kd1.cell (p := ⟨b, o + k * 3, none⟩) hb).trans q0) hb
      have y1 := After.cell (W := wr.drew) ((Kd1.cell (p := ⟨b, o + k * 3 + 1, none⟩) hb).trans q1) hb
      have y2 := After.cell (W := wr.drew) ((Kd1.cell (p := ⟨b, o + k * 3 + 2, none⟩) hb).trans q2) hb
      have z0 := After.cell (W := wr.drew) ((Kd1.cell (p := ⟨b', o' + k * 3, none⟩) hb').trans q0') hb'
      have z1 := After.cell (W := wr.drew) ((Kd1.cell (p := ⟨b', o' + k * 3 + 1, none⟩) hb').trans q1') hb'
      have z2 := After.cell (W := wr.drew) ((Kd1.cell (p := ⟨b', o' + k * 3 + 2, none⟩) hb').trans q2') hb'
      have N1 := Lib.hid (S1.out.1.kept Kd1)
      have N2 := Lib.hid (S2.out.1.kept Kd1)
      have M1 := Lib.hid (S1.out.2.kept Kd1)
      have M2 := Lib.hid (S2.out.2.kept Kd1)
      clear q0 q1 q2 q0' q1' q2' S1 S2
      go_upto_region 6 with (fail)
      refine region_after (by kernel_rfl) (by kernel_rfl) ?_
      repeat (go_big_quiet_step ((first | (go_at_call 47; exact after_of (qWords_any _ _ it.names _ (N1.out.kept (After.kept _)) (N2.out.kept (After.kept _)))) | (go_at_call 48; exact after_of (qIntsQ_any _ _ it.marks _ (M1.out.kept (After.kept _)) (M2.out.kept (After.kept _)))))))
      refine wpQuiet_nil ?_
      intro wq hw'
      obtain ⟨⟨_, kq⟩, hw''⟩ := hw'
      subst hw''
      try dsimp only
      clear y0 y1 y2 z0 z1 z2
      go_wp2_with fail
      go_roundw
      case rel => exact ⟨k + 1, by omega, by go_num, (hkept.trans Kd1).trans kq⟩
      case measure => simp [RowKit.intOf]; omega
    · go_wp2_with fail
      go_ret
      exact ⟨rfl, hkept⟩
end Go.Proofs.YtkekpolfdmmgeaaGreat
