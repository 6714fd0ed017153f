/- Contracts of functions that the proof leans on. No condition. -/
import Derived.Test.YtapmlnpdjdneoaaM02c8a13228
/- Programmes: DropItem, the law. -/
namespace Go.Proofs.Ytapmlnpdjdneoaa
set_option linter.unusedVariables false
set_option linter.unusedSimpArgs false
open Go.RowKit

theorem lated_small {its : List ItemD} (h : its.all itemB = true) (hl : its.length ≤ 15) : itemsSize (lated its) ≤ 330 := by
  have h1 := items_size (lated_itemB h)
  rw [lated_length] at h1
  omega
theorem drV_size (x : CodeD) (its : List ItemD) (a : Int) : itemsSize (drV x its a) ≤ 330 := by
  refine onT_size (fun h => ?_)
  have hg : goodB x its = true := by
    unfold drB at h
    rw [Bool.and_eq_true] at h
    exact h.1
  have hi := (goodB_parts hg).2
  refine lated_small (without_all (all_of hi) _) ?_
  have h1 := without_len its a.toNat
  have h2 := (itemsB_true hi).1
  omega
set_option maxHeartbeats 4000000 in
theorem lawDropItem_any {w : World} {v0 : Value} {v1 : Value} (z0 : CodeD) (z1 : List ItemD) (a2 : Int) (h0 : CodeAt w v0 z0) (h1 : ItemsAt w v1 z1) (_ : (Lit.int .i64 a2).wf = true) :
    Calls Try.prog 4 #[v0, v1, .int .i64 a2] w fun e w' => e = .returned (.bool true) ∧ Kept w w' := by
  have H0 := Lib.hid h0
  obtain ⟨n0, m0, rfl, p0, q0⟩ := h0
  obtain ⟨A0, c0, rfl, _⟩ := p0.1.out
  obtain ⟨D0, d0, rfl, _⟩ := q0.out
  clear p0 q0
  have H1 := Lib.hid h1
  clear h1
  go_enter Try.func4, Try.ntmps4
  have K0 := Kept.refl w
  go_wp2_with fail
  obtain ⟨wb1, hwb1⟩ : ∃ w' : World, w' = w.alloc (.cells #[.slice A0 z0.elems.length c0, .slice D0 z0.limits.length d0, .int .i64 z0.repeats, .int .i64 z0.bonus, .int .i64 z0.keeps, .int .i64 z0.fall] 37) := ⟨_, rfl⟩
  rw [← hwb1]
  have KB0 : Kept w wb1 := hwb1 ▸ (Kept.refl w).alloc _
  have B0 : Box wb1 (w.heap.size) 37 #[.slice A0 z0.elems.length c0, .slice D0 z0.limits.length d0, .int .i64 z0.repeats, .int .i64 z0.bonus, .int .i64 z0.keeps, .int .i64 z0.fall] := hwb1 ▸ Box.new w (w.heap.size) 37 #[.slice A0 z0.elems.length c0, .slice D0 z0.limits.length d0, .int .i64 z0.repeats, .int .i64 z0.bonus, .int .i64 z0.keeps, .int .i64 z0.fall] rfl
  have szwb1 : wb1.heap.size = w.heap.size + 1 := by rw [hwb1]; simp
  clear hwb1
  have Kwb1 := K0.trans KB0
  refine (szCode_any _ z0 _ _ (H0.out.kept Kwb1) (by omega) (by omega)).mono ?_
  rintro e w1 ⟨rfl, k1⟩
  replace B0 := B0.kept k1
  have sz1 := k1.size
  have K1 := Kwb1.trans k1
  by_cases hbig0 : ((z0.size : Nat) : Int) ≤ 1048576
  case neg =>
    have e1 : lessOr 1048576 (z0.size) = -1 := by unfold lessOr; exact if_neg (by omega)
    rw [e1]
    go_wp2_with fail
    go_ret
    exact ⟨rfl, K1⟩
  have e1 : lessOr 1048576 (z0.size) = 1048576 - (z0.size : Int) := by unfold lessOr; exact if_pos (by omega)
  rw [e1]
  clear e1
  have hparts0 := code_parts z0
  obtain ⟨x0, y0⟩ := B0.six
  go_wp2_with fail
  clear x0 y0
  refine (szItemS_any _ z1 _ _ (H1.out.kept K1) (by omega) (by omega)).mono ?_
  rintro e w2 ⟨rfl, k2⟩
  replace B0 := B0.kept k2
  have sz2 := k2.size
  have K2 := K1.trans k2
  by_cases hbig1 : ((itemsSize z1 : Nat) : Int) ≤ (1048576 - (z0.size : Int))
  case neg =>
    have e1 : lessOr (1048576 - (z0.size : Int)) (itemsSize z1) = -1 := by unfold lessOr; exact if_neg (by omega)
    rw [e1]
    go_wp2_with fail
    go_ret
    exact ⟨rfl, K2⟩
  have e1 : lessOr (1048576 - (z0.size : Int)) (itemsSize z1) = (1048576 - (z0.size : Int)) - (itemsSize z1 : Int) := by unfold lessOr; exact if_pos (by omega)
  rw [e1]
  clear e1
  have hX := drV_size z0 z1 a2
  obtain ⟨x0, y0⟩ := B0.six
  go_wp2_with fail
  clear x0 y0
  refine (toCode_any _ z0 _ (H0.out.kept K2) (by omega) (by omega)).mono ?_
  rintro e w3 ⟨u3, rfl, o3, k3⟩
  replace B0 := B0.kept k3
  have sz3 := k3.size
  have K3 := K2.trans k3
  have R3 := Lib.hid o3.code
  clear o3
  obtain ⟨x0, y0⟩ := B0.six
  go_wp2_with fail
  clear x0 y0
  refine (toItemS_any _ z1 _ (H1.out.kept K3) (by omega)).mono ?_
  rintro e w4 ⟨u4, S4, rfl, o4, k4⟩
  replace B0 := B0.kept k4
  replace R3 := Lib.hid (R3.out.kept k4)
  have sz4 := k4.size
  have K4 := K3.trans k4
  have R4 := Lib.hid o4.items
  clear o4
  obtain ⟨x0, y0⟩ := B0.six
  go_wp2_with fail
  clear x0 y0
  refine (specDropItem_any _ _ z0 z1 _ _ R3.out R4.out).mono ?_
  rintro e w5 ⟨u5, S5, rfl, o5, k5⟩
  replace B0 := B0.kept k5
  replace R3 := Lib.hid (R3.out.kept k5)
  replace R4 := Lib.hid (R4.out.kept k5)
  have sz5 := k5.size
  have K5 := K4.trans k5
  clear R3
  clear R4
  have RS := Lib.hid o5.items
  clear o5
  have KS := Kept.refl w5
  obtain ⟨x0, y0⟩ := B0.six
  go_wp2_with fail
  clear x0 y0
  refine (toCode_any _ z0 _ (H0.out.kept K5) (by omega) (by omega)).mono ?_
  rintro e w6 ⟨u6, rfl, o6, k6⟩
  replace B0 := B0.kept k6
  replace KS := KS.trans k6
  have sz6 := k6.size
  have K6 := K5.trans k6
  obtain ⟨n6, m6, rfl, p6, q6, nd6⟩ := o6
  obtain ⟨A6, c6, rfl, _⟩ := own_form p6.1
  obtain ⟨D6, d6, rfl, _⟩ := own_form q6
  have o6 : OwnK w6 _ (.agg #[.slice A6 z0.elems.length c6, .slice D6 z0.limits.length d6, .int .i64 z0.repeats, .int .i64 z0.bonus, .int .i64 z0.keeps, .int .i64 z0.fall]) z0 := ⟨_, _, rfl, p6, q6, nd6⟩
  clear p6 q6 nd6
  have F6 := Lib.hid o6.fps
  have O6 := Lib.hid o6
  clear o6
  obtain ⟨x0, y0⟩ := B0.six
  have l0 := B0.lt
  go_wp2_with fail
  clear x0 y0 l0
  obtain ⟨wb2, hwb2⟩ : ∃ w' : World, w' = w6.alloc (.cells #[.slice A6 z0.elems.length c6, .slice D6 z0.limits.length d6, .int .i64 z0.repeats, .int .i64 z0.bonus, .int .i64 z0.keeps, .int .i64 z0.fall] 43) := ⟨_, rfl⟩
  rw [← hwb2]
  have KB6 : Kept w6 wb2 := hwb2 ▸ (Kept.refl w6).alloc _
  have B6 : Box wb2 (w6.heap.size) 43 #[.slice A6 z0.elems.length c6, .slice D6 z0.limits.length d6, .int .i64 z0.repeats, .int .i64 z0.bonus, .int .i64 z0.keeps, .int .i64 z0.fall] := hwb2 ▸ Box.new w6 (w6.heap.size) 43 #[.slice A6 z0.elems.length c6, .slice D6 z0.limits.length d6, .int .i64 z0.repeats, .int .i64 z0.bonus, .int .i64 z0.keeps, .int .i64 z0.fall] rfl
  have szwb2 : wb2.heap.size = w6.heap.size + 1 := by rw [hwb2]; simp
  clear hwb2
  replace B0 := B0.kept KB6
  replace O6 := Lib.hid (O6.out.kept KB6)
  replace KS := KS.trans KB6
  have Kwb2 := K6.trans KB6
  refine (toItemS_any _ z1 _ (H1.out.kept Kwb2) (by omega)).mono ?_
  rintro e w7 ⟨u7, S7, rfl, o7, k7⟩
  replace B0 := B0.kept k7
  replace B6 := B6.kept k7
  replace O6 := Lib.hid (O6.out.kept k7)
  replace KS := KS.trans k7
  have sz7 := k7.size
  have K7 := Kwb2.trans k7
  obtain ⟨cs7, oc7, rfl, hF7⟩ := o7.toC
  have O7 := Lib.hid oc7
  have F7 := Lib.hid hF7
  clear o7 oc7 hF7
  obtain ⟨x0, y0⟩ := B0.six
  obtain ⟨x6, y6⟩ := B6.six
  go_wp2_with fail
  clear x0 y0 x6 y6
  refine (implDropItem_any _ _ z0 z1 _ _ O6.out.code O7.out.items).mono ?_
  rintro e w8 ⟨u8, S8, rfl, o8, k8⟩
  replace B0 := B0.kept k8
  replace B6 := B6.kept k8
  replace O6 := Lib.hid (O6.out.kept k8)
  replace O7 := Lib.hid (O7.out.kept k8)
  replace KS := KS.trans k8
  have sz8 := k8.size
  have K8 := K7.trans k8
  obtain ⟨cs8, oc8, rfl, hF8⟩ := o8.toC
  have O8 := Lib.hid oc8
  have F8 := Lib.hid hF8
  clear o8 oc8 hF8
  obtain ⟨x0, y0⟩ := B0.six
  obtain ⟨x6, y6⟩ := B6.six
  go_wp2_with fail
  clear x0 y0 x6 y6
  refine (eqItemS_any _ _ (drV z0 z1 a2) _ O8.out.items (RS.out.kept KS)).mono ?_
  rintro e w9 ⟨rfl, k9⟩
  replace B0 := B0.kept k9
  replace B6 := B6.kept k9
  replace O6 := Lib.hid (O6.out.kept k9)
  replace O7 := Lib.hid (O7.out.kept k9)
  replace O8 := Lib.hid (O8.out.kept k9)
  replace KS := KS.trans k9
  have sz9 := k9.size
  have K9 := K8.trans k9
  obtain ⟨x0, y0⟩ := B0.six
  obtain ⟨x6, y6⟩ := B6.six
  go_wp2_with fail
  clear x0 y0 x6 y6
  have KDw9 : Kept w9 w9.drew := (Kept.refl _).drew
  replace B0 := B0.kept KDw9
  replace B6 := B6.kept KDw9
  replace O6 := Lib.hid (O6.out.kept KDw9)
  replace O7 := Lib.hid (O7.out.kept KDw9)
  replace O8 := Lib.hid (O8.out.kept KDw9)
  replace KS := KS.trans KDw9
  have KKw9 := K9.trans KDw9
  have szdw9 : w9.heap.size ≤ w9.drew.heap.size := KDw9.size
  go_region_held3 (fun w' => (w'.cell? ⟨w.heap.size, 0, none⟩ = some (.slice A0 z0.elems.length c0) ∧ w'.cell? ⟨w.heap.size, 1, none⟩ = some (.slice D0 z0.limits.length d0) ∧ w'.cell? ⟨w.heap.size, 2, none⟩ = some (.int .i64 z0.repeats) ∧ w'.cell? ⟨w.heap.size, 3, none⟩ = some (.int .i64 z0.bonus) ∧ w'.cell? ⟨w.heap.size, 4, none⟩ = some (.int .i64 z0.keeps) ∧ w'.cell? ⟨w.heap.size, 5, none⟩ = some (.int .i64 z0.fall)) ∧ (w'.cell? ⟨w6.heap.size, 0, none⟩ = some (.slice A6 z0.elems.length c6) ∧ w'.cell? ⟨w6.heap.size, 1, none⟩ = some (.slice D6 z0.limits.length d6) ∧ w'.cell? ⟨w6.heap.size, 2, none⟩ = some (.int .i64 z0.repeats) ∧ w'.cell? ⟨w6.heap.size, 3, none⟩ = some (.int .i64 z0.bonus) ∧ w'.cell? ⟨w6.heap.size, 4, none⟩ = some (.int .i64 z0.keeps) ∧ w'.cell? ⟨w6.heap.size, 5, none⟩ = some (.int .i64 z0.fall))) (first | exact ⟨B0.six.1, B6.six.1⟩ | exact ⟨(B0.kept (by assumption)).six.1, (B6.kept (by assumption)).six.1⟩)
    (first | (go_at_call 18; refine (toCode_any _ z0 _ (H0.out.kept KKw9) (by omega) (by omega)).mono ?_; rintro e w10 ⟨u10, rfl, o10, k10⟩) | (go_at_call 20; refine (eqCode_any _ _ z0 _ (O6.out.code.kept k10) o10.code).mono ?_; rintro e w11 ⟨rfl, k11⟩; have kk11 := k10.trans k11))
  clear o10
  replace B0 := B0.kept kk11
  replace B6 := B6.kept kk11
  replace O6 := Lib.hid (O6.out.kept kk11)
  replace O7 := Lib.hid (O7.out.kept kk11)
  replace O8 := Lib.hid (O8.out.kept kk11)
  replace KS := KS.trans kk11
  have sz11 := kk11.size
  have K11 := KKw9.trans kk11
  obtain ⟨x0, y0⟩ := B0.six
  obtain ⟨x6, y6⟩ := B6.six
  go_wp2_with fail
  clear x0 y0 x6 y6
  refine (toItemS_any _ z1 _ (H1.out.kept K11) (by omega)).mono ?_
  rintro e w12 ⟨u12, S12, rfl, o12, k12⟩
  replace B0 := B0.kept k12
  replace B6 := B6.kept k12
  replace O6 := Lib.hid (O6.out.kept k12)
  replace O7 := Lib.hid (O7.out.kept k12)
  replace O8 := Lib.hid (O8.out.kept k12)
  replace KS := KS.trans k12
  have sz12 := k12.size
  have K12 := K11.trans k12
  have R12 := Lib.hid o12.items
  clear o12
  obtain ⟨x0, y0⟩ := B0.six
  obtain ⟨x6, y6⟩ := B6.six
  go_wp2_with fail
  clear x0 y0 x6 y6
  refine (eqItemS_any _ _ (z1) _ O7.out.items R12.out).mono ?_
  rintro e w13 ⟨rfl, k13⟩
  replace B0 := B0.kept k13
  replace B6 := B6.kept k13
  replace R12 := Lib.hid (R12.out.kept k13)
  replace O6 := Lib.hid (O6.out.kept k13)
  replace O7 := Lib.hid (O7.out.kept k13)
  replace O8 := Lib.hid (O8.out.kept k13)
  replace KS := KS.trans k13
  have sz13 := k13.size
  have K13 := K12.trans k13
  clear R12
  have nb6 : (1) ≤ nextC (1) z0 ∧ nextC (1) z0 ≤ (1) + 5242880 := ⟨by unfold nextC; omega, by unfold nextC; omega⟩
  obtain ⟨x0, y0⟩ := B0.six
  obtain ⟨x6, y6⟩ := B6.six
  go_wp2_with fail
  clear x0 y0 x6 y6
  refine (markCode_any _ z0 _ _ _ O6.out (by omega) (by omega) (by omega) (by omega)).mono ?_
  rintro e w14 ⟨rfl, o14, on14⟩
  have sz14 := on14.size
  replace B0 := B0.only on14 (fun hb => by have := F6.out _ hb; omega)
  replace B6 := B6.only on14 (fun hb => by have := F6.out _ hb; omega)
  replace O7 := Lib.hid (O7.out.only on14 (fun b hb hb' => by have := F7.out b hb; have := F6.out b hb'; omega))
  replace O8 := Lib.hid (O8.out.only on14 (fun b hb hb' => by have := F8.out b hb; have := F6.out b hb'; omega))
  replace KS := on14.above KS (fun b hb => by have := F6.out b hb; omega)
  have K14 := on14.above K13 (fun b hb => by have := F6.out b hb; omega)
  replace O6 := Lib.hid o14
  clear o14 on14
  have nb7 := nk_bd (nextC (1) z0) z1
  obtain ⟨x0, y0⟩ := B0.six
  obtain ⟨x6, y6⟩ := B6.six
  go_wp2_with fail
  clear x0 y0 x6 y6
  refine (markItemS_any _ z1 cs7 _ _ _ O7.out (by omega) (by omega) (by omega)).mono ?_
  rintro e w15 ⟨rfl, o15, on15⟩
  have sz15 := on15.size
  replace B0 := B0.only on15 (fun hb => by have := F7.out _ hb; omega)
  replace B6 := B6.only on15 (fun hb => by have := F7.out _ hb; omega)
  replace O6 := Lib.hid (O6.out.only on15 (fun b hb hb' => by have := F6.out b hb; have := F7.out b hb'; omega))
  replace O8 := Lib.hid (O8.out.only on15 (fun b hb hb' => by have := F8.out b hb; have := F7.out b hb'; omega))
  replace KS := on15.above KS (fun b hb => by have := F7.out b hb; omega)
  have K15 := on15.above K14 (fun b hb => by have := F7.out b hb; omega)
  replace O7 := Lib.hid o15
  clear o15 on15
  obtain ⟨x0, y0⟩ := B0.six
  obtain ⟨x6, y6⟩ := B6.six
  go_wp2_with fail
  clear x0 y0 x6 y6
  refine (eqItemS_any _ _ (drV z0 z1 a2) _ O8.out.items (RS.out.kept KS)).mono ?_
  rintro e w16 ⟨rfl, k16⟩
  replace B0 := B0.kept k16
  replace B6 := B6.kept k16
  replace O6 := Lib.hid (O6.out.kept k16)
  replace O7 := Lib.hid (O7.out.kept k16)
  replace O8 := Lib.hid (O8.out.kept k16)
  replace KS := KS.trans k16
  have sz16 := k16.size
  have K16 := K15.trans k16
  have nbR := nk_bd 1 (drV z0 z1 a2)
  obtain ⟨x0, y0⟩ := B0.six
  obtain ⟨x6, y6⟩ := B6.six
  go_wp2_with fail
  clear x0 y0 x6 y6
  refine (markItemS_any _ (drV z0 z1 a2) cs8 _ _ _ O8.out (by omega) (by omega) (by omega)).mono ?_
  rintro e w17 ⟨rfl, o17, on17⟩
  have sz17 := on17.size
  replace B0 := B0.only on17 (fun hb => by have := F8.out _ hb; omega)
  replace B6 := B6.only on17 (fun hb => by have := F8.out _ hb; omega)
  replace O6 := Lib.hid (O6.out.only on17 (fun b hb hb' => by have := F6.out b hb; have := F8.out b hb'; omega))
  replace O7 := Lib.hid (O7.out.only on17 (fun b hb hb' => by have := F7.out b hb; have := F8.out b hb'; omega))
  replace KS := on17.above KS (fun b hb => by have := F8.out b hb; omega)
  have K17 := on17.above K16 (fun b hb => by have := F8.out b hb; omega)
  replace O8 := Lib.hid o17
  clear o17 on17
  obtain ⟨x0, y0⟩ := B0.six
  obtain ⟨x6, y6⟩ := B6.six
  go_wp2_with fail
  clear x0 y0 x6 y6
  refine (heldItemS_any _ (drV z0 z1 a2) _ _ O8.out.items (by omega) (by omega) (by omega)).mono ?_
  rintro e w18 ⟨rfl, k18⟩
  replace B0 := B0.kept k18
  replace B6 := B6.kept k18
  replace O6 := Lib.hid (O6.out.kept k18)
  replace O7 := Lib.hid (O7.out.kept k18)
  replace O8 := Lib.hid (O8.out.kept k18)
  replace KS := KS.trans k18
  have sz18 := k18.size
  have K18 := K17.trans k18
  obtain ⟨x0, y0⟩ := B0.six
  obtain ⟨x6, y6⟩ := B6.six
  go_wp2_with fail
  clear x0 y0 x6 y6
  refine (toCode_any _ z0 _ (H0.out.kept K18) (by omega) (by omega)).mono ?_
  rintro e w19 ⟨u19, rfl, o19, k19⟩
  replace B0 := B0.kept k19
  replace B6 := B6.kept k19
  replace O6 := Lib.hid (O6.out.kept k19)
  replace O7 := Lib.hid (O7.out.kept k19)
  replace O8 := Lib.hid (O8.out.kept k19)
  replace KS := KS.trans k19
  have sz19 := k19.size
  have K19 := K18.trans k19
  have R19 := Lib.hid o19.code
  clear o19
  obtain ⟨x0, y0⟩ := B0.six
  obtain ⟨x6, y6⟩ := B6.six
  go_wp2_with fail
  clear x0 y0 x6 y6
  refine (toItemS_any _ z1 _ (H1.out.kept K19) (by omega)).mono ?_
  rintro e w20 ⟨u20, S20, rfl, o20, k20⟩
  replace B0 := B0.kept k20
  replace B6 := B6.kept k20
  replace R19 := Lib.hid (R19.out.kept k20)
  replace O6 := Lib.hid (O6.out.kept k20)
  replace O7 := Lib.hid (O7.out.kept k20)
  replace O8 := Lib.hid (O8.out.kept k20)
  replace KS := KS.trans k20
  have sz20 := k20.size
  have K20 := K19.trans k20
  have R20 := Lib.hid o20.items
  clear o20
  obtain ⟨x0, y0⟩ := B0.six
  obtain ⟨x6, y6⟩ := B6.six
  go_wp2_with fail
  clear x0 y0 x6 y6
  refine (implDropItem_any _ _ z0 z1 _ _ R19.out R20.out).mono ?_
  rintro e w21 ⟨u21, S21, rfl, o21, k21⟩
  replace B0 := B0.kept k21
  replace B6 := B6.kept k21
  replace R19 := Lib.hid (R19.out.kept k21)
  replace R20 := Lib.hid (R20.out.kept k21)
  replace O6 := Lib.hid (O6.out.kept k21)
  replace O7 := Lib.hid (O7.out.kept k21)
  replace O8 := Lib.hid (O8.out.kept k21)
  replace KS := KS.trans k21
  have sz21 := k21.size
  have K21 := K20.trans k21
  clear R19
  clear R20
  have RH := Lib.hid o21.items
  clear o21
  obtain ⟨x0, y0⟩ := B0.six
  obtain ⟨x6, y6⟩ := B6.six
  go_wp2_with fail
  clear x0 y0 x6 y6
  refine (eqItemS_any _ _ (drV z0 z1 a2) _ RH.out (RS.out.kept KS)).mono ?_
  rintro e w22 ⟨rfl, k22⟩
  replace B0 := B0.kept k22
  replace B6 := B6.kept k22
  replace RH := Lib.hid (RH.out.kept k22)
  replace O6 := Lib.hid (O6.out.kept k22)
  replace O7 := Lib.hid (O7.out.kept k22)
  replace O8 := Lib.hid (O8.out.kept k22)
  replace KS := KS.trans k22
  have sz22 := k22.size
  have K22 := K21.trans k22
  obtain ⟨x0, y0⟩ := B0.six
  obtain ⟨x6, y6⟩ := B6.six
  go_wp2_with fail
  clear x0 y0 x6 y6
  refine (heldItemS_any _ (drV z0 z1 a2) _ _ O8.out.items (by omega) (by omega) (by omega)).mono ?_
  rintro e w23 ⟨rfl, k23⟩
  replace B0 := B0.kept k23
  replace B6 := B6.kept k23
  replace RH := Lib.hid (RH.out.kept k23)
  replace O6 := Lib.hid (O6.out.kept k23)
  replace O7 := Lib.hid (O7.out.kept k23)
  replace O8 := Lib.hid (O8.out.kept k23)
  replace KS := KS.trans k23
  have sz23 := k23.size
  have K23 := K22.trans k23
  go_wp2_with fail
  go_ret
  exact ⟨rfl, K23⟩
end Go.Proofs.Ytapmlnpdjdneoaa

/- Programmes: InsertItem, MoveItem. -/
namespace Go.Proofs.Ytapmlnpdjdneoaa
set_option linter.unusedVariables false
set_option linter.unusedSimpArgs false
open Go.RowKit

def insertV {α : Type} (l : List α) (k : Nat) (y : α) : List α := l.take k ++ y :: l.drop k
theorem itsP_insert (ps : List Pr) (k : Nat) (y : Pr) : itsP (insertV ps k y) = insertV (itsP ps) k y.2 := by simp [itsP, insertV]
theorem insert_all {p : ItemD → Bool} {its : List ItemD} {it : ItemD} (h : its.all p = true) (hi : p it = true) (k : Nat) : (insertV its k it).all p = true := by
  unfold insertV
  rw [List.all_append, List.all_cons, hi, Bool.true_and, Bool.and_eq_true]
  exact ⟨List.all_eq_true.2 (fun x hx => List.all_eq_true.1 h x (List.mem_of_mem_take hx)), List.all_eq_true.2 (fun x hx => List.all_eq_true.1 h x (List.mem_of_mem_drop hx))⟩
theorem insert_len {α : Type} (l : List α) (k : Nat) (y : α) : (insertV l k y).length ≤ l.length + 1 := by
  unfold insertV
  rw [List.length_append, List.length_cons, List.length_take, List.length_drop]
  omega
theorem GoodP.insert {w : World} {ps : List Pr} {y : Pr} (h : GoodP w ps) (hy : Strs w y.1.1 y.2.names ∧ Ints w y.1.2 y.2.marks) (k : Nat) : GoodP w (insertV ps k y) := by
  intro p hp
  rcases List.mem_append.1 hp with hp | hp
  · exact h p (List.mem_of_mem_take hp)
  · rcases List.mem_cons.1 hp with rfl | hp
    · exact hy
    · exact h p (List.mem_of_mem_drop hp)
theorem srcP_one {w : World} {g : Nat} {y : Pr} (hB : Box w g 52 #[y.1.1, y.1.2, .bool y.2.late]) : SrcP w (.slice (some ⟨g, 0, none⟩) 1 1) [y] := by
  refine ⟨_, 1, rfl, Nat.le_refl _, by decide, (fun h => by cases h), fun _ => ⟨g, 0, rfl, hB.lt, fun j u hu => ?_⟩⟩
  rw [Nat.zero_add, hB.cell j, ← hu]
  have e : [y].flatMap row3 = [y.1.1, y.1.2, .bool y.2.late] := rfl
  rw [e]
  exact List.getElem?_toArray (xs := [y.1.1, y.1.2, Value.bool y.2.late]) (i := j)
theorem goodP_one {w : World} {y : Pr} (hy : Strs w y.1.1 y.2.names ∧ Ints w y.1.2 y.2.marks) : GoodP w [y] := fun p hp => by rw [List.mem_singleton] at hp; subst hp; exact hy
set_option maxRecDepth 100000 in
theorem step_append_P2 (a0 w : World) {ops : Array Oper} {o : Oper} {a : Act} {K : Act → World → Prop} {Q : Exit → Act → World → Prop} {E : Prop} (hgd : o.guard = none) (s x : Operand)
    (ho : o.op = .call { callee := .builtin .append, args := #[s, x], argTypes := #[27, 27] })
    (v : Value) (ps : List Pr) (hs : a.eval s = v) (hown : RowP w a0.heap.size v ps) (hk : Kept a0 w) (u : Value) (qs : List Pr) (hx : a.eval x = u) (hr : SrcP w u qs) (hg : GoodP w qs)
    (hl : ps.length + qs.length ≤ 1000000)
    (h : ∀ v' w', RowP w' a0.heap.size v' (ps ++ qs) → Kept a0 w' → Only (fp v) w w' → (∀ b ∈ fp v', b ∈ fp v ∨ b = w.heap.size) → K (a.put o.dst v') w') :
    if Region.wanted o (yielded ops a.tmps) = true then Oper.wp Try.prog o a w K Q else E := by
  have hw : Region.wanted o (yielded ops a.tmps) = true := by simp [Region.wanted, hgd]
  rw [if_pos hw]
  obtain ⟨i0, hi, hz0, hz1, hz2⟩ := info_parts info_item
  obtain ⟨v', w', hrun, h2, h3, h4⟩ := run_append_locT (P := Try.prog) w a0.heap.size 27 o.type 52 i0 _ 3 56 Try.underlying27 hi hz0 hz1 hz2 rfl (by omega) v ps.length _ hown u qs.length (qs.flatMap row3) hr (flat_length row3 3 (fun _ => rfl) qs) hg.one (by unfold maxLen; omega) (by omega) hk.size
  have hon := only_of_grown h3
  unfold Oper.wp execOp
  simp only [ho, resolve, invoke, builtin, Sem.run_bind, Sem.run_pure, Result.andThen_ok, List.map_toArray, List.map_cons, List.map_nil, hs, hx, hrun]
  refine h v' w' ?_ (hon.above hk (fun b hb => (own_fp hown b hb).1)) hon (fun b hb => ?_)
  · unfold RowP
    rw [List.length_append, List.flatMap_append]
    exact h2
  · have hb' : v'.ownBlock = some b := by simpa [fp] using hb
    rcases h4 with h4 | h4
    · left; rw [h4] at hb'; simpa [fp] using hb'
    · right; rw [h4] at hb'; injection hb' with hb'; exact hb'.symm
theorem RowP.some {w : World} {base : Nat} {v : Value} {ps : List Pr} (h : RowP w base v ps) (hv : v.ownBlock ≠ Option.none) : ∃ g c, v = .slice (Option.some ⟨g, 0, Option.none⟩) ps.length c := by
  rcases h.2 with ⟨rfl, _⟩ | ⟨g, cap, cur, rfl, _⟩
  · exact absurd rfl hv
  · exact ⟨g, cap, rfl⟩
set_option maxRecDepth 100000 in
theorem wpList_append_P (a0 w : World) {ops : Array Oper} {rest : List Oper} {o : Oper} {a : Act} {Q : Exit → Act → World → Prop} (hgd : o.guard = none) (s x : Operand)
    (ho : o.op = .call { callee := .builtin .append, args := #[s, x], argTypes := #[27, 27] })
    (v : Value) (ps : List Pr) (hs : a.eval s = v) (hown : RowP w a0.heap.size v ps) (hk : Kept a0 w) (u : Value) (qs : List Pr) (hx : a.eval x = u) (hr : SrcP w u qs) (hg : GoodP w qs)
    (hl : ps.length + qs.length ≤ 1000000)
    (h : ∀ v' w', RowP w' a0.heap.size v' (ps ++ qs) → Kept a0 w' → (v.ownBlock ≠ none → v'.ownBlock ≠ none) → wpList Try.prog ops Q rest (a.put o.dst v') w') : wpList Try.prog ops Q (o :: rest) a w := by
  refine wpList_plain hgd fun K hK => ?_
  obtain ⟨i0, hi, hz0, hz1, hz2⟩ := info_parts info_item
  obtain ⟨v', w', hrun, h2, h3, h4⟩ := run_append_locT (P := Try.prog) w a0.heap.size 27 o.type 52 i0 _ 3 56 Try.underlying27 hi hz0 hz1 hz2 rfl (by omega) v ps.length _ hown u qs.length (qs.flatMap row3) hr (flat_length row3 3 (fun _ => rfl) qs) hg.one (by unfold maxLen; omega) (by omega) hk.size
  have hon := only_of_grown h3
  unfold Oper.wp execOp
  simp only [ho, resolve, invoke, builtin, Sem.run_bind, Sem.run_pure, Result.andThen_ok, List.map_toArray, List.map_cons, List.map_nil, hs, hx, hrun]
  refine hK _ _ (h v' w' ?_ (hon.above hk (fun b hb => (own_fp hown b hb).1)) (fun hv => ?_))
  · unfold RowP
    rw [List.length_append, List.flatMap_append]
    exact h2
  · rcases h4 with h4 | h4
    · rw [h4]; exact hv
    · rw [h4]; simp
def inOk (x : CodeD) (its : List ItemD) (a : Int) (it : ItemD) : Bool := goodB x its && (itemB it && (inB a 0 (its.length : Int) && ifB x (insertV its a.toNat it)))
def inV (x : CodeD) (its : List ItemD) (a : Int) (it : ItemD) : List ItemD := onT (inOk x its a it) (lated (insertV its a.toNat it))
theorem goodB_some {x : CodeD} {its : List ItemD} (h : goodB x its = true) : 0 < its.length := by
  unfold goodB at h
  rw [Bool.and_eq_true] at h
  rcases Nat.eq_zero_or_pos its.length with h0 | h0
  · exfalso
    obtain rfl : its = [] := List.eq_nil_of_length_eq_zero h0
    have hm : (1 : Int) ∈ brokenV x [] 8 := List.mem_filter.2 ⟨List.mem_map.2 ⟨0, by simp, rfl⟩, rfl⟩
    have e := List.isEmpty_iff.1 h.2
    rw [e] at hm
    cases hm
  · exact h0
set_option maxRecDepth 100000 in
set_option maxHeartbeats 8000000 in
theorem pgInsert_form (b o c : Nat) (vi : Value) (ps : List Pr) (k : Nat) (it : ItemD) (w : World) (h : SrcP w (.slice (some ⟨b, o, none⟩) ps.length c) ps) (hg : GoodP w ps) (hi : ItemAt w vi it) (hk : k ≤ ps.length) (hl : ps.length ≤ 1000) :
    Calls Try.prog 55 #[.slice (some ⟨b, o, none⟩) ps.length c, .int .i64 (k : Int), vi] w fun e w' => ∃ v' y, e = .returned v' ∧ RowP w' w.heap.size v' (insertV ps k y) ∧ y.2 = it ∧ (Strs w y.1.1 y.2.names ∧ Ints w y.1.2 y.2.marks) ∧ Kept w w' := by
  obtain ⟨nv, mv, rfl, p1, p2⟩ := hi
  obtain ⟨Aq, cq, rfl, _⟩ := p1.1.out
  obtain ⟨Dq, dq, rfl, _⟩ := p2.out
  obtain ⟨y, hy⟩ : ∃ y : Pr, y = ((.slice Aq it.names.length cq, .slice Dq it.marks.length dq), it) := ⟨_, rfl⟩
  have HYG : Hid (Strs w y.1.1 y.2.names ∧ Ints w y.1.2 y.2.marks) := Lib.hid (by subst hy; exact ⟨p1, p2⟩)
  have HY2 : Hid (y.2 = it) := Lib.hid (by subst hy; rfl)
  have HYB : Hid (∀ (W : World) (g : Nat), Box W g 52 #[.slice Aq it.names.length cq, .slice Dq it.marks.length dq, .bool it.late] → SrcP W (.slice (some ⟨g, 0, none⟩) 1 1) [y]) := Lib.hid (fun W g hb => srcP_one (by subst hy; exact hb))
  clear hy p1 p2
  have H := Lib.hid h
  have HG := Lib.hid hg
  obtain ⟨A', c', e, hnc, hcm, _⟩ := h.out
  injection e with e1 e2 e3
  subst e3
  clear e1 e2
  have HTO := Lib.hid (srcP_to H.out rfl (i := k) (by omega))
  have h1 : (k : Int) ≤ (c : Int) := by omega
  have h3 : (k : Int) ≤ (ps.length : Int) := by omega
  have h5 : (ps.length : Int) ≤ (c : Int) := by omega
  have h6 : k ≤ c := by omega
  have hlt : (ps.take k ++ [y]).length + (ps.drop k).length ≤ 1000000 := by rw [List.length_append, List.length_take, List.length_drop]; simp; omega
  have HLT := Lib.hid hlt
  have htl : (ps.take k).length ≤ 1000 := by rw [List.length_take]; omega
  have HIN : Hid ((ps.take k ++ [y]) ++ ps.drop k = insertV ps k y) := Lib.hid (by simp [insertV])
  clear h hg hlt
  unfold maxLen at hcm
  obtain ⟨X3, hX3⟩ : ∃ u : Value, u = (if c = k then .slice (some ⟨b, o, none⟩) 0 0 else .slice (some ⟨b, o + k * 3, none⟩) (ps.length - k) (c - k)) := ⟨_, rfl⟩
  have HFR : Hid (SrcP w X3 (ps.drop k)) := Lib.hid (by
    rw [hX3]
    by_cases hc : c = k
    · rw [if_pos hc]; exact srcP_none (by omega)
    · rw [if_neg hc]; exact srcP_from H.out rfl hk)
  have HX3 := Lib.hid hX3
  clear hX3
  by_cases hcap : c = k
  · subst hcap
    have h9 : ps.length = c := by omega
    have H9 := Lib.hid h9
    clear h9
    go_enter Try.func55, Try.ntmps55
    go_wp2_with fail
    have B0 := Box.new w w.heap.size 52 #[.slice Aq it.names.length cq, .slice Dq it.marks.length dq, .bool it.late] rfl
    have K0 : Kept w (w.alloc (.cells #[.slice Aq it.names.length cq, .slice Dq it.marks.length dq, .bool it.late] 52)) := (Kept.refl w).alloc _
    generalize w.alloc (.cells #[.slice Aq it.names.length cq, .slice Dq it.marks.length dq, .bool it.late] 52) = W at *
    have bA : Box (W.alloc (.cells #[] 52)).drew W.heap.size 52 #[] := Box.new W _ _ _ rfl
    have bB : Box ((W.alloc (.cells #[] 52)).alloc (.cells #[.slice Aq it.names.length cq, .slice Dq it.marks.length dq, .bool it.late] 52)).drew W.heap.size 52 #[] := (Box.new W W.heap.size _ _ rfl).alloc _
    have bC : Box ((W.alloc (.cells #[.slice Aq it.names.length cq, .slice Dq it.marks.length dq, .bool it.late] 52)).alloc (.cells #[] 52)).drew (W.heap.size + 1) 52 #[] := Box.new (W.alloc (.cells #[.slice Aq it.names.length cq, .slice Dq it.marks.length dq, .bool it.late] 52)) _ _ _ (by simp)
    have vB : Box ((W.alloc (.cells #[] 52)).alloc (.cells #[.slice Aq it.names.length cq, .slice Dq it.marks.length dq, .bool it.late] 52)).drew (W.heap.size + 1) 52 #[.slice Aq it.names.length cq, .slice Dq it.marks.length dq, .bool it.late] := Box.new (W.alloc (.cells #[] 52)) _ _ _ (by simp)
    have vC : Box ((W.alloc (.cells #[.slice Aq it.names.length cq, .slice Dq it.marks.length dq, .bool it.late] 52)).alloc (.cells #[] 52)).drew W.heap.size 52 #[.slice Aq it.names.length cq, .slice Dq it.marks.length dq, .bool it.late] := (Box.new W W.heap.size _ _ rfl).alloc _
    have kA : Kept W (W.alloc (.cells #[] 52)).drew := ((Kept.refl W).alloc _).drew
    have kB : Kept W ((W.alloc (.cells #[] 52)).alloc (.cells #[.slice Aq it.names.length cq, .slice Dq it.marks.length dq, .bool it.late] 52)).drew := (((Kept.refl W).alloc _).alloc _).drew
    have kC : Kept W ((W.alloc (.cells #[.slice Aq it.names.length cq, .slice Dq it.marks.length dq, .bool it.late] 52)).alloc (.cells #[] 52)).drew := (((Kept.refl W).alloc _).alloc _).drew
    have kD : Kept W W.drew := (Kept.refl W).drew
    have kE : Kept W (W.alloc (.cells #[.slice Aq it.names.length cq, .slice Dq it.marks.length dq, .bool it.late] 52)).drew := ((Kept.refl W).alloc _).drew
    go_region_held3 (fun w' => w'.cell? ⟨w.heap.size, 0, none⟩ = some (.slice Aq it.names.length cq) ∧ w'.cell? ⟨w.heap.size, 1, none⟩ = some (.slice Dq it.marks.length dq) ∧ w'.cell? ⟨w.heap.size, 2, none⟩ = some (.bool it.late)) (first | (with_reducible exact (B0.kept kD).three.1) | (with_reducible exact (B0.kept kA).three.1) | (with_reducible exact (B0.kept kB).three.1) | (with_reducible exact (B0.kept kC).three.1) | (with_reducible exact (B0.kept kE).three.1) | (with_reducible exact (B0.kept (by assumption)).three.1) | (with_reducible exact (B0.kept (Kept.alloc (by assumption) _)).three.1)) (first | (refine step_append_P W _ rfl (.tmp 7) (.tmp 10) rfl (.slice (some ⟨W.heap.size, 0, none⟩) 0 0) [] rfl (RowP.nil0 _ _ (by first | exact Nat.le_refl _ | omega) bA) kA _ (ps.take c) rfl (HTO.out.kept (K0.trans kA)) ((HG.out.take c).kept (K0.trans kA)) (by simp; omega) ?_; intro v1 w1 o1 k1 on1; rw [List.nil_append] at o1) | (refine step_append_P W _ rfl (.tmp 7) (.tmp 10) rfl (.slice (some ⟨W.heap.size, 0, none⟩) 0 0) [] rfl (RowP.nil0 _ _ (by first | exact Nat.le_refl _ | omega) bB) kB _ (ps.take c) rfl (HTO.out.kept (K0.trans kB)) ((HG.out.take c).kept (K0.trans kB)) (by simp; omega) ?_; intro v1 w1 o1 k1 on1; rw [List.nil_append] at o1; have hv2 := HYB.out _ _ (vB.only on1 (by simp [fp_some]))) | (refine step_append_P W _ rfl (.tmp 7) (.tmp 10) rfl (.slice (some ⟨W.heap.size + 1, 0, none⟩) 0 0) [] rfl (RowP.nil0 _ _ (by first | exact Nat.le_refl _ | omega) bC) kC _ (ps.take c) rfl (HTO.out.kept (K0.trans kC)) ((HG.out.take c).kept (K0.trans kC)) (by simp; omega) ?_; intro v1 w1 o1 k1 on1; rw [List.nil_append] at o1; have hv2 := HYB.out _ _ (vC.only on1 (by simp [fp_some]))) | (refine step_append_P W _ rfl (.tmp 11) (.tmp 13) rfl _ (ps.take c) rfl o1 k1 _ [y] rfl hv2 (goodP_one ⟨HYG.out.1.kept (K0.trans k1), HYG.out.2.kept (K0.trans k1)⟩) (by simp; omega) ?_; intro v2 w2 o2 k2 on2) | (refine step_append_P W _ rfl (.tmp 11) (.tmp 13) rfl _ (ps.take c) rfl (o1.kept ((Kept.refl w1).alloc (.cells #[.slice Aq it.names.length cq, .slice Dq it.marks.length dq, .bool it.late] 52))) (k1.alloc (.cells #[.slice Aq it.names.length cq, .slice Dq it.marks.length dq, .bool it.late] 52)) _ [y] rfl (HYB.out _ _ (Box.new w1 _ _ _ rfl)) (goodP_one ⟨HYG.out.1.kept (K0.trans (k1.alloc (.cells #[.slice Aq it.names.length cq, .slice Dq it.marks.length dq, .bool it.late] 52))), HYG.out.2.kept (K0.trans (k1.alloc (.cells #[.slice Aq it.names.length cq, .slice Dq it.marks.length dq, .bool it.late] 52)))⟩) (by simp; omega) ?_; intro v2 w2 o2 k2 on2) | (refine step_append_P W _ rfl (.tmp 14) (.tmp 17) rfl _ (ps.take c ++ [y]) rfl o2 k2 _ (ps.drop c) (by first | (rw [HX3.out]; simp [Act.eval, Act.put, H9.out]) | rfl) (HFR.out.kept (K0.trans k2)) ((HG.out.drop c).kept (K0.trans k2)) HLT.out ?_; intro v3 w3 o3 k3 on3))
    all_goals
      go_wp2_with fail
      go_ret
      exact ⟨_, y, rfl, (HIN.out ▸ o3 : RowP w3 W.heap.size v3 (insertV ps c y)).base K0.size, HY2.out, HYG.out, K0.trans k3⟩
  · have hc2 : ¬ c = k := hcap
    have hc3 : (c == k) = false := beq_eq_false_iff_ne.2 hcap
    go_enter Try.func55, Try.ntmps55
    go_wp2_with fail
    have B0 := Box.new w w.heap.size 52 #[.slice Aq it.names.length cq, .slice Dq it.marks.length dq, .bool it.late] rfl
    have K0 : Kept w (w.alloc (.cells #[.slice Aq it.names.length cq, .slice Dq it.marks.length dq, .bool it.late] 52)) := (Kept.refl w).alloc _
    generalize w.alloc (.cells #[.slice Aq it.names.length cq, .slice Dq it.marks.length dq, .bool it.late] 52) = W at *
    have bA : Box (W.alloc (.cells #[] 52)).drew W.heap.size 52 #[] := Box.new W _ _ _ rfl
    have bB : Box ((W.alloc (.cells #[] 52)).alloc (.cells #[.slice Aq it.names.length cq, .slice Dq it.marks.length dq, .bool it.late] 52)).drew W.heap.size 52 #[] := (Box.new W W.heap.size _ _ rfl).alloc _
    have bC : Box ((W.alloc (.cells #[.slice Aq it.names.length cq, .slice Dq it.marks.length dq, .bool it.late] 52)).alloc (.cells #[] 52)).drew (W.heap.size + 1) 52 #[] := Box.new (W.alloc (.cells #[.slice Aq it.names.length cq, .slice Dq it.marks.length dq, .bool it.late] 52)) _ _ _ (by simp)
    have vB : Box ((W.alloc (.cells #[] 52)).alloc (.cells #[.slice Aq it.names.length cq, .slice Dq it.marks.length dq, .bool it.late] 52)).drew (W.heap.size + 1) 52 #[.slice Aq it.names.length cq, .slice Dq it.marks.length dq, .bool it.late] := Box.new (W.alloc (.cells #[] 52)) _ _ _ (by simp)
    have vC : Box ((W.alloc (.cells #[.slice Aq it.names.length cq, .slice Dq it.marks.length dq, .bool it.late] 52)).alloc (.cells #[] 52)).drew W.heap.size 52 #[.slice Aq it.names.length cq, .slice Dq it.marks.length dq, .bool it.late] := (Box.new W W.heap.size _ _ rfl).alloc _
    have kA : Kept W (W.alloc (.cells #[] 52)).drew := ((Kept.refl W).alloc _).drew
    have kB : Kept W ((W.alloc (.cells #[] 52)).alloc (.cells #[.slice Aq it.names.length cq, .slice Dq it.marks.length dq, .bool it.late] 52)).drew := (((Kept.refl W).alloc _).alloc _).drew
    have kC : Kept W ((W.alloc (.cells #[.slice Aq it.names.length cq, .slice Dq it.marks.length dq, .bool it.late] 52)).alloc (.cells #[] 52)).drew := (((Kept.refl W).alloc _).alloc _).drew
    have kD : Kept W W.drew := (Kept.refl W).drew
    have kE : Kept W (W.alloc (.cells #[.slice Aq it.names.length cq, .slice Dq it.marks.length dq, .bool it.late] 52)).drew := ((Kept.refl W).alloc _).drew
    go_region_held3 (fun w' => w'.cell? ⟨w.heap.size, 0, none⟩ = some (.slice Aq it.names.length cq) ∧ w'.cell? ⟨w.heap.size, 1, none⟩ = some (.slice Dq it.marks.length dq) ∧ w'.cell? ⟨w.heap.size, 2, none⟩ = some (.bool it.late)) (first | (with_reducible exact (B0.kept kD).three.1) | (with_reducible exact (B0.kept kA).three.1) | (with_reducible exact (B0.kept kB).three.1) | (with_reducible exact (B0.kept kC).three.1) | (with_reducible exact (B0.kept kE).three.1) | (with_reducible exact (B0.kept (by assumption)).three.1) | (with_reducible exact (B0.kept (Kept.alloc (by assumption) _)).three.1)) (first | (refine step_append_P W _ rfl (.tmp 7) (.tmp 10) rfl (.slice (some ⟨W.heap.size, 0, none⟩) 0 0) [] rfl (RowP.nil0 _ _ (by first | exact Nat.le_refl _ | omega) bA) kA _ (ps.take k) rfl (HTO.out.kept (K0.trans kA)) ((HG.out.take k).kept (K0.trans kA)) (by simp; omega) ?_; intro v1 w1 o1 k1 on1; rw [List.nil_append] at o1) | (refine step_append_P W _ rfl (.tmp 7) (.tmp 10) rfl (.slice (some ⟨W.heap.size, 0, none⟩) 0 0) [] rfl (RowP.nil0 _ _ (by first | exact Nat.le_refl _ | omega) bB) kB _ (ps.take k) rfl (HTO.out.kept (K0.trans kB)) ((HG.out.take k).kept (K0.trans kB)) (by simp; omega) ?_; intro v1 w1 o1 k1 on1; rw [List.nil_append] at o1; have hv2 := HYB.out _ _ (vB.only on1 (by simp [fp_some]))) | (refine step_append_P W _ rfl (.tmp 7) (.tmp 10) rfl (.slice (some ⟨W.heap.size + 1, 0, none⟩) 0 0) [] rfl (RowP.nil0 _ _ (by first | exact Nat.le_refl _ | omega) bC) kC _ (ps.take k) rfl (HTO.out.kept (K0.trans kC)) ((HG.out.take k).kept (K0.trans kC)) (by simp; omega) ?_; intro v1 w1 o1 k1 on1; rw [List.nil_append] at o1; have hv2 := HYB.out _ _ (vC.only on1 (by simp [fp_some]))) | (refine step_append_P W _ rfl (.tmp 11) (.tmp 13) rfl _ (ps.take k) rfl o1 k1 _ [y] rfl hv2 (goodP_one ⟨HYG.out.1.kept (K0.trans k1), HYG.out.2.kept (K0.trans k1)⟩) (by simp; omega) ?_; intro v2 w2 o2 k2 on2) | (refine step_append_P W _ rfl (.tmp 11) (.tmp 13) rfl _ (ps.take k) rfl (o1.kept ((Kept.refl w1).alloc (.cells #[.slice Aq it.names.length cq, .slice Dq it.marks.length dq, .bool it.late] 52))) (k1.alloc (.cells #[.slice Aq it.names.length cq, .slice Dq it.marks.length dq, .bool it.late] 52)) _ [y] rfl (HYB.out _ _ (Box.new w1 _ _ _ rfl)) (goodP_one ⟨HYG.out.1.kept (K0.trans (k1.alloc (.cells #[.slice Aq it.names.length cq, .slice Dq it.marks.length dq, .bool it.late] 52))), HYG.out.2.kept (K0.trans (k1.alloc (.cells #[.slice Aq it.names.length cq, .slice Dq it.marks.length dq, .bool it.late] 52)))⟩) (by simp; omega) ?_; intro v2 w2 o2 k2 on2) | (refine step_append_P W _ rfl (.tmp 14) (.tmp 17) rfl _ (ps.take k ++ [y]) rfl o2 k2 _ (ps.drop k) (by rw [HX3.out, if_neg hcap]; rfl) (HFR.out.kept (K0.trans k2)) ((HG.out.drop k).kept (K0.trans k2)) HLT.out ?_; intro v3 w3 o3 k3 on3))
    all_goals
      go_wp2_with fail
      go_ret
      exact ⟨_, y, rfl, (HIN.out ▸ o3 : RowP w3 W.heap.size v3 (insertV ps k y)).base K0.size, HY2.out, HYG.out, K0.trans k3⟩
set_option maxHeartbeats 1000000 in
theorem pgInsert_any (v vi : Value) (ps : List Pr) (k : Nat) (it : ItemD) (w : World) (h : SrcP w v ps) (hg : GoodP w ps) (hi : ItemAt w vi it) (h0 : 0 < ps.length) (hk : k ≤ ps.length) (hl : ps.length ≤ 1000) :
    Calls Try.prog 55 #[v, .int .i64 (k : Int), vi] w fun e w' => ∃ v' y, e = .returned v' ∧ RowP w' w.heap.size v' (insertV ps k y) ∧ y.2 = it ∧ (Strs w y.1.1 y.2.names ∧ Ints w y.1.2 y.2.marks) ∧ Kept w w' := by
  obtain ⟨A, c, rfl, hnc, hcm, hA⟩ := h.out
  obtain ⟨b, o, rfl, hb, _⟩ := hA (by omega)
  exact pgInsert_form b o c vi ps k it w h hg hi hk hl
end Go.Proofs.Ytapmlnpdjdneoaa

/- Programmes: InsertItem. -/
namespace Go.Proofs.Ytapmlnpdjdneoaa
set_option linter.unusedVariables false
set_option linter.unusedSimpArgs false
open Go.RowKit

theorem inV_size (x : CodeD) (its : List ItemD) (a : Int) (it : ItemD) : itemsSize (inV x its a it) ≤ 330 := by
  refine onT_size (fun h => ?_)
  unfold inOk at h
  simp only [Bool.and_eq_true] at h
  have hi := (goodB_parts h.1).2
  refine lated_small (insert_all (all_of hi) h.2.1 _) ?_
  have h1 := insert_len its a.toNat it
  have h2 := (itemsB_true hi).1
  omega
set_option maxRecDepth 100000 in
set_option maxHeartbeats 8000000 in
theorem specInsertItem_any (v0 v1 v3 : Value) (x : CodeD) (its : List ItemD) (a : Int) (it : ItemD) (w : World) (h0 : CodeAt w v0 x) (h1 : ItemsAt w v1 its) (h3 : ItemAt w v3 it)  :
    Calls Try.prog 24 #[v0, v1, .int .i64 a, v3] w fun e w' => ∃ v' S, e = .returned (.tuple #[v', .bool (inOk x its a it)]) ∧ OwnL w' w.heap.size v' (inV x its a it) S ∧ Kept w w' := by
  have H0 := Lib.hid h0
  obtain ⟨n0, m0, rfl, p0, q0⟩ := h0
  have HE0 := Lib.hid p0; have HI0 := Lib.hid q0
  obtain ⟨A0, c0, rfl, hnc0, hcm0, _⟩ := p0.1.out; obtain ⟨D0, d0, rfl, hnd0, hdm0, _⟩ := q0.out; clear p0 q0; unfold maxLen at hcm0 hdm0
  have H1 := Lib.hid h1
  obtain ⟨A1, c1, cs1, rfl, hnc1, hcm1, hA1⟩ := h1.out; have HA1 := Lib.hid hA1; clear hA1 h1; unfold maxLen at hcm1
  have H3 := Lib.hid h3
  obtain ⟨n3, m3, rfl, p3, q3⟩ := h3
  have HN3 := Lib.hid p3; have HM3 := Lib.hid q3
  obtain ⟨A3, c3, rfl, hnc3, hcm3, _⟩ := p3.1.out; obtain ⟨D3, d3, rfl, hnd3, hdm3, _⟩ := q3.out; clear p3 q3; unfold maxLen at hcm3 hdm3
  go_enter Try.func24, Try.ntmps24
  have K0 := Kept.refl w
  go_wp2_with fail
  obtain ⟨wb1, hwb1⟩ : ∃ w' : World, w' = w.alloc (.cells #[.slice A0 x.elems.length c0, .slice D0 x.limits.length d0, .int .i64 x.repeats, .int .i64 x.bonus, .int .i64 x.keeps, .int .i64 x.fall] 43) := ⟨_, rfl⟩
  rw [← hwb1]
  have KB0 : Kept w wb1 := hwb1 ▸ (Kept.refl w).alloc _
  have B0 : Box wb1 (w.heap.size) 43 #[.slice A0 x.elems.length c0, .slice D0 x.limits.length d0, .int .i64 x.repeats, .int .i64 x.bonus, .int .i64 x.keeps, .int .i64 x.fall] := hwb1 ▸ Box.new w (w.heap.size) 43 #[.slice A0 x.elems.length c0, .slice D0 x.limits.length d0, .int .i64 x.repeats, .int .i64 x.bonus, .int .i64 x.keeps, .int .i64 x.fall] rfl
  have swb1 : wb1.heap.size = w.heap.size + 1 := by rw [hwb1]; simp
  clear hwb1
  have Kwb1 := K0.trans KB0
  obtain ⟨wb2, hwb2⟩ : ∃ w' : World, w' = wb1.alloc (.cells #[.slice A3 it.names.length c3, .slice D3 it.marks.length d3, .bool it.late] 52) := ⟨_, rfl⟩
  rw [← hwb2]
  have KB3 : Kept wb1 wb2 := hwb2 ▸ (Kept.refl wb1).alloc _
  have B3 : Box wb2 (w.heap.size + 1) 52 #[.slice A3 it.names.length c3, .slice D3 it.marks.length d3, .bool it.late] := hwb2 ▸ Box.new wb1 (w.heap.size + 1) 52 #[.slice A3 it.names.length c3, .slice D3 it.marks.length d3, .bool it.late] (by omega)
  have swb2 : wb2.heap.size = wb1.heap.size + 1 := by rw [hwb2]; simp
  clear hwb2
  replace B0 := B0.kept KB3
  have Kwb2 := Kwb1.trans KB3
  refine (pgGood_any _ _ x its _ (H0.out.kept Kwb2) (H1.out.kept Kwb2)).mono ?_
  rintro e w1 ⟨rfl, k1⟩
  replace B0 := B0.kept k1
  replace B3 := B3.kept k1
  have sz1 := k1.size
  have K1 := Kwb2.trans k1
  by_cases hq : goodB x its = true
  case neg =>
    simp only [Bool.not_eq_true] at hq
    rw [hq]
    have HO : Hid (inOk x its a it = false) := Lib.hid (by unfold inOk; rw [hq]; rfl)
    clear hq
    obtain ⟨x0, y0⟩ := B0.six
    obtain ⟨x3, y3⟩ := B3.three
    go_wp2_with fail
    clear x0 y0 x3 y3
    go_ret2
    exact ⟨_, _, ret_vb3 HO.out.symm, by unfold inV; rw [HO.out]; exact nilL _ _, K1⟩
  rw [hq]
  obtain ⟨hc, hi⟩ := goodB_parts hq
  have HQ := Lib.hid hq
  have hl14 := (itemsB_true hi).1
  have HAL := Lib.hid (all_of hi)
  have h0s := goodB_some hq
  clear hq hc hi
  obtain ⟨x0, y0⟩ := B0.six
  obtain ⟨x3, y3⟩ := B3.three
  go_wp2_with fail
  clear x0 y0 x3 y3
  refine (itGood_any _ it _ (H3.out.kept K1)).mono ?_
  rintro e w2 ⟨rfl, k2⟩
  replace B0 := B0.kept k2
  replace B3 := B3.kept k2
  have sz2 := k2.size
  have K2 := K1.trans k2
  by_cases ht : itemB it = true
  case neg =>
    simp only [Bool.not_eq_true] at ht
    rw [ht]
    have HO : Hid (inOk x its a it = false) := Lib.hid (by unfold inOk; rw [HQ.out, ht]; rfl)
    clear ht
    obtain ⟨x0, y0⟩ := B0.six
    obtain ⟨x3, y3⟩ := B3.three
    go_wp2_with fail
    clear x0 y0 x3 y3
    go_ret2
    exact ⟨_, _, ret_vb3 HO.out.symm, by unfold inV; rw [HO.out]; exact nilL _ _, K2⟩
  rw [ht]
  have HT := Lib.hid ht
  clear ht
  obtain ⟨x0, y0⟩ := B0.six
  obtain ⟨x3, y3⟩ := B3.three
  go_wp2_with fail
  clear x0 y0 x3 y3
  refine (l1In_any _ _ _ _).mono ?_
  rintro e w' ⟨rfl, rfl⟩
  by_cases hr : inB a 0 (its.length : Int) = true
  case neg =>
    simp only [Bool.not_eq_true] at hr
    rw [hr]
    have HO : Hid (inOk x its a it = false) := Lib.hid (by unfold inOk; rw [HQ.out, HT.out, hr]; rfl)
    clear hr
    obtain ⟨x0, y0⟩ := B0.six
    obtain ⟨x3, y3⟩ := B3.three
    go_wp2_with fail
    clear x0 y0 x3 y3
    go_ret2
    exact ⟨_, _, ret_vb3 HO.out.symm, by unfold inV; rw [HO.out]; exact nilL _ _, K2⟩
  rw [hr]
  obtain ⟨ha0, ha1⟩ := inB_true hr
  obtain ⟨k, rfl⟩ := Int.eq_ofNat_of_zero_le ha0
  have hk : k ≤ its.length := by omega
  have HDR : Hid (inOk x its (k : Int) it = ifB x (insertV its k it)) := Lib.hid (by unfold inOk; rw [HQ.out, HT.out, hr, Int.toNat_natCast]; rfl)
  clear hr ha0 ha1
  obtain ⟨x0, y0⟩ := B0.six
  obtain ⟨x3, y3⟩ := B3.three
  go_wp2_with fail
  clear x0 y0 x3 y3
  have B0w := B0
  have B3w := B3
  obtain ⟨ps, hps, hsrc, hgood⟩ := pairs_of (H1.out.kept K2)
  have hpl : ps.length = its.length := by rw [← hps, itsP_len]
  have HSRC := Lib.hid hsrc
  have HGOOD := Lib.hid hgood
  have HPS := Lib.hid hps
  have HPL := Lib.hid hpl
  have hk2 : k ≤ ps.length := by omega
  have hl2 : ps.length ≤ 1000 := by omega
  have h02 : 0 < ps.length := by omega
  clear hsrc hgood hps hpl
  have HWA := Lib.hid (insert_all (p := itemB) HAL.out HT.out k)
  have hwl := insert_len its k it
  obtain ⟨X, hX⟩ : ∃ X, insertV its k it = X := ⟨_, rfl⟩
  rw [hX] at HDR HWA hwl
  have HXX := Lib.hid hX
  clear hX
  have kD : Kept w2 w2.drew := (Kept.refl _).drew
  go_region_held3 (fun w' => (w'.cell? ⟨w.heap.size, 0, none⟩ = some (.slice A0 x.elems.length c0) ∧ w'.cell? ⟨w.heap.size, 1, none⟩ = some (.slice D0 x.limits.length d0) ∧ w'.cell? ⟨w.heap.size, 2, none⟩ = some (.int .i64 x.repeats) ∧ w'.cell? ⟨w.heap.size, 3, none⟩ = some (.int .i64 x.bonus) ∧ w'.cell? ⟨w.heap.size, 4, none⟩ = some (.int .i64 x.keeps) ∧ w'.cell? ⟨w.heap.size, 5, none⟩ = some (.int .i64 x.fall)) ∧ (w'.cell? ⟨w.heap.size + 1, 0, none⟩ = some (.slice A3 it.names.length c3) ∧ w'.cell? ⟨w.heap.size + 1, 1, none⟩ = some (.slice D3 it.marks.length d3) ∧ w'.cell? ⟨w.heap.size + 1, 2, none⟩ = some (.bool it.late))) (first | (with_reducible exact ⟨(B0w.kept kD).six.1, (B3w.kept kD).three.1⟩) | (with_reducible exact ⟨(B0w.kept (by assumption)).six.1, (B3w.kept (by assumption)).three.1⟩)) (first | (go_at_call 55; refine (pgInsert_any _ _ ps k it _ (HSRC.out.kept kD) (HGOOD.out.kept kD) (H3.out.kept (K2.trans kD)) h02 hk2 hl2).mono ?_; rintro e w8 ⟨v8, y, rfl, o8, hy2, hyg, k8⟩; have k8' := kD.trans k8; have r8 := items_of o8.src ((GoodP.insert (HGOOD.out.kept kD) hyg k).kept k8); rw [itsP_insert, HPS.out, hy2, HXX.out] at r8; have R8 := Lib.hid r8; clear r8 hy2 hyg) | (go_at_call 41; refine (pgIf_any _ _ x X _ (H0.out.kept (K2.trans k8')) R8.out HWA.out (by omega)).mono ?_; rintro e w9 ⟨v9, S9, rfl, o9, k9⟩; have kk9 := k8'.trans k9))
  rename_i hheld
  clear hheld
  all_goals
    go_wp2_with fail
    go_ret2
    refine ⟨_, S9, ret_vb3 HDR.out.symm, ?_, K2.trans kk9⟩
    have e9 : inV x its (k : Int) it = onT (ifB x X) (lated X) := by unfold inV; rw [HDR.out, Int.toNat_natCast, HXX.out]
    rw [e9]
    have hz1 := K2.size
    have hz2 := k8'.size
    exact o9.base (by omega)
set_option maxRecDepth 100000 in
set_option maxHeartbeats 8000000 in
theorem implInsertItem_any (v0 v1 v3 : Value) (x : CodeD) (its : List ItemD) (a : Int) (it : ItemD) (w : World) (h0 : CodeAt w v0 x) (h1 : ItemsAt w v1 its) (h3 : ItemAt w v3 it)  :
    Calls Try.prog 26 #[v0, v1, .int .i64 a, v3] w fun e w' => ∃ v' S, e = .returned (.tuple #[v', .bool (inOk x its a it)]) ∧ OwnL w' w.heap.size v' (inV x its a it) S ∧ Kept w w' := by
  have H0 := Lib.hid h0
  obtain ⟨n0, m0, rfl, p0, q0⟩ := h0
  have HE0 := Lib.hid p0; have HI0 := Lib.hid q0
  obtain ⟨A0, c0, rfl, hnc0, hcm0, _⟩ := p0.1.out; obtain ⟨D0, d0, rfl, hnd0, hdm0, _⟩ := q0.out; clear p0 q0; unfold maxLen at hcm0 hdm0
  have H1 := Lib.hid h1
  obtain ⟨A1, c1, cs1, rfl, hnc1, hcm1, hA1⟩ := h1.out; have HA1 := Lib.hid hA1; clear hA1 h1; unfold maxLen at hcm1
  have H3 := Lib.hid h3
  obtain ⟨n3, m3, rfl, p3, q3⟩ := h3
  have HN3 := Lib.hid p3; have HM3 := Lib.hid q3
  obtain ⟨A3, c3, rfl, hnc3, hcm3, _⟩ := p3.1.out; obtain ⟨D3, d3, rfl, hnd3, hdm3, _⟩ := q3.out; clear p3 q3; unfold maxLen at hcm3 hdm3
  go_enter Try.func26, Try.ntmps26
  have K0 := Kept.refl w
  go_wp2_with fail
  obtain ⟨wb1, hwb1⟩ : ∃ w' : World, w' = w.alloc (.cells #[.slice A0 x.elems.length c0, .slice D0 x.limits.length d0, .int .i64 x.repeats, .int .i64 x.bonus, .int .i64 x.keeps, .int .i64 x.fall] 43) := ⟨_, rfl⟩
  rw [← hwb1]
  have KB0 : Kept w wb1 := hwb1 ▸ (Kept.refl w).alloc _
  have B0 : Box wb1 (w.heap.size) 43 #[.slice A0 x.elems.length c0, .slice D0 x.limits.length d0, .int .i64 x.repeats, .int .i64 x.bonus, .int .i64 x.keeps, .int .i64 x.fall] := hwb1 ▸ Box.new w (w.heap.size) 43 #[.slice A0 x.elems.length c0, .slice D0 x.limits.length d0, .int .i64 x.repeats, .int .i64 x.bonus, .int .i64 x.keeps, .int .i64 x.fall] rfl
  have swb1 : wb1.heap.size = w.heap.size + 1 := by rw [hwb1]; simp
  clear hwb1
  have Kwb1 := K0.trans KB0
  obtain ⟨wb2, hwb2⟩ : ∃ w' : World, w' = wb1.alloc (.cells #[.slice A3 it.names.length c3, .slice D3 it.marks.length d3, .bool it.late] 52) := ⟨_, rfl⟩
  rw [← hwb2]
  have KB3 : Kept wb1 wb2 := hwb2 ▸ (Kept.refl wb1).alloc _
  have B3 : Box wb2 (w.heap.size + 1) 52 #[.slice A3 it.names.length c3, .slice D3 it.marks.length d3, .bool it.late] := hwb2 ▸ Box.new wb1 (w.heap.size + 1) 52 #[.slice A3 it.names.length c3, .slice D3 it.marks.length d3, .bool it.late] (by omega)
  have swb2 : wb2.heap.size = wb1.heap.size + 1 := by rw [hwb2]; simp
  clear hwb2
  replace B0 := B0.kept KB3
  have Kwb2 := Kwb1.trans KB3
  refine (isProgramme_any _ _ x its _ (H0.out.kept Kwb2) (H1.out.kept Kwb2)).mono ?_
  rintro e w1 ⟨rfl, k1⟩
  replace B0 := B0.kept k1
  replace B3 := B3.kept k1
  have sz1 := k1.size
  have K1 := Kwb2.trans k1
  by_cases hq : goodB x its = true
  case neg =>
    simp only [Bool.not_eq_true] at hq
    rw [hq]
    have HO : Hid (inOk x its a it = false) := Lib.hid (by unfold inOk; rw [hq]; rfl)
    clear hq
    obtain ⟨x0, y0⟩ := B0.six
    obtain ⟨x3, y3⟩ := B3.three
    go_wp2_with fail
    clear x0 y0 x3 y3
    go_ret2
    exact ⟨_, _, ret_vb3 HO.out.symm, by unfold inV; rw [HO.out]; exact nilL _ _, K1⟩
  rw [hq]
  obtain ⟨hc, hi⟩ := goodB_parts hq
  have HQ := Lib.hid hq
  have hl14 := (itemsB_true hi).1
  have HAL := Lib.hid (all_of hi)
  have h0s := goodB_some hq
  clear hq hc hi
  obtain ⟨x0, y0⟩ := B0.six
  obtain ⟨x3, y3⟩ := B3.three
  go_wp2_with fail
  clear x0 y0 x3 y3
  refine (isItem_any _ it _ (H3.out.kept K1)).mono ?_
  rintro e w2 ⟨rfl, k2⟩
  replace B0 := B0.kept k2
  replace B3 := B3.kept k2
  have sz2 := k2.size
  have K2 := K1.trans k2
  by_cases ht : itemB it = true
  case neg =>
    simp only [Bool.not_eq_true] at ht
    rw [ht]
    have HO : Hid (inOk x its a it = false) := Lib.hid (by unfold inOk; rw [HQ.out, ht]; rfl)
    clear ht
    obtain ⟨x0, y0⟩ := B0.six
    obtain ⟨x3, y3⟩ := B3.three
    go_wp2_with fail
    clear x0 y0 x3 y3
    go_ret2
    exact ⟨_, _, ret_vb3 HO.out.symm, by unfold inV; rw [HO.out]; exact nilL _ _, K2⟩
  rw [ht]
  have HT := Lib.hid ht
  clear ht
  obtain ⟨x0, y0⟩ := B0.six
  obtain ⟨x3, y3⟩ := B3.three
  go_wp2_with fail
  clear x0 y0 x3 y3
  refine (within_any _ _ _ _).mono ?_
  rintro e w' ⟨rfl, rfl⟩
  by_cases hr : inB a 0 (its.length : Int) = true
  case neg =>
    simp only [Bool.not_eq_true] at hr
    rw [hr]
    have HO : Hid (inOk x its a it = false) := Lib.hid (by unfold inOk; rw [HQ.out, HT.out, hr]; rfl)
    clear hr
    obtain ⟨x0, y0⟩ := B0.six
    obtain ⟨x3, y3⟩ := B3.three
    go_wp2_with fail
    clear x0 y0 x3 y3
    go_ret2
    exact ⟨_, _, ret_vb3 HO.out.symm, by unfold inV; rw [HO.out]; exact nilL _ _, K2⟩
  rw [hr]
  obtain ⟨ha0, ha1⟩ := inB_true hr
  obtain ⟨k, rfl⟩ := Int.eq_ofNat_of_zero_le ha0
  have hk : k ≤ its.length := by omega
  have HDR : Hid (inOk x its (k : Int) it = ifB x (insertV its k it)) := Lib.hid (by unfold inOk; rw [HQ.out, HT.out, hr, Int.toNat_natCast]; rfl)
  clear hr ha0 ha1
  obtain ⟨x0, y0⟩ := B0.six
  obtain ⟨x3, y3⟩ := B3.three
  go_wp2_with fail
  clear x0 y0 x3 y3
  have B0w := B0
  have B3w := B3
  obtain ⟨ps, hps, hsrc, hgood⟩ := pairs_of (H1.out.kept K2)
  have hpl : ps.length = its.length := by rw [← hps, itsP_len]
  have HSRC := Lib.hid hsrc
  have HGOOD := Lib.hid hgood
  have HPS := Lib.hid hps
  have HPL := Lib.hid hpl
  have hk2 : k ≤ ps.length := by omega
  have hl2 : ps.length ≤ 1000 := by omega
  have h02 : 0 < ps.length := by omega
  clear hsrc hgood hps hpl
  have HWA := Lib.hid (insert_all (p := itemB) HAL.out HT.out k)
  have hwl := insert_len its k it
  obtain ⟨X, hX⟩ : ∃ X, insertV its k it = X := ⟨_, rfl⟩
  rw [hX] at HDR HWA hwl
  have HXX := Lib.hid hX
  clear hX
  have kD : Kept w2 w2.drew := (Kept.refl _).drew
  obtain ⟨y, hy⟩ : ∃ y : Pr, y = ((.slice A3 it.names.length c3, .slice D3 it.marks.length d3), it) := ⟨_, rfl⟩
  have H3p := H3.out.parts
  have HYG : Hid (Strs w y.1.1 y.2.names ∧ Ints w y.1.2 y.2.marks) := Lib.hid (by subst hy; exact H3p)
  have HY2 : Hid (y.2 = it) := Lib.hid (by subst hy; rfl)
  have HYB : Hid (∀ (W : World) (g : Nat), Box W g 52 #[.slice A3 it.names.length c3, .slice D3 it.marks.length d3, .bool it.late] → Box W g 52 #[y.1.1, y.1.2, .bool y.2.late]) := Lib.hid (fun W g hb => by subst hy; exact hb)
  clear hy H3p
  have HIN : Hid (itsP (insertV ps k y) = X) := Lib.hid (by rw [itsP_insert, HPS.out, HY2.out, HXX.out])
  have kA : Kept w2 (w2.alloc (.cells #[] 52)).drew := ((Kept.refl _).alloc _).drew
  have kB : Kept w2 ((w2.alloc (.cells #[] 52)).alloc (.cells #[.slice A3 it.names.length c3, .slice D3 it.marks.length d3, .bool it.late] 52)).drew := (((Kept.refl _).alloc _).alloc _).drew
  have kC : Kept w2 ((w2.alloc (.cells #[.slice A3 it.names.length c3, .slice D3 it.marks.length d3, .bool it.late] 52)).alloc (.cells #[] 52)).drew := (((Kept.refl _).alloc _).alloc _).drew
  have kE : Kept w2 (w2.alloc (.cells #[.slice A3 it.names.length c3, .slice D3 it.marks.length d3, .bool it.late] 52)).drew := ((Kept.refl _).alloc _).drew
  have bA : Box (w2.alloc (.cells #[] 52)).drew w2.heap.size 52 #[] := Box.new w2 _ _ _ rfl
  have bB : Box ((w2.alloc (.cells #[] 52)).alloc (.cells #[.slice A3 it.names.length c3, .slice D3 it.marks.length d3, .bool it.late] 52)).drew w2.heap.size 52 #[] := (Box.new w2 w2.heap.size _ _ rfl).alloc _
  have bC : Box ((w2.alloc (.cells #[.slice A3 it.names.length c3, .slice D3 it.marks.length d3, .bool it.late] 52)).alloc (.cells #[] 52)).drew (w2.heap.size + 1) 52 #[] := Box.new (w2.alloc (.cells #[.slice A3 it.names.length c3, .slice D3 it.marks.length d3, .bool it.late] 52)) _ _ _ (by simp)
  have vB : Box ((w2.alloc (.cells #[] 52)).alloc (.cells #[.slice A3 it.names.length c3, .slice D3 it.marks.length d3, .bool it.late] 52)).drew (w2.heap.size + 1) 52 #[.slice A3 it.names.length c3, .slice D3 it.marks.length d3, .bool it.late] := Box.new (w2.alloc (.cells #[] 52)) _ _ _ (by simp)
  have vC : Box ((w2.alloc (.cells #[.slice A3 it.names.length c3, .slice D3 it.marks.length d3, .bool it.late] 52)).alloc (.cells #[] 52)).drew w2.heap.size 52 #[.slice A3 it.names.length c3, .slice D3 it.marks.length d3, .bool it.late] := (Box.new w2 w2.heap.size _ _ rfl).alloc _
  go_region_held3 (fun w' => (w'.cell? ⟨w.heap.size, 0, none⟩ = some (.slice A0 x.elems.length c0) ∧ w'.cell? ⟨w.heap.size, 1, none⟩ = some (.slice D0 x.limits.length d0) ∧ w'.cell? ⟨w.heap.size, 2, none⟩ = some (.int .i64 x.repeats) ∧ w'.cell? ⟨w.heap.size, 3, none⟩ = some (.int .i64 x.bonus) ∧ w'.cell? ⟨w.heap.size, 4, none⟩ = some (.int .i64 x.keeps) ∧ w'.cell? ⟨w.heap.size, 5, none⟩ = some (.int .i64 x.fall)) ∧ (w'.cell? ⟨w.heap.size + 1, 0, none⟩ = some (.slice A3 it.names.length c3) ∧ w'.cell? ⟨w.heap.size + 1, 1, none⟩ = some (.slice D3 it.marks.length d3) ∧ w'.cell? ⟨w.heap.size + 1, 2, none⟩ = some (.bool it.late))) (first | (with_reducible exact ⟨(B0w.kept kD).six.1, (B3w.kept kD).three.1⟩) | (with_reducible exact ⟨(B0w.kept kA).six.1, (B3w.kept kA).three.1⟩) | (with_reducible exact ⟨(B0w.kept kB).six.1, (B3w.kept kB).three.1⟩) | (with_reducible exact ⟨(B0w.kept kC).six.1, (B3w.kept kC).three.1⟩) | (with_reducible exact ⟨(B0w.kept kE).six.1, (B3w.kept kE).three.1⟩) | (with_reducible exact ⟨(B0w.kept (by assumption)).six.1, (B3w.kept (by assumption)).three.1⟩) | (with_reducible exact ⟨(B0w.kept (Kept.alloc (by assumption) _)).six.1, (B3w.kept (Kept.alloc (by assumption) _)).three.1⟩)) (first | (refine step_append_P2 w2 _ rfl (.tmp 27) (.tmp 28) rfl (.slice (some ⟨w2.heap.size, 0, none⟩) 0 0) [] rfl (RowP.nil0 _ _ (by first | exact Nat.le_refl _ | omega) bA) kA _ ps rfl (HSRC.out.kept kA) (HGOOD.out.kept kA) (by simp; omega) ?_; intro v1 w1 o1 k1 on1 lo1; rw [List.nil_append] at o1) | (refine step_append_P2 w2 _ rfl (.tmp 27) (.tmp 28) rfl (.slice (some ⟨w2.heap.size, 0, none⟩) 0 0) [] rfl (RowP.nil0 _ _ (by first | exact Nat.le_refl _ | omega) bB) kB _ ps rfl (HSRC.out.kept kB) (HGOOD.out.kept kB) (by simp; omega) ?_; intro v1 w1 o1 k1 on1 lo1; rw [List.nil_append] at o1; have vb1 := HYB.out _ _ (vB.only on1 (by simp [fp_some])); have nb1 : ∀ b ∈ fp v1, w2.heap.size + 1 ≠ b := (fun b hb => by have := lo1 b hb; simp [fp_some] at this; omega)) | (refine step_append_P2 w2 _ rfl (.tmp 27) (.tmp 28) rfl (.slice (some ⟨w2.heap.size + 1, 0, none⟩) 0 0) [] rfl (RowP.nil0 _ _ (by first | exact Nat.le_refl _ | omega) bC) kC _ ps rfl (HSRC.out.kept kC) (HGOOD.out.kept kC) (by simp; omega) ?_; intro v1 w1 o1 k1 on1 lo1; rw [List.nil_append] at o1; have vb1 := HYB.out _ _ (vC.only on1 (by simp [fp_some])); have nb1 : ∀ b ∈ fp v1, w2.heap.size ≠ b := (fun b hb => by have := lo1 b hb; simp [fp_some] at this; omega)) | (go_at_call 47; refine (asProgramme_any _ _ x X _ (H0.out.kept (K2.trans k2)) R2.out HWA.out (by omega)).mono ?_; rintro e w9 ⟨v9, S9, rfl, o9, k9⟩; have k8' := k2; have kk9 := k2.trans k9) | (go_at_call 58; have z1 := k1.size; (with_reducible refine (insP_any v1 ps y k _ _ _ o1 (HGOOD.out.kept k1) ⟨HYG.out.1.kept (K2.trans k1), HYG.out.2.kept (K2.trans k1)⟩ h02 hk2 (by omega) z1 vb1 nb1).mono ?_); rintro e w2 ⟨v2, rfl, o2, on2⟩; have k2 := on2.above k1 (fun b hb => (own_fp o1 b hb).1); have r2 : ItemsAt w2 v2 (itsP (insertV ps k y)) := items_of o2.src ((GoodP.insert HGOOD.out ⟨HYG.out.1.kept K2, HYG.out.2.kept K2⟩ k).kept k2); rw [HIN.out] at r2; have R2 := Lib.hid r2; clear r2) | (go_at_call 58; have z1 := k1.size; have q1 : ∀ b ∈ fp v1, w2.heap.size ≤ b ∧ b < w1.heap.size := own_fp o1; (with_reducible refine (insP_any v1 ps y k _ _ _ (o1.kept ((Kept.refl w1).alloc (.cells #[.slice A3 it.names.length c3, .slice D3 it.marks.length d3, .bool it.late] 52))) (HGOOD.out.kept (k1.alloc (.cells #[.slice A3 it.names.length c3, .slice D3 it.marks.length d3, .bool it.late] 52))) ⟨HYG.out.1.kept (K2.trans (k1.alloc (.cells #[.slice A3 it.names.length c3, .slice D3 it.marks.length d3, .bool it.late] 52))), HYG.out.2.kept (K2.trans (k1.alloc (.cells #[.slice A3 it.names.length c3, .slice D3 it.marks.length d3, .bool it.late] 52)))⟩ h02 hk2 (by omega) (by simp; omega) (HYB.out _ _ (Box.new w1 _ _ _ rfl)) (fun b hb => by have := q1 b hb; omega)).mono ?_); rintro e w2 ⟨v2, rfl, o2, on2⟩; have k2 := on2.above (k1.alloc (.cells #[.slice A3 it.names.length c3, .slice D3 it.marks.length d3, .bool it.late] 52)) (fun b hb => (own_fp o1 b hb).1); have r2 : ItemsAt w2 v2 (itsP (insertV ps k y)) := items_of o2.src ((GoodP.insert HGOOD.out ⟨HYG.out.1.kept K2, HYG.out.2.kept K2⟩ k).kept k2); rw [HIN.out] at r2; have R2 := Lib.hid r2; clear r2))
  all_goals
    rename_i hheld
    clear hheld
  all_goals
    go_wp2_with fail
    go_ret2
    refine ⟨_, S9, ret_vb3 HDR.out.symm, ?_, K2.trans kk9⟩
    have e9 : inV x its (k : Int) it = onT (ifB x X) (lated X) := by unfold inV; rw [HDR.out, Int.toNat_natCast, HXX.out]
    rw [e9]
    have hz1 := K2.size
    have hz2 := k8'.size
    exact o9.base (by omega)
end Go.Proofs.Ytapmlnpdjdneoaa
