/- The texts that the proof of FnExactDropItem leans on, part 11. No condition. -/
import Derived.Test.YtapmlnpdjdneoaaMgDropItem9
import Derived.ProofKit
import Derived.OpenShut
import Derived.ChangeOld
import Derived.SliceStrings
import Derived.Lib.SmallJoins
import Derived.Deep.Slices
import Derived.Deep.Fields
/- Programmes: DropItem, the law. -/
namespace Go.Proofs.Ytapmlnpdjdneoaa
set_option linter.unusedVariables false
set_option linter.unusedSimpArgs false
open Go.RowKit

theorem lated_small {its : List ItemD} (h : its.all itemB = true) (hl : its.length ≤ 15) : itemsSize (lated its) ≤ 330 := by
  have h1 := items_size (lated_itemB h)
  rw [lated_length] at h1
  omega
theorem drV_size (x : CodeD) (its : List ItemD) (a : Int) : itemsSize (drV x its a) ≤ 330 := by
  refine onT_size (fun h => ?_)
  have hg : goodB x its = true := by
    unfold drB at h
    rw [Bool.and_eq_true] at h
    exact h.1
  have hi := (goodB_parts hg).2
  refine lated_small (without_all (all_of hi) _) ?_
  have h1 := without_len its a.toNat
  have h2 := (itemsB_true hi).1
  omega
set_option maxHeartbeats 4000000 in
theorem lawDropItem_any {w : World} {v0 : Value} {v1 : Value} (z0 : CodeD) (z1 : List ItemD) (a2 : Int) (h0 : CodeAt w v0 z0) (h1 : ItemsAt w v1 z1) (_ : (Lit.int .i64 a2).wf = true) :
    Calls Try.prog 4 #[v0, v1, .int .i64 a2] w fun e w' => e = .returned (.bool true) ∧ Kept w w' := by
  have H0 := Lib.hid h0
  obtain ⟨n0, m0, rfl, p0, q0⟩ := h0
  obtain ⟨A0, c0, rfl, _⟩ := p0.1.out
  obtain ⟨D0, d0, rfl, _⟩ := q0.out
  clear p0 q0
  have H1 := Lib.hid h1
  clear h1
  go_enter Try.func4, Try.ntmps4
  have K0 := Kept.refl w
  go_wp2_with fail
  obtain ⟨wb1, hwb1⟩ : ∃ w' : World, w' = w.alloc (.cells #[.slice A0 z0.elems.length c0, .slice D0 z0.limits.length d0, .int .i64 z0.repeats, .int .i64 z0.bonus, .int .i64 z0.keeps, .int .i64 z0.fall] 37) := ⟨_, rfl⟩
  rw [← hwb1]
  have KB0 : Kept w wb1 := hwb1 ▸ (Kept.refl w).alloc _
  have B0 : Box wb1 (w.heap.size) 37 #[.slice A0 z0.elems.length c0, .slice D0 z0.limits.length d0, .int .i64 z0.repeats, .int .i64 z0.bonus, .int .i64 z0.keeps, .int .i64 z0.fall] := hwb1 ▸ Box.new w (w.heap.size) 37 #[.slice A0 z0.elems.length c0, .slice D0 z0.limits.length d0, .int .i64 z0.repeats, .int .i64 z0.bonus, .int .i64 z0.keeps, .int .i64 z0.fall] rfl
  have szwb1 : wb1.heap.size = w.heap.size + 1 := by rw [hwb1]; simp
  clear hwb1
  have Kwb1 := K0.trans KB0
  refine (szCode_any _ z0 _ _ (H0.out.kept Kwb1) (by omega) (by omega)).mono ?_
  rintro e w1 ⟨rfl, k1⟩
  replace B0 := B0.kept k1
  have sz1 := k1.size
  have K1 := Kwb1.trans k1
  by_cases hbig0 : ((z0.size : Nat) : Int) ≤ 1048576
  case neg =>
    have e1 : lessOr 1048576 (z0.size) = -1 := by unfold lessOr; exact if_neg (by omega)
    rw [e1]
    go_wp2_with fail
    go_ret
    exact ⟨rfl, K1⟩
  have e1 : lessOr 1048576 (z0.size) = 1048576 - (z0.size : Int) := by unfold lessOr; exact if_pos (by omega)
  rw [e1]
  clear e1
  have hparts0 := code_parts z0
  obtain ⟨x0, y0⟩ := B0.six
  go_wp2_with fail
  clear x0 y0
  refine (szItemS_any _ z1 _ _ (H1.out.kept K1) (by omega) (by omega)).mono ?_
  rintro e w2 ⟨rfl, k2⟩
  replace B0 := B0.kept k2
  have sz2 := k2.size
  have K2 := K1.trans k2
  by_cases hbig1 : ((itemsSize z1 : Nat) : Int) ≤ (1048576 - (z0.size : Int))
  case neg =>
    have e1 : lessOr (1048576 - (z0.size : Int)) (itemsSize z1) = -1 := by unfold lessOr; exact if_neg (by omega)
    rw [e1]
    go_wp2_with fail
    go_ret
    exact ⟨rfl, K2⟩
  have e1 : lessOr (1048576 - (z0.size : Int)) (itemsSize z1) = (1048576 - (z0.size : Int)) - (itemsSize z1 : Int) := by unfold lessOr; exact if_pos (by omega)
  rw [e1]
  clear e1
  have hX := drV_size z0 z1 a2
  obtain ⟨x0, y0⟩ := B0.six
  go_wp2_with fail
  clear x0 y0
  refine (toCode_any _ z0 _ (H0.out.kept K2) (by omega) (by omega)).mono ?_
  rintro e w3 ⟨u3, rfl, o3, k3⟩
  replace B0 := B0.kept k3
  have sz3 := k3.size
  have K3 := K2.trans k3
  have R3 := Lib.hid o3.code
  clear o3
  obtain ⟨x0, y0⟩ := B0.six
  go_wp2_with fail
  clear x0 y0
  refine (toItemS_any _ z1 _ (H1.out.kept K3) (by omega)).mono ?_
  rintro e w4 ⟨u4, S4, rfl, o4, k4⟩
  replace B0 := B0.kept k4
  replace R3 := Lib.hid (R3.out.kept k4)
  have sz4 := k4.size
  have K4 := K3.trans k4
  have R4 := Lib.hid o4.items
  clear o4
  obtain ⟨x0, y0⟩ := B0.six
  go_wp2_with fail
  clear x0 y0
  refine (specDropItem_any _ _ z0 z1 _ _ R3.out R4.out).mono ?_
  rintro e w5 ⟨u5, S5, rfl, o5, k5⟩
  replace B0 := B0.kept k5
  replace R3 := Lib.hid (R3.out.kept k5)
  replace R4 := Lib.hid (R4.out.kept k5)
  have sz5 := k5.size
  have K5 := K4.trans k5
  clear R3
  clear R4
  have RS := Lib.hid o5.items
  clear o5
  have KS := Kept.refl w5
  obtain ⟨x0, y0⟩ := B0.six
  go_wp2_with fail
  clear x0 y0
  refine (toCode_any _ z0 _ (H0.out.kept K5) (by omega) (by omega)).mono ?_
  rintro e w6 ⟨u6, rfl, o6, k6⟩
  replace B0 := B0.kept k6
  replace KS := KS.trans k6
  have sz6 := k6.size
  have K6 := K5.trans k6
  obtain ⟨n6, m6, rfl, p6, q6, nd6⟩ := o6
  obtain ⟨A6, c6, rfl, _⟩ := own_form p6.1
  obtain ⟨D6, d6, rfl, _⟩ := own_form q6
  have o6 : OwnK w6 _ (.agg #[.slice A6 z0.elems.length c6, .slice D6 z0.limits.length d6, .int .i64 z0.repeats, .int .i64 z0.bonus, .int .i64 z0.keeps, .int .i64 z0.fall]) z0 := ⟨_, _, rfl, p6, q6, nd6⟩
  clear p6 q6 nd6
  have F6 := Lib.hid o6.fps
  have O6 := Lib.hid o6
  clear o6
  obtain ⟨x0, y0⟩ := B0.six
  have l0 := B0.lt
  go_wp2_with fail
  clear x0 y0 l0
  obtain ⟨wb2, hwb2⟩ : ∃ w' : World, w' = w6.alloc (.cells #[.slice A6 z0.elems.length c6, .slice D6 z0.limits.length d6, .int .i64 z0.repeats, .int .i64 z0.bonus, .int .i64 z0.keeps, .int .i64 z0.fall] 43) := ⟨_, rfl⟩
  rw [← hwb2]
  have KB6 : Kept w6 wb2 := hwb2 ▸ (Kept.refl w6).alloc _
  have B6 : Box wb2 (w6.heap.size) 43 #[.slice A6 z0.elems.length c6, .slice D6 z0.limits.length d6, .int .i64 z0.repeats, .int .i64 z0.bonus, .int .i64 z0.keeps, .int .i64 z0.fall] := hwb2 ▸ Box.new w6 (w6.heap.size) 43 #[.slice A6 z0.elems.length c6, .slice D6 z0.limits.length d6, .int .i64 z0.repeats, .int .i64 z0.bonus, .int .i64 z0.keeps, .int .i64 z0.fall] rfl
  have szwb2 : wb2.heap.size = w6.heap.size + 1 := by rw [hwb2]; simp
  clear hwb2
  replace B0 := B0.kept KB6
  replace O6 := Lib.hid (O6.out.kept KB6)
  replace KS := KS.trans KB6
  have Kwb2 := K6.trans KB6
  refine (toItemS_any _ z1 _ (H1.out.kept Kwb2) (by omega)).mono ?_
  rintro e w7 ⟨u7, S7, rfl, o7, k7⟩
  replace B0 := B0.kept k7
  replace B6 := B6.kept k7
  replace O6 := Lib.hid (O6.out.kept k7)
  replace KS := KS.trans k7
  have sz7 := k7.size
  have K7 := Kwb2.trans k7
  obtain ⟨cs7, oc7, rfl, hF7⟩ := o7.toC
  have O7 := Lib.hid oc7
  have F7 := Lib.hid hF7
  clear o7 oc7 hF7
  obtain ⟨x0, y0⟩ := B0.six
  obtain ⟨x6, y6⟩ := B6.six
  go_wp2_with fail
  clear x0 y0 x6 y6
  refine (implDropItem_any _ _ z0 z1 _ _ O6.out.code O7.out.items).mono ?_
  rintro e w8 ⟨u8, S8, rfl, o8, k8⟩
  replace B0 := B0.kept k8
  replace B6 := B6.kept k8
  replace O6 := Lib.hid (O6.out.kept k8)
  replace O7 := Lib.hid (O7.out.kept k8)
  replace KS := KS.trans k8
  have sz8 := k8.size
  have K8 := K7.trans k8
  obtain ⟨cs8, oc8, rfl, hF8⟩ := o8.toC
  have O8 := Lib.hid oc8
  have F8 := Lib.hid hF8
  clear o8 oc8 hF8
  obtain ⟨x0, y0⟩ := B0.six
  obtain ⟨x6, y6⟩ := B6.six
  go_wp2_with fail
  clear x0 y0 x6 y6
  refine (eqItemS_any _ _ (drV z0 z1 a2) _ O8.out.items (RS.out.kept KS)).mono ?_
  rintro e w9 ⟨rfl, k9⟩
  replace B0 := B0.kept k9
  replace B6 := B6.kept k9
  replace O6 := Lib.hid (O6.out.kept k9)
  replace O7 := Lib.hid (O7.out.kept k9)
  replace O8 := Lib.hid (O8.out.kept k9)
  replace KS := KS.trans k9
  have sz9 := k9.size
  have K9 := K8.trans k9
  obtain ⟨x0, y0⟩ := B0.six
  obtain ⟨x6, y6⟩ := B6.six
  go_wp2_with fail
  clear x0 y0 x6 y6
  have KDw9 : Kept w9 w9.drew := (Kept.refl _).drew
  replace B0 := B0.kept KDw9
  replace B6 := B6.kept KDw9
  replace O6 := Lib.hid (O6.out.kept KDw9)
  replace O7 := Lib.hid (O7.out.kept KDw9)
  replace O8 := Lib.hid (O8.out.kept KDw9)
  replace KS := KS.trans KDw9
  have KKw9 := K9.trans KDw9
  have szdw9 : w9.heap.size ≤ w9.drew.heap.size := KDw9.size
  go_region_held3 (fun w' => (w'.cell? ⟨w.heap.size, 0, none⟩ = some (.slice A0 z0.elems.length c0) ∧ w'.cell? ⟨w.heap.size, 1, none⟩ = some (.slice D0 z0.limits.length d0) ∧ w'.cell? ⟨w.heap.size, 2, none⟩ = some (.int .i64 z0.repeats) ∧ w'.cell? ⟨w.heap.size, 3, none⟩ = some (.int .i64 z0.bonus) ∧ w'.cell? ⟨w.heap.size, 4, none⟩ = some (.int .i64 z0.keeps) ∧ w'.cell? ⟨w.heap.size, 5, none⟩ = some (.int .i64 z0.fall)) ∧ (w'.cell? ⟨w6.heap.size, 0, none⟩ = some (.slice A6 z0.elems.length c6) ∧ w'.cell? ⟨w6.heap.size, 1, none⟩ = some (.slice D6 z0.limits.length d6) ∧ w'.cell? ⟨w6.heap.size, 2, none⟩ = some (.int .i64 z0.repeats) ∧ w'.cell? ⟨w6.heap.size, 3, none⟩ = some (.int .i64 z0.bonus) ∧ w'.cell? ⟨w6.heap.size, 4, none⟩ = some (.int .i64 z0.keeps) ∧ w'.cell? ⟨w6.heap.size, 5, none⟩ = some (.int .i64 z0.fall))) (first | exact ⟨B0.six.1, B6.six.1⟩ | exact ⟨(B0.kept (by assumption)).six.1, (B6.kept (by assumption)).six.1⟩)
    (first | (go_at_call 18; refine (toCode_any _ z0 _ (H0.out.kept KKw9) (by omega) (by omega)).mono ?_; rintro e w10 ⟨u10, rfl, o10, k10⟩) | (go_at_call 20; refine (eqCode_any _ _ z0 _ (O6.out.code.kept k10) o10.code).mono ?_; rintro e w11 ⟨rfl, k11⟩; have kk11 := k10.trans k11))
  clear o10
  replace B0 := B0.kept kk11
  replace B6 := B6.kept kk11
  replace O6 := Lib.hid (O6.out.kept kk11)
  replace O7 := Lib.hid (O7.out.kept kk11)
  replace O8 := Lib.hid (O8.out.kept kk11)
  replace KS := KS.trans kk11
  have sz11 := kk11.size
  have K11 := KKw9.trans kk11
  obtain ⟨x0, y0⟩ := B0.six
  obtain ⟨x6, y6⟩ := B6.six
  go_wp2_with fail
  clear x0 y0 x6 y6
  refine (toItemS_any _ z1 _ (H1.out.kept K11) (by omega)).mono ?_
  rintro e w12 ⟨u12, S12, rfl, o12, k12⟩
  replace B0 := B0.kept k12
  replace B6 := B6.kept k12
  replace O6 := Lib.hid (O6.out.kept k12)
  replace O7 := Lib.hid (O7.out.kept k12)
  replace O8 := Lib.hid (O8.out.kept k12)
  replace KS := KS.trans k12
  have sz12 := k12.size
  have K12 := K11.trans k12
  have R12 := Lib.hid o12.items
  clear o12
  obtain ⟨x0, y0⟩ := B0.six
  obtain ⟨x6, y6⟩ := B6.six
  go_wp2_with fail
  clear x0 y0 x6 y6
  refine (eqItemS_any _ _ (z1) _ O7.out.items R12.out).mono ?_
  rintro e w13 ⟨rfl, k13⟩
  replace B0 := B0.kept k13
  replace B6 := B6.kept k13
  replace R12 := Lib.hid (R12.out.kept k13)
  replace O6 := Lib.hid (O6.out.kept k13)
  replace O7 := Lib.hid (O7.out.kept k13)
  replace O8 := Lib.hid (O8.out.kept k13)
  replace KS := KS.trans k13
  have sz13 := k13.size
  have K13 := K12.trans k13
  clear R12
  have nb6 : (1) ≤ nextC (1) z0 ∧ nextC (1) z0 ≤ (1) + 5242880 := ⟨by unfold nextC; omega, by unfold nextC; omega⟩
  obtain ⟨x0, y0⟩ := B0.six
  obtain ⟨x6, y6⟩ := B6.six
  go_wp2_with fail
  clear x0 y0 x6 y6
  refine (markCode_any _ z0 _ _ _ O6.out (by omega) (by omega) (by omega) (by omega)).mono ?_
  rintro e w14 ⟨rfl, o14, on14⟩
  have sz14 := on14.size
  replace B0 := B0.only on14 (fun hb => by have := F6.out _ hb; omega)
  replace B6 := B6.only on14 (fun hb => by have := F6.out _ hb; omega)
  replace O7 := Lib.hid (O7.out.only on14 (fun b hb hb' => by have := F7.out b hb; have := F6.out b hb'; omega))
  replace O8 := Lib.hid (O8.out.only on14 (fun b hb hb' => by have := F8.out b hb; have := F6.out b hb'; omega))
  replace KS := on14.above KS (fun b hb => by have := F6.out b hb; omega)
  have K14 := on14.above K13 (fun b hb => by have := F6.out b hb; omega)
  replace O6 := Lib.hid o14
  clear o14 on14
  have nb7 := nk_bd (nextC (1) z0) z1
  obtain ⟨x0, y0⟩ := B0.six
  obtain ⟨x6, y6⟩ := B6.six
  go_wp2_with fail
  clear x0 y0 x6 y6
  refine (markItemS_any _ z1 cs7 _ _ _ O7.out (by omega) (by omega) (by omega)).mono ?_
  rintro e w15 ⟨rfl, o15, on15⟩
  have sz15 := on15.size
  replace B0 := B0.only on15 (fun hb => by have := F7.out _ hb; omega)
  replace B6 := B6.only on15 (fun hb => by have := F7.out _ hb; omega)
  replace O6 := Lib.hid (O6.out.only on15 (fun b hb hb' => by have := F6.out b hb; have := F7.out b hb'; omega))
  replace O8 := Lib.hid (O8.out.only on15 (fun b hb hb' => by have := F8.out b hb; have := F7.out b hb'; omega))
  replace KS := on15.above KS (fun b hb => by have := F7.out b hb; omega)
  have K15 := on15.above K14 (fun b hb => by have := F7.out b hb; omega)
  replace O7 := Lib.hid o15
  clear o15 on15
  obtain ⟨x0, y0⟩ := B0.six
  obtain ⟨x6, y6⟩ := B6.six
  go_wp2_with fail
  clear x0 y0 x6 y6
  refine (eqItemS_any _ _ (drV z0 z1 a2) _ O8.out.items (RS.out.kept KS)).mono ?_
  rintro e w16 ⟨rfl, k16⟩
  replace B0 := B0.kept k16
  replace B6 := B6.kept k16
  replace O6 := Lib.hid (O6.out.kept k16)
  replace O7 := Lib.hid (O7.out.kept k16)
  replace O8 := Lib.hid (O8.out.kept k16)
  replace KS := KS.trans k16
  have sz16 := k16.size
  have K16 := K15.trans k16
  have nbR := nk_bd 1 (drV z0 z1 a2)
  obtain ⟨x0, y0⟩ := B0.six
  obtain ⟨x6, y6⟩ := B6.six
  go_wp2_with fail
  clear x0 y0 x6 y6
  refine (markItemS_any _ (drV z0 z1 a2) cs8 _ _ _ O8.out (by omega) (by omega) (by omega)).mono ?_
  rintro e w17 ⟨rfl, o17, on17⟩
  have sz17 := on17.size
  replace B0 := B0.only on17 (fun hb => by have := F8.out _ hb; omega)
  replace B6 := B6.only on17 (fun hb => by have := F8.out _ hb; omega)
  replace O6 := Lib.hid (O6.out.only on17 (fun b hb hb' => by have := F6.out b hb; have := F8.out b hb'; omega))
  replace O7 := Lib.hid (O7.out.only on17 (fun b hb hb' => by have := F7.out b hb; have := F8.out b hb'; omega))
  replace KS := on17.above KS (fun b hb => by have := F8.out b hb; omega)
  have K17 := on17.above K16 (fun b hb => by have := F8.out b hb; omega)
  replace O8 := Lib.hid o17
  clear o17 on17
  obtain ⟨x0, y0⟩ := B0.six
  obtain ⟨x6, y6⟩ := B6.six
  go_wp2_with fail
  clear x0 y0 x6 y6
  refine (heldItemS_any _ (drV z0 z1 a2) _ _ O8.out.items (by omega) (by omega) (by omega)).mono ?_
  rintro e w18 ⟨rfl, k18⟩
  replace B0 := B0.kept k18
  replace B6 := B6.kept k18
  replace O6 := Lib.hid (O6.out.kept k18)
  replace O7 := Lib.hid (O7.out.kept k18)
  replace O8 := Lib.hid (O8.out.kept k18)
  replace KS := KS.trans k18
  have sz18 := k18.size
  have K18 := K17.trans k18
  obtain ⟨x0, y0⟩ := B0.six
  obtain ⟨x6, y6⟩ := B6.six
  go_wp2_with fail
  clear x0 y0 x6 y6
  refine (toCode_any _ z0 _ (H0.out.kept K18) (by omega) (by omega)).mono ?_
  rintro e w19 ⟨u19, rfl, o19, k19⟩
  replace B0 := B0.kept k19
  replace B6 := B6.kept k19
  replace O6 := Lib.hid (O6.out.kept k19)
  replace O7 := Lib.hid (O7.out.kept k19)
  replace O8 := Lib.hid (O8.out.kept k19)
  replace KS := KS.trans k19
  have sz19 := k19.size
  have K19 := K18.trans k19
  have R19 := Lib.hid o19.code
  clear o19
  obtain ⟨x0, y0⟩ := B0.six
  obtain ⟨x6, y6⟩ := B6.six
  go_wp2_with fail
  clear x0 y0 x6 y6
  refine (toItemS_any _ z1 _ (H1.out.kept K19) (by omega)).mono ?_
  rintro e w20 ⟨u20, S20, rfl, o20, k20⟩
  replace B0 := B0.kept k20
  replace B6 := B6.kept k20
  replace R19 := Lib.hid (R19.out.kept k20)
  replace O6 := Lib.hid (O6.out.kept k20)
  replace O7 := Lib.hid (O7.out.kept k20)
  replace O8 := Lib.hid (O8.out.kept k20)
  replace KS := KS.trans k20
  have sz20 := k20.size
  have K20 := K19.trans k20
  have R20 := Lib.hid o20.items
  clear o20
  obtain ⟨x0, y0⟩ := B0.six
  obtain ⟨x6, y6⟩ := B6.six
  go_wp2_with fail
  clear x0 y0 x6 y6
  refine (implDropItem_any _ _ z0 z1 _ _ R19.out R20.out).mono ?_
  rintro e w21 ⟨u21, S21, rfl, o21, k21⟩
  replace B0 := B0.kept k21
  replace B6 := B6.kept k21
  replace R19 := Lib.hid (R19.out.kept k21)
  replace R20 := Lib.hid (R20.out.kept k21)
  replace O6 := Lib.hid (O6.out.kept k21)
  replace O7 := Lib.hid (O7.out.kept k21)
  replace O8 := Lib.hid (O8.out.kept k21)
  replace KS := KS.trans k21
  have sz21 := k21.size
  have K21 := K20.trans k21
  clear R19
  clear R20
  have RH := Lib.hid o21.items
  clear o21
  obtain ⟨x0, y0⟩ := B0.six
  obtain ⟨x6, y6⟩ := B6.six
  go_wp2_with fail
  clear x0 y0 x6 y6
  refine (eqItemS_any _ _ (drV z0 z1 a2) _ RH.out (RS.out.kept KS)).mono ?_
  rintro e w22 ⟨rfl, k22⟩
  replace B0 := B0.kept k22
  replace B6 := B6.kept k22
  replace RH := Lib.hid (RH.out.kept k22)
  replace O6 := Lib.hid (O6.out.kept k22)
  replace O7 := Lib.hid (O7.out.kept k22)
  replace O8 := Lib.hid (O8.out.kept k22)
  replace KS := KS.trans k22
  have sz22 := k22.size
  have K22 := K21.trans k22
  obtain ⟨x0, y0⟩ := B0.six
  obtain ⟨x6, y6⟩ := B6.six
  go_wp2_with fail
  clear x0 y0 x6 y6
  refine (heldItemS_any _ (drV z0 z1 a2) _ _ O8.out.items (by omega) (by omega) (by omega)).mono ?_
  rintro e w23 ⟨rfl, k23⟩
  replace B0 := B0.kept k23
  replace B6 := B6.kept k23
  replace RH := Lib.hid (RH.out.kept k23)
  replace O6 := Lib.hid (O6.out.kept k23)
  replace O7 := Lib.hid (O7.out.kept k23)
  replace O8 := Lib.hid (O8.out.kept k23)
  replace KS := KS.trans k23
  have sz23 := k23.size
  have K23 := K22.trans k23
  go_wp2_with fail
  go_ret
  exact ⟨rfl, K23⟩
end Go.Proofs.Ytapmlnpdjdneoaa

/- Arguments opened: a slice of integers. -/
namespace Go.Proofs.Ytapmlnpdjdneoaa
set_option linter.unusedVariables false
set_option linter.unusedSimpArgs false
set_option maxRecDepth 100000
open Go.ChangeShapes Go.WideShapes Go.ChangeAt Go.RowKit

theorem block_lt {w : World} {a : Addr} {v : Value} (h : w.cell? a = some v) : a.block < w.heap.size := by
  rcases Nat.lt_or_ge a.block w.heap.size with hlt | hge
  · exact hlt
  · unfold World.cell? at h
    rw [Array.getElem?_eq_none hge] at h
    cases h
theorem add_at {b o : Nat} (i : Nat) : (⟨b, o, none⟩ : Addr).add i = ⟨b, o + i, none⟩ := by
  unfold Addr.add
  split <;> simp_all
theorem spot_of {w : World} {x : Addr} {u : Value} (h : w.cell? (x.add 0) = some u) : ∃ b o, x = ⟨b, o, none⟩ := by
  obtain ⟨b, o, s⟩ := x
  have hs : s = none := by simpa [Addr.add] using World.cell?_spot h
  exact ⟨b, o, by rw [hs]⟩
theorem seq_of_cells {w : World} {x : Addr} {len cap size : Nat} {xs : List Value} (hl : len ≤ cap) (hm : cap ≤ maxLen) (hlen : xs.length = len * size) (hsz : 0 < size) (h : ∀ j u, xs[j]? = some u → w.cell? (x.add j) = some u) : Seq w (.slice (some x) len cap) len xs := by
  refine ⟨_, cap, rfl, hl, hm, (fun h => by cases h), fun hn => ?_⟩
  have h0 : 0 < xs.length := by rw [hlen]; exact Nat.mul_pos hn hsz
  obtain ⟨b, o, rfl⟩ := spot_of (h 0 _ (List.getElem?_eq_getElem h0))
  have hc := h 0 _ (List.getElem?_eq_getElem h0)
  refine ⟨b, o, rfl, ?_, fun j u hu => by rw [← add_at]; exact h j u hu⟩
  rw [add_at] at hc
  exact block_lt hc
section
variable {H : Type} {enc : TypeId × Value → H} {W : World} {r : Reach} {b0 base : Nat} {spare : Nat → Bool} {held : Bool} {v : Value} {d : DataW H} {p : List MemPlace} {x : DataW H × List MemPlace}
theorem ints_of_trod {fuel : Nat} (hf : DataW.trod enc Try.prog W base spare held fuel 35 [v] = some x) : ∃ zs, Ints W v zs := by
  rcases open_ints Try.underlying35 Try.underlying3 (by kernel_rfl) hf with ⟨hcs, _⟩ | ⟨ad, len0, cap0, zs, hcs, _, hl, hm, hz, _, hcell, hwz⟩
  · simp at hcs
    subst hcs
    exact ⟨[], Seq.nil _⟩
  · simp at hcs
    subst hcs
    have hge : len0 ≤ zs.length := by rw [hz]; split <;> omega
    refine ⟨zs.take len0, ?_⟩
    have hlen : (zs.take len0).length = len0 := by rw [List.length_take]; omega
    have hS := seq_of_cells (w := W) (x := ad) (len := len0) (cap := cap0) (size := 1) (xs := (zs.take len0).map (Value.int .i64)) hl hm (by rw [List.length_map, hlen]; omega) (by omega) (fun j u hu => by
      rw [List.getElem?_map] at hu
      obtain ⟨z, hz1, rfl⟩ := Option.map_eq_some_iff.1 hu
      have hj : j < len0 := by
        have := (List.getElem?_eq_some_iff.1 hz1).1
        rw [hlen] at this
        exact this
      rw [List.getElem?_take_of_lt hj] at hz1
      have := hcell j (by omega)
      rw [List.getD_eq_getElem?_getD, hz1] at this
      exact this)
    unfold Ints
    rw [hlen]
    exact hS
theorem open_I (hv : Value.okWide Try.prog W r b0 35 v) (h : DataW.Trod enc Try.prog W base spare held 35 v d p) : ∃ zs, Ints W v zs := by
  obtain ⟨a0, len0, cap0, rfl⟩ := okWide_slice Try.underlying35 hv
  obtain ⟨fuel, hf⟩ := h
  exact ints_of_trod hf
end
end Go.Proofs.Ytapmlnpdjdneoaa

/- Arguments opened: items and lists of items. -/
namespace Go.Proofs.Ytapmlnpdjdneoaa
set_option linter.unusedVariables false
set_option linter.unusedSimpArgs false
set_option maxRecDepth 100000
open Go.ChangeShapes Go.WideShapes Go.ChangeAt Go.RowKit Go.Joins Go.Deep
section
variable {H : Type} {enc : TypeId × Value → H} {W : World} {r : Reach} {b0 base : Nat} {spare : Nat → Bool} {held : Bool} {v : Value} {d : DataW H} {p : List MemPlace} {x : DataW H × List MemPlace}
theorem strs_of_trod {fuel : Nat} (hf : DataW.trod enc Try.prog W base spare held fuel 24 [v] = some x) : ∃ zs, Strs W v zs := by
  rcases open_strings Try.underlying24 Try.underlying9 (by kernel_rfl) hf with ⟨hcs, _⟩ | ⟨ad, len0, cap0, zs, hcs, _, hl, hm, hz, _, hcell, hwz⟩
  · simp at hcs
    subst hcs
    exact ⟨[], Seq.nil _, by simp⟩
  · simp at hcs
    subst hcs
    have hge : len0 ≤ zs.length := by rw [hz]; split <;> omega
    refine ⟨zs.take len0, ?_, fun z hz => hwz z (List.mem_of_mem_take hz)⟩
    have hlen : (zs.take len0).length = len0 := by rw [List.length_take]; omega
    have hS := seq_of_cells (w := W) (x := ad) (len := len0) (cap := cap0) (size := 1) (xs := (zs.take len0).map Value.string) hl hm (by rw [List.length_map, hlen]; omega) (by omega) (fun j u hu => by
      rw [List.getElem?_map] at hu
      obtain ⟨z, hz1, rfl⟩ := Option.map_eq_some_iff.1 hu
      have hj : j < len0 := by
        have := (List.getElem?_eq_some_iff.1 hz1).1
        rw [hlen] at this
        exact this
      rw [List.getElem?_take_of_lt hj] at hz1
      have := hcell j (by omega)
      rw [List.getD_eq_getElem?_getD, hz1] at this
      exact this)
    rw [hlen]
    exact hS
theorem item_of_parts {v0 v1 v2 : Value} {y0 y1 y2 : DataW H × List MemPlace} {n : Nat} (h0 : DataW.trod enc Try.prog W base spare held n 24 [v0] = some y0) (h1 : DataW.trod enc Try.prog W base spare held n 35 [v1] = some y1) (h2 : DataW.trod enc Try.prog W base spare held n 4 [v2] = some y2) :
    ∃ it : ItemD, v2 = .bool it.late ∧ Strs W v0 it.names ∧ Ints W v1 it.marks := by
  obtain ⟨ns, q0⟩ := strs_of_trod h0
  obtain ⟨ms, q1⟩ := ints_of_trod h1
  obtain ⟨b, q2, _⟩ := DataW.trod_bool Try.underlying4 h2
  simp at q2
  exact ⟨⟨ns, ms, b⟩, q2, q0, q1⟩
theorem open_T (hv : Value.okWide Try.prog W r b0 49 v) (h : DataW.Trod enc Try.prog W base spare held 49 v d p) : ∃ it, ItemAt W v it := by
  obtain ⟨v0, v1, v2, y0, y1, y2, n, rfl, _, _, h0, h1, h2⟩ := open_agg3 Try.underlying49 (by kernel_rfl) (by kernel_rfl) hv h
  obtain ⟨it, rfl, q0, q1⟩ := item_of_parts h0 h1 h2
  exact ⟨it, _, _, rfl, q0, q1⟩
theorem open_L (hv : Value.okWide Try.prog W r b0 22 v) (h : DataW.Trod enc Try.prog W base spare held 22 v d p) : ∃ its, ItemsAt W v its := by
  obtain ⟨a0, len0, cap0, rfl⟩ := okWide_slice Try.underlying22 hv
  obtain ⟨fuel, hf⟩ := h
  have hC : Try.prog.cellsOf 49 = 3 := by kernel_rfl
  rcases open_slice Try.underlying22 hf with ⟨hcs, _⟩ | ⟨ad, len, cap, m, n, D, Pl, hcs, _, hl, hm, hmm, _, hi⟩
  · simp [Value.cells] at hcs
    obtain ⟨rfl, rfl, rfl⟩ := hcs
    exact ⟨[], [], rfl, Seq.nil _, by simp⟩
  · simp [Value.cells] at hcs
    obtain ⟨rfl, rfl, rfl⟩ := hcs
    have hge : len0 ≤ m := by rw [hmm]; split <;> omega
    have each : ∀ i : Fin len0, ∃ q : (Value × Value) × ItemD, (W.cell? (ad.add (i.1 * 3)) = some q.1.1 ∧ W.cell? ((ad.add (i.1 * 3)).add 1) = some q.1.2 ∧ W.cell? ((ad.add (i.1 * 3)).add 2) = some (.bool q.2.late)) ∧ Strs W q.1.1 q.2.names ∧ Ints W q.1.2 q.2.marks := by
      intro i
      obtain ⟨cs', hc, ht'⟩ := hi i.1 (by omega)
      rw [hC] at hc
      obtain ⟨_, hcl, hat⟩ := World.cells?_some hc
      obtain ⟨y0, y1, y2, n', _, _, h0, h1, h2⟩ := trod_struct3 Try.underlying49 ht'
      have hS : Try.prog.cellsOf 24 = 1 := by kernel_rfl
      have hI : Try.prog.cellsOf 35 = 1 := by kernel_rfl
      have hB : Try.prog.cellsOf 4 = 1 := by kernel_rfl
      match cs', hcl with
      | [x0, x1, x2], _ =>
        dsimp only at h0 h1 h2
        rw [hS] at h0
        rw [hI] at h1
        rw [hB] at h2
        obtain ⟨it, rfl, q0, q1⟩ := item_of_parts (v0 := x0) (v1 := x1) (v2 := x2) h0 h1 h2
        exact ⟨((x0, x1), it), ⟨hat 0 (by omega), hat 1 (by omega), hat 2 (by omega)⟩, q0, q1⟩
    refine ⟨List.ofFn fun i => (Classical.choose (each i)).2, List.ofFn fun i => (Classical.choose (each i)).1, by simp, ?_, ?_⟩
    · rw [List.length_ofFn]
      refine seq_of_cells (size := 3) hl hm (by rw [flat_length row3 3 (fun _ => rfl)]; simp) (by omega) (fun j u hu => ?_)
      have hj : j < len0 * 3 := by
        have := (List.getElem?_eq_some_iff.1 hu).1
        rw [flat_length row3 3 (fun _ => rfl)] at this
        simpa using this
      have hi3 : j / 3 < len0 := by omega
      have hsp := Classical.choose_spec (each ⟨j / 3, hi3⟩)
      have hz : (List.zip (List.ofFn fun i => (Classical.choose (each i)).1) (List.ofFn fun i => (Classical.choose (each i)).2))[j / 3]? = some (Classical.choose (each ⟨j / 3, hi3⟩)) := by
        rw [List.getElem?_zip_eq_some]
        constructor <;> rw [List.getElem?_ofFn, dif_pos hi3]
      have hfl := flat_get row3 3 (fun _ => rfl) (List.zip (List.ofFn fun i => (Classical.choose (each i)).1) (List.ofFn fun i => (Classical.choose (each i)).2)) (j / 3) (j % 3) (by omega)
      rw [show j / 3 * 3 + j % 3 = j from by omega, hu, hz] at hfl
      have hadd : ad.add j = (ad.add (j / 3 * 3)).add (j % 3) := by
        rw [Go.Deep.add_add]
        congr 1
        omega
      rw [hadd]
      have hm3 : j % 3 = 0 ∨ j % 3 = 1 ∨ j % 3 = 2 := by omega
      rcases hm3 with h | h | h <;> rw [h] at hfl ⊢
      · rw [show ∀ a : Addr, a.add 0 = a from fun a => by simp [Addr.add]]
        rw [hsp.1.1]
        simpa [row3] using hfl.symm
      · rw [hsp.1.2.1]
        simpa [row3] using hfl.symm
      · rw [hsp.1.2.2]
        simpa [row3] using hfl.symm
    · intro k nv mv it q1 q2
      rw [List.getElem?_ofFn] at q1 q2
      split at q1
      · rename_i hk
        rw [dif_pos hk] at q2
        injection q1 with q1
        injection q2 with q2
        have hsp := (Classical.choose_spec (each ⟨k, hk⟩)).2
        rw [q1, q2] at hsp
        exact hsp
      · cases q1
end
end Go.Proofs.Ytapmlnpdjdneoaa

/- Arguments opened: elements, lists of elements, codes. -/
namespace Go.Proofs.Ytapmlnpdjdneoaa
set_option linter.unusedVariables false
set_option linter.unusedSimpArgs false
open Go.ChangeShapes Go.WideShapes Go.ChangeAt Go.RowKit Go.Joins Go.Deep
set_option maxRecDepth 100000
section
variable {H : Type} {enc : TypeId × Value → H} {W : World} {r : Reach} {b0 base : Nat} {spare : Nat → Bool} {held : Bool} {v : Value} {d : DataW H} {p : List MemPlace} {x : DataW H × List MemPlace}
theorem elem_of_parts {v0 v1 v2 v3 : Value} {y0 y1 y2 y3 : DataW H × List MemPlace} {n : Nat} (h0 : DataW.trod enc Try.prog W base spare held n 9 [v0] = some y0) (h1 : DataW.trod enc Try.prog W base spare held n 3 [v1] = some y1) (h2 : DataW.trod enc Try.prog W base spare held n 3 [v2] = some y2) (h3 : DataW.trod enc Try.prog W base spare held n 3 [v3] = some y3) :
    ∃ e : ElemD, v0 = .string e.name ∧ v1 = .int .i64 e.family ∧ v2 = .int .i64 e.level ∧ v3 = .int .i64 e.base ∧ e.name.size ≤ maxLen := by
  obtain ⟨s, q0, _, hs⟩ := DataW.trod_string Try.underlying9 h0
  obtain ⟨a, q1, _⟩ := DataW.trod_int Try.underlying3 h1
  obtain ⟨b, q2, _⟩ := DataW.trod_int Try.underlying3 h2
  obtain ⟨c, q3, _⟩ := DataW.trod_int Try.underlying3 h3
  simp at q0 q1 q2 q3
  exact ⟨⟨s, a, b, c⟩, q0, q1, q2, q3, hs⟩
theorem open_E (hv : Value.okWide Try.prog W r b0 84 v) (h : DataW.Trod enc Try.prog W base spare held 84 v d p) : ∃ e, ElemAt W v e := by
  obtain ⟨v0, v1, v2, v3, y0, y1, y2, y3, n, rfl, _, _, h0, h1, h2, h3⟩ := open_agg4 Try.underlying84 (by kernel_rfl) (by kernel_rfl) hv h
  obtain ⟨e, rfl, rfl, rfl, rfl, hs⟩ := elem_of_parts h0 h1 h2 h3
  exact ⟨e, rfl, hs⟩
theorem elems_of_trod {fuel : Nat} (hf : DataW.trod enc Try.prog W base spare held fuel 34 [v] = some x) : ∃ es, Elems W v es := by
  have hC : Try.prog.cellsOf 84 = 4 := by kernel_rfl
  rcases open_slice Try.underlying34 hf with ⟨hcs, _⟩ | ⟨ad, len0, cap0, m, n, D, Pl, hcs, _, hl, hm, hmm, _, hi⟩
  · simp at hcs
    subst hcs
    exact ⟨[], Seq.nil _, by simp⟩
  · simp at hcs
    subst hcs
    have hge : len0 ≤ m := by rw [hmm]; split <;> omega
    have each : ∀ i : Fin len0, ∃ e : ElemD, (W.cell? (ad.add (i.1 * 4)) = some (.string e.name) ∧ W.cell? ((ad.add (i.1 * 4)).add 1) = some (.int .i64 e.family) ∧ W.cell? ((ad.add (i.1 * 4)).add 2) = some (.int .i64 e.level) ∧ W.cell? ((ad.add (i.1 * 4)).add 3) = some (.int .i64 e.base)) ∧ e.name.size ≤ maxLen := by
      intro i
      obtain ⟨cs', hc, ht'⟩ := hi i.1 (by omega)
      rw [hC] at hc
      obtain ⟨_, hcl, hat⟩ := World.cells?_some hc
      obtain ⟨y0, y1, y2, y3, n', _, _, h0, h1, h2, h3⟩ := trod_struct4 Try.underlying84 ht'
      have hS : Try.prog.cellsOf 9 = 1 := by kernel_rfl
      have hI : Try.prog.cellsOf 3 = 1 := by kernel_rfl
      match cs', hcl with
      | [x0, x1, x2, x3], _ =>
        dsimp only at h0 h1 h2 h3
        rw [hS] at h0
        rw [hI] at h1 h2 h3
        obtain ⟨e, rfl, rfl, rfl, rfl, hs⟩ := elem_of_parts (v0 := x0) (v1 := x1) (v2 := x2) (v3 := x3) h0 h1 h2 h3
        exact ⟨e, ⟨hat 0 (by omega), hat 1 (by omega), hat 2 (by omega), hat 3 (by omega)⟩, hs⟩
    refine ⟨List.ofFn fun i => Classical.choose (each i), ?_, ?_⟩
    · rw [List.length_ofFn]
      refine seq_of_cells (size := 4) hl hm (by rw [flat_length cells4 4 (fun _ => rfl)]; simp) (by omega) (fun j u hu => ?_)
      have hj : j < len0 * 4 := by
        have := (List.getElem?_eq_some_iff.1 hu).1
        rw [flat_length cells4 4 (fun _ => rfl)] at this
        simpa using this
      have hi4 : j / 4 < len0 := by omega
      have hsp := Classical.choose_spec (each ⟨j / 4, hi4⟩)
      have hz : (List.ofFn fun i => Classical.choose (each i))[j / 4]? = some (Classical.choose (each ⟨j / 4, hi4⟩)) := by
        rw [List.getElem?_ofFn, dif_pos hi4]
      have hfl := flat_get cells4 4 (fun _ => rfl) (List.ofFn fun i => Classical.choose (each i)) (j / 4) (j % 4) (by omega)
      rw [show j / 4 * 4 + j % 4 = j from by omega, hu, hz] at hfl
      have hadd : ad.add j = (ad.add (j / 4 * 4)).add (j % 4) := by
        rw [Go.Deep.add_add]
        congr 1
        omega
      rw [hadd]
      have hm4 : j % 4 = 0 ∨ j % 4 = 1 ∨ j % 4 = 2 ∨ j % 4 = 3 := by omega
      rcases hm4 with h | h | h | h <;> rw [h] at hfl ⊢
      · rw [show ∀ a : Addr, a.add 0 = a from fun a => by simp [Addr.add]]
        rw [hsp.1.1]
        simpa [cells4] using hfl.symm
      · rw [hsp.1.2.1]
        simpa [cells4] using hfl.symm
      · rw [hsp.1.2.2.1]
        simpa [cells4] using hfl.symm
      · rw [hsp.1.2.2.2]
        simpa [cells4] using hfl.symm
    · intro e he
      obtain ⟨k, hk⟩ := List.getElem?_of_mem he
      rw [List.getElem?_ofFn] at hk
      split at hk
      · rename_i hk'
        injection hk with hk
        have hsp := (Classical.choose_spec (each ⟨k, hk'⟩)).2
        rw [hk] at hsp
        exact hsp
      · cases hk
theorem open_C (hv : Value.okWide Try.prog W r b0 37 v) (h : DataW.Trod enc Try.prog W base spare held 37 v d p) : ∃ c, CodeAt W v c := by
  obtain ⟨cs, rfl, hsz⟩ := okWide_struct Try.underlying37 hv
  obtain ⟨l⟩ := cs
  have hC : Try.prog.cellsOf 37 = 6 := by kernel_rfl
  have hE : Try.prog.cellsOf 34 = 1 := by kernel_rfl
  have hL : Try.prog.cellsOf 35 = 1 := by kernel_rfl
  have hI : Try.prog.cellsOf 3 = 1 := by kernel_rfl
  match l, hsz.trans hC with
  | [c0, c1, c2, c3, c4, c5], _ =>
    obtain ⟨fuel, hf⟩ := h
    obtain ⟨xs, n, _, hx, _, hlen, hg⟩ := DataW.trod_struct Try.underlying37 hf
    match xs, hlen with
    | [y0, y1, y2, y3, y4, y5], _ =>
      have g0 : DataW.trod enc Try.prog W base spare held n 34 (List.take (Try.prog.cellsOf 34) (List.drop 0 [c0, c1, c2, c3, c4, c5])) = some y0 := hg 0 _ rfl
      rw [hE] at g0
      have g1 : DataW.trod enc Try.prog W base spare held n 35 (List.take (Try.prog.cellsOf 35) (List.drop 1 [c0, c1, c2, c3, c4, c5])) = some y1 := hg 1 _ rfl
      rw [hL] at g1
      have g2 : DataW.trod enc Try.prog W base spare held n 3 (List.take (Try.prog.cellsOf 3) (List.drop 2 [c0, c1, c2, c3, c4, c5])) = some y2 := hg 2 _ rfl
      rw [hI] at g2
      have g3 : DataW.trod enc Try.prog W base spare held n 3 (List.take (Try.prog.cellsOf 3) (List.drop 3 [c0, c1, c2, c3, c4, c5])) = some y3 := hg 3 _ rfl
      rw [hI] at g3
      have g4 : DataW.trod enc Try.prog W base spare held n 3 (List.take (Try.prog.cellsOf 3) (List.drop 4 [c0, c1, c2, c3, c4, c5])) = some y4 := hg 4 _ rfl
      rw [hI] at g4
      have g5 : DataW.trod enc Try.prog W base spare held n 3 (List.take (Try.prog.cellsOf 3) (List.drop 5 [c0, c1, c2, c3, c4, c5])) = some y5 := hg 5 _ rfl
      rw [hI] at g5
      obtain ⟨es, q0⟩ := elems_of_trod (v := c0) (x := y0) (by simpa using g0)
      obtain ⟨ls, q1⟩ := ints_of_trod (v := c1) (x := y1) (by simpa using g1)
      obtain ⟨a, q2, _⟩ := DataW.trod_int (cs := [c2]) (x := y2) Try.underlying3 (by simpa using g2)
      obtain ⟨b, q3, _⟩ := DataW.trod_int (cs := [c3]) (x := y3) Try.underlying3 (by simpa using g3)
      obtain ⟨c, q4, _⟩ := DataW.trod_int (cs := [c4]) (x := y4) Try.underlying3 (by simpa using g4)
      obtain ⟨d, q5, _⟩ := DataW.trod_int (cs := [c5]) (x := y5) Try.underlying3 (by simpa using g5)
      simp at q2 q3 q4 q5
      subst q2 q3 q4 q5
      exact ⟨⟨es, ls, a, b, c, d⟩, c0, c1, rfl, q0, q1⟩
end
end Go.Proofs.Ytapmlnpdjdneoaa
