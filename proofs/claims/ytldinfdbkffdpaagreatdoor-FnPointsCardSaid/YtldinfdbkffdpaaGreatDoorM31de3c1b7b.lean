/- Contracts of functions that the proof leans on. No condition. -/
import Derived.Test.YtldinfdbkffdpaaGreatDoorM2a8bb19f50
import Derived.Deep.RegionHeld3
import Derived.ProofKit
import Derived.OpenShut
import Derived.ChangeOld
/- FnPoints: the law. -/
namespace Go.Proofs.YtldinfdbkffdpaaGreatDoor
set_option linter.unusedVariables false
set_option linter.unusedSimpArgs false
open Go.RowKit Go.Lib

theorem sameInts_any (v1 v2 : Value) (zs ys : List Int) (w : World) (h1 : Ints w v1 zs) (h2 : Ints w v2 ys) :
    Calls Tryz.prog 14 #[v1, v2] w fun e w' => e = .returned (.bool (decide (zs = ys))) ∧ Kept w w' := by
  obtain ⟨A, c, rfl, hnc, hcm, hl⟩ := h1.out
  obtain ⟨A2, c2, rfl, hnc2, hcm2, hl2⟩ := h2.out
  unfold maxLen at hcm hcm2
  have HL := Lib.hid hl
  have HL2 := Lib.hid hl2
  clear hl h1 hl2 h2
  by_cases hlen : zs.length = ys.length
  · have hne : ((zs.length : Int) != (ys.length : Int)) = false := by simp [hlen]
    have HN := Lib.hid hlen
    clear hlen
    go_enter Tryz.func14, Tryz.ntmps14
    go_wp2
    go_loopw [13] (fun i wr => ∃ k : Nat, k ≤ zs.length ∧ i = .int .i64 k ∧ zs.take k = ys.take k ∧ Kept w wr) (fun i _ => zs.length - (RowKit.intOf i).toNat)
    case atStart => exact ⟨0, Nat.zero_le _, rfl, rfl, Kept.refl _⟩
    case round =>
      obtain ⟨k, hk, rfl, ht, hkept⟩ := hrel
      have HT := Lib.hid ht
      clear ht
      by_cases hlt : k < zs.length
      · have hlt2 : k < ys.length := by rw [← HN.out]; exact hlt
        obtain ⟨b, o, z, rfl, hb, hz, hc⟩ := ints_at (HL.out.kept hkept) hlt
        obtain ⟨b2, o2, z2, rfl, hb2, hz2, hc2⟩ := ints_at (HL2.out.kept hkept) hlt2
        have HZ := Lib.hid hz
        have HZ2 := Lib.hid hz2
        clear hz hz2
        go_wp2
        go_quiet (fail)
        go_wp2
        · have hzz : (z != z2) = true := by assumption
          go_ret
          refine ⟨?_, hkept.drewN _⟩
          have : ¬ zs = ys := fun e => by
            have e1 := HZ.out
            rw [e, HZ2.out] at e1
            simp at e1
            simp [e1] at hzz
          simp [this]
        · have hzz : (z != z2) = false := by assumption
          go_roundw
          case rel =>
            refine ⟨k + 1, by omega, by go_num, ?_, hkept.drewN _⟩
            have : z = z2 := by simpa using hzz
            subst this
            rw [take_snoc HZ.out, take_snoc HZ2.out, HT.out]
          case measure => simp [RowKit.intOf]; omega
      · obtain rfl : k = zs.length := by omega
        go_wp2
        go_ret
        have e := take_full rfl HN.out.symm HT.out
        exact ⟨by simp [e], hkept⟩
  · have hne : ((zs.length : Int) != (ys.length : Int)) = true := by simp; omega
    have hz : ¬ zs = ys := fun e => hlen (by rw [e])
    have HZ := Lib.hid hz
    clear hz
    go_enter Tryz.func14, Tryz.ntmps14
    go_wp2
    go_ret
    exact ⟨by simp [HZ.out], Kept.refl _⟩
set_option maxRecDepth 100000 in
set_option maxHeartbeats 40000000 in
theorem lawFnPoints_any (v0 v1 : Value) (w : World) (h0 : Byts w v0) (h1 : Byts w v1) (ht : HasTab w) (hm : HasMax w) :
    Calls Tryz.prog 3 #[v0, v1] w fun e w' => e = .returned (.bool true) ∧ Kept w w' := by
  have H0 := Lib.hid h0
  have H1 := Lib.hid h1
  have HTB := Lib.hid ht
  have HMX := Lib.hid hm
  clear ht hm
  obtain ⟨A0, n0, c0, rfl, _, _, _⟩ := h0
  obtain ⟨A1, n1, c1, rfl, _, _, _⟩ := h1
  go_enter Tryz.func3, Tryz.ntmps3
  have K0 := Kept.refl w
  go_wp2_with fail
  with_reducible refine (big_any _ _ w H0.out H1.out).mono ?_
  rintro e w1 ⟨⟨b1, rfl⟩, k1⟩
  have K1 := K0.trans k1
  have sz1 := k1.size
  clear k1
  cases b1 with
  | true =>
    go_wp2_with fail
    go_ret
    exact ⟨rfl, K1⟩
  | false =>
    go_wp2_with fail
    with_reducible refine (drawPointsText_any _ _ (H0.out.kept K1)).mono ?_
    rintro e w2 ⟨⟨a, rfl, ha, hb⟩, k2⟩
    have K2 := K1.trans k2
    have sz2 := k2.size
    clear k2
    go_wp2_with fail
    with_reducible refine (implPointsText_any a _ (HTB.out.kept K2)).mono ?_
    rintro e w3 ⟨rfl, k3⟩
    have K3 := K2.trans k3
    have sz3 := k3.size
    clear k3
    go_wp2_with fail
    with_reducible refine (specPointsText_any a _).mono ?_
    rintro e w4 ⟨rfl, k4⟩
    have K4 := K3.trans k4
    have sz4 := k4.size
    clear k4
    cases hok : inB a (-1000000) 1000000 with
    | false =>
      clear hok
      go_wp2_with fail
      with_reducible refine (drawReadPoints_any _ _ (H1.out.kept K4)).mono ?_
      rintro e w5 ⟨⟨t, rfl, ht⟩, k5⟩
      have K5 := K4.trans k5
      have sz5 := k5.size
      clear k5
      go_wp2_with fail
      with_reducible refine (implReadPoints_any t _ (by omega) (HTB.out.kept K5) (HMX.out.kept K5)).mono ?_
      rintro e w6 ⟨rv, ro, rfl, ir, k6⟩
      have K6 := K5.trans k6
      have sz6 := k6.size
      clear k6
      go_wp2_with fail
      with_reducible refine (specReadPoints_any t _ (by omega)).mono ?_
      rintro e w7 ⟨sv, so, rfl, is_, k7⟩
      have K7 := K6.trans k7
      have sz7 := k7.size
      clear k7
      obtain ⟨rfl, rfl⟩ := ir.same is_
      clear ir is_
      go_wp2_with fail
      with_reducible refine (drawSorted_any _ _ (H1.out.kept K7)).mono ?_
      rintro e w8 ⟨⟨vl, zs, rfl, o8, hz⟩, k8⟩
      have K8 := K7.trans k8
      have sz8 := k8.size
      clear k8
      have HL := Lib.hid o8.ints
      obtain ⟨Al, cl, rfl, hnl, hml, _⟩ := own_form o8
      unfold maxLen at hml
      clear o8
      go_wp2_with fail
      with_reducible refine (implSortedPoints_any _ zs _ HL.out).mono ?_
      rintro e w9 ⟨vo, rfl, o9, k9⟩
      have K9 := K8.trans k9
      have sz9 := k9.size
      replace HL := Lib.hid (HL.out.kept k9)
      clear k9
      have HO := Lib.hid o9.ints
      obtain ⟨Ao, co, rfl, hno, hmo, _⟩ := own_form o9
      unfold maxLen at hmo
      clear o9
      go_wp2_with fail
      with_reducible refine (specSortedPoints_any _ zs _ HL.out).mono ?_
      rintro e w10 ⟨vs, rfl, o10, k10⟩
      have K10 := K9.trans k10
      have sz10 := k10.size
      replace HL := Lib.hid (HL.out.kept k10)
      replace HO := Lib.hid (HO.out.kept k10)
      clear k10
      have HS := Lib.hid o10.ints
      obtain ⟨As, cs, rfl, hns, hms, _⟩ := own_form o10
      unfold maxLen at hms
      clear o10
      go_wp2_with fail
      with_reducible refine (sameInts_any _ _ (spV zs) (spV zs) _ HO.out HS.out).mono ?_
      rintro e w11 ⟨rfl, k11⟩
      have K11 := K10.trans k11
      have sz11 := k11.size
      replace HL := Lib.hid (HL.out.kept k11)
      replace HO := Lib.hid (HO.out.kept k11)
      replace HS := Lib.hid (HS.out.kept k11)
      clear k11
      rw [show decide (spV zs = spV zs) = true from by simp]
      clear HO
      cases hok3 : ptsB zs with
      | false =>
        clear hok3
        go_wp2_with fail
        with_reducible refine (drawPercent_any _ _ (H1.out.kept K11)).mono ?_
        rintro e w12 ⟨⟨p1, p2, p3, rfl⟩, k12⟩
        have K12 := K11.trans k12
        have sz12 := k12.size
        replace HL := Lib.hid (HL.out.kept k12)
        replace HS := Lib.hid (HS.out.kept k12)
        clear k12
        go_wp2_with fail
        with_reducible refine (implPercent_any p1 p2 p3 _).mono ?_
        rintro e w13 ⟨rfl, k13⟩
        have K13 := K12.trans k13
        have sz13 := k13.size
        replace HL := Lib.hid (HL.out.kept k13)
        replace HS := Lib.hid (HS.out.kept k13)
        clear k13
        go_wp2_with fail
        with_reducible refine (specPercent_any p1 p2 p3 _).mono ?_
        rintro e w14 ⟨rfl, k14⟩
        have K14 := K13.trans k14
        have sz14 := k14.size
        replace HL := Lib.hid (HL.out.kept k14)
        replace HS := Lib.hid (HS.out.kept k14)
        clear k14
        generalize pctV p1 p2 p3 = pv
        generalize pctOk p1 p2 p3 = po
        go_wp2_with fail
        with_reducible refine (drawPlace_any _ _ (H1.out.kept K14)).mono ?_
        rintro e w15 ⟨⟨vu, us, un, rfl, o15, hzu⟩, k15⟩
        have K15 := K14.trans k15
        have sz15 := k15.size
        replace HL := Lib.hid (HL.out.kept k15)
        replace HS := Lib.hid (HS.out.kept k15)
        clear k15
        have HU := Lib.hid o15.ints
        obtain ⟨Au, cu, rfl, hnu, hmu, _⟩ := own_form o15
        unfold maxLen at hmu
        clear o15
        go_wp2_with fail
        with_reducible refine (implPlace_any _ us un _ HU.out).mono ?_
        rintro e w16 ⟨rfl, k16⟩
        have K16 := K15.trans k16
        have sz16 := k16.size
        replace HU := Lib.hid (HU.out.kept k16)
        clear k16
        go_wp2_with fail
        with_reducible refine (specPlace_any _ us un _ HU.out).mono ?_
        rintro e w17 ⟨rfl, k17⟩
        have K17 := K16.trans k17
        have sz17 := k17.size
        replace HU := Lib.hid (HU.out.kept k17)
        clear k17
        generalize placeV us un = qv
        generalize placeOk us un = qo
        go_wp2_with fail
        with_reducible refine (drawSum_any _ _ (H1.out.kept K17)).mono ?_
        rintro e w18 ⟨⟨vw, ws, rfl, o18, hzw⟩, k18⟩
        have K18 := K17.trans k18
        have sz18 := k18.size
        clear k18
        have HW := Lib.hid o18.ints
        obtain ⟨Aw, cw, rfl, hnw, hmw, _⟩ := own_form o18
        unfold maxLen at hmw
        clear o18
        go_wp2_with fail
        with_reducible refine (implSum_any _ ws _ HW.out).mono ?_
        rintro e w19 ⟨rfl, k19⟩
        have K19 := K18.trans k19
        have sz19 := k19.size
        replace HW := Lib.hid (HW.out.kept k19)
        clear k19
        go_wp2_with fail
        with_reducible refine (specSum_any _ ws _ HW.out).mono ?_
        rintro e w20 ⟨rfl, k20⟩
        have K20 := K19.trans k20
        have sz20 := k20.size
        replace HW := Lib.hid (HW.out.kept k20)
        clear k20
        generalize sumV ws = sv
        generalize sumOk ws = so2
        go_wp2_with fail
        go_ret
        exact ⟨rfl, K20⟩
      | true =>
        rw [spV_yes hok3] at HS hns ⊢
        have HP := Lib.hid hok3
        have hlen := sort_len zs
        have h60 := (pts_bd hok3).1
        have HPS := Lib.hid (sort_ptsB hok3)
        have HSU := Lib.hid (sort_sum zs)
        have HSP := Lib.hid (fun i x h => sort_place (zs := zs) (i := i) (x := x) h)
        have HSG := Lib.hid (fun i x h => sort_good (zs := zs) hok3 (i := i) (x := x) h)
        have HSD := Lib.hid (fun i x y h h2 => sort_desc (zs := zs) (i := i) (x := x) (y := y) h h2)
        clear hok3
        generalize sortD zs = ss at *
        rw [← hlen] at h60
        clear hlen
        go_wp2_with fail
        go_loopw [128] (fun i wr => ∃ k : Nat, k ≤ ss.length ∧ i = .int .i64 k ∧ Kept w11 wr) (fun i _ => ss.length - (RowKit.intOf i).toNat)
        case atStart => exact ⟨0, Nat.zero_le _, rfl, Kept.refl _⟩
        case round =>
          obtain ⟨k, hk, rfl, hki⟩ := hrel
          have KL := K11.trans hki
          have szr := hki.size
          by_cases hlt : k < ss.length
          · obtain ⟨b, o, x, rfl, hb, hz, hc⟩ := ints_at (HS.out.addr.kept hki) hlt
            have HX := Lib.hid hz
            have HC := Lib.hid hc
            obtain ⟨q1, x1, x2⟩ := HSG.out k x hz
            have q2 := HSP.out k x hz
            have q3 := place_pos zs x
            have Q : Hid (placeV zs x = place zs x ∧ placeOk zs x = true) := Lib.hid ⟨by unfold placeV; rw [q1]; rfl, q1⟩
            clear q1 hz
            have C := Lib.hid (implPlace_any _ zs x wr (HL.out.kept hki))
            go_wp2_with fail
            refine C.out.mono ?_
            rintro e wq ⟨rfl, kq⟩
            have szq := kq.size
            rw [Q.out.1, Q.out.2]
            generalize place zs x = pl at *
            have g1 : decide (pl > (k : Int) + 1) = false := by simp; omega
            rcases Nat.eq_zero_or_pos k with h0 | h0
            · subst h0
              go_wp2_with fail
              go_roundw
              case rel => exact ⟨1, by omega, by go_num, hki.trans kq⟩
              case measure => simp [RowKit.intOf]; omega
            · obtain ⟨j, rfl⟩ : ∃ j, k = j + 1 := ⟨k - 1, by omega⟩
              obtain ⟨b2, o2, y, e2, hb2, hz2, hc2⟩ := ints_at (HS.out.addr.kept (hki.trans kq)) (show j < ss.length by omega)
              cases e2
              have yx := HSD.out j y x hz2 HX.out
              clear hz2
              go_wp2_with fail
              go_roundw
              case rel => exact ⟨j + 2, by omega, by go_num, hki.trans kq⟩
              case measure => simp [RowKit.intOf]; omega
          · obtain rfl : k = ss.length := by omega
            replace HL := Lib.hid (HL.out.kept hki)
            replace HS := Lib.hid (HS.out.kept hki)
            clear hki
            go_wp2_with fail
            with_reducible refine (implSum_any _ zs _ HL.out).mono ?_
            rintro e w12 ⟨rfl, k12⟩
            have K12 := KL.trans k12
            have sz12 := k12.size
            replace HL := Lib.hid (HL.out.kept k12)
            replace HS := Lib.hid (HS.out.kept k12)
            clear k12
            cases hso : sumOk zs with
            | false =>
              clear hso
              generalize sumV zs = sv0
              go_wp2_with fail
              with_reducible refine (drawPercent_any _ _ (H1.out.kept K12)).mono ?_
              rintro e w13 ⟨⟨p1, p2, p3, rfl⟩, k13⟩
              have K13 := K12.trans k13
              have sz13 := k13.size
              replace HL := Lib.hid (HL.out.kept k13)
              replace HS := Lib.hid (HS.out.kept k13)
              clear k13
              go_wp2_with fail
              with_reducible refine (implPercent_any p1 p2 p3 _).mono ?_
              rintro e w14 ⟨rfl, k14⟩
              have K14 := K13.trans k14
              have sz14 := k14.size
              replace HL := Lib.hid (HL.out.kept k14)
              replace HS := Lib.hid (HS.out.kept k14)
              clear k14
              go_wp2_with fail
              with_reducible refine (specPercent_any p1 p2 p3 _).mono ?_
              rintro e w15 ⟨rfl, k15⟩
              have K15 := K14.trans k15
              have sz15 := k15.size
              replace HL := Lib.hid (HL.out.kept k15)
              replace HS := Lib.hid (HS.out.kept k15)
              clear k15
              generalize pctV p1 p2 p3 = pv
              generalize pctOk p1 p2 p3 = po
              go_wp2_with fail
              with_reducible refine (drawPlace_any _ _ (H1.out.kept K15)).mono ?_
              rintro e w16 ⟨⟨vu, us, un, rfl, o16, hzu⟩, k16⟩
              have K16 := K15.trans k16
              have sz16 := k16.size
              replace HL := Lib.hid (HL.out.kept k16)
              replace HS := Lib.hid (HS.out.kept k16)
              clear k16
              have HU := Lib.hid o16.ints
              obtain ⟨Au, cu, rfl, hnu, hmu, _⟩ := own_form o16
              unfold maxLen at hmu
              clear o16
              go_wp2_with fail
              with_reducible refine (implPlace_any _ us un _ HU.out).mono ?_
              rintro e w17 ⟨rfl, k17⟩
              have K17 := K16.trans k17
              have sz17 := k17.size
              replace HU := Lib.hid (HU.out.kept k17)
              clear k17
              go_wp2_with fail
              with_reducible refine (specPlace_any _ us un _ HU.out).mono ?_
              rintro e w18 ⟨rfl, k18⟩
              have K18 := K17.trans k18
              have sz18 := k18.size
              replace HU := Lib.hid (HU.out.kept k18)
              clear k18
              generalize placeV us un = qv
              generalize placeOk us un = qo
              go_wp2_with fail
              with_reducible refine (drawSum_any _ _ (H1.out.kept K18)).mono ?_
              rintro e w19 ⟨⟨vw, ws, rfl, o19, hzw⟩, k19⟩
              have K19 := K18.trans k19
              have sz19 := k19.size
              clear k19
              have HW := Lib.hid o19.ints
              obtain ⟨Aw, cw, rfl, hnw, hmw, _⟩ := own_form o19
              unfold maxLen at hmw
              clear o19
              go_wp2_with fail
              with_reducible refine (implSum_any _ ws _ HW.out).mono ?_
              rintro e w20 ⟨rfl, k20⟩
              have K20 := K19.trans k20
              have sz20 := k20.size
              replace HW := Lib.hid (HW.out.kept k20)
              clear k20
              go_wp2_with fail
              with_reducible refine (specSum_any _ ws _ HW.out).mono ?_
              rintro e w21 ⟨rfl, k21⟩
              have K21 := K20.trans k21
              have sz21 := k21.size
              replace HW := Lib.hid (HW.out.kept k21)
              clear k21
              generalize sumV ws = sv
              generalize sumOk ws = so2
              go_wp2_with fail
              go_ret
              exact ⟨rfl, K21⟩
            | true =>
              rw [show sumV zs = ss.sum from by unfold sumV; rw [hso, HSU.out]; rfl]
              clear hso
              go_wp2_with fail
              refine (pSum_any _ ss _ HS.out HPS.out).mono ?_
              rintro e w' ⟨rfl, rfl⟩
              go_wp2_with fail
              with_reducible refine (drawPercent_any _ _ (H1.out.kept K12)).mono ?_
              rintro e w14 ⟨⟨p1, p2, p3, rfl⟩, k14⟩
              have K14 := K12.trans k14
              have sz14 := k14.size
              replace HL := Lib.hid (HL.out.kept k14)
              replace HS := Lib.hid (HS.out.kept k14)
              clear k14
              go_wp2_with fail
              with_reducible refine (implPercent_any p1 p2 p3 _).mono ?_
              rintro e w15 ⟨rfl, k15⟩
              have K15 := K14.trans k15
              have sz15 := k15.size
              replace HL := Lib.hid (HL.out.kept k15)
              replace HS := Lib.hid (HS.out.kept k15)
              clear k15
              go_wp2_with fail
              with_reducible refine (specPercent_any p1 p2 p3 _).mono ?_
              rintro e w16 ⟨rfl, k16⟩
              have K16 := K15.trans k16
              have sz16 := k16.size
              replace HL := Lib.hid (HL.out.kept k16)
              replace HS := Lib.hid (HS.out.kept k16)
              clear k16
              generalize pctV p1 p2 p3 = pv
              generalize pctOk p1 p2 p3 = po
              go_wp2_with fail
              with_reducible refine (drawPlace_any _ _ (H1.out.kept K16)).mono ?_
              rintro e w17 ⟨⟨vu, us, un, rfl, o17, hzu⟩, k17⟩
              have K17 := K16.trans k17
              have sz17 := k17.size
              replace HL := Lib.hid (HL.out.kept k17)
              replace HS := Lib.hid (HS.out.kept k17)
              clear k17
              have HU := Lib.hid o17.ints
              obtain ⟨Au, cu, rfl, hnu, hmu, _⟩ := own_form o17
              unfold maxLen at hmu
              clear o17
              go_wp2_with fail
              with_reducible refine (implPlace_any _ us un _ HU.out).mono ?_
              rintro e w18 ⟨rfl, k18⟩
              have K18 := K17.trans k18
              have sz18 := k18.size
              replace HU := Lib.hid (HU.out.kept k18)
              clear k18
              go_wp2_with fail
              with_reducible refine (specPlace_any _ us un _ HU.out).mono ?_
              rintro e w19 ⟨rfl, k19⟩
              have K19 := K18.trans k19
              have sz19 := k19.size
              replace HU := Lib.hid (HU.out.kept k19)
              clear k19
              generalize placeV us un = qv
              generalize placeOk us un = qo
              go_wp2_with fail
              with_reducible refine (drawSum_any _ _ (H1.out.kept K19)).mono ?_
              rintro e w20 ⟨⟨vw, ws, rfl, o20, hzw⟩, k20⟩
              have K20 := K19.trans k20
              have sz20 := k20.size
              clear k20
              have HW := Lib.hid o20.ints
              obtain ⟨Aw, cw, rfl, hnw, hmw, _⟩ := own_form o20
              unfold maxLen at hmw
              clear o20
              go_wp2_with fail
              with_reducible refine (implSum_any _ ws _ HW.out).mono ?_
              rintro e w21 ⟨rfl, k21⟩
              have K21 := K20.trans k21
              have sz21 := k21.size
              replace HW := Lib.hid (HW.out.kept k21)
              clear k21
              go_wp2_with fail
              with_reducible refine (specSum_any _ ws _ HW.out).mono ?_
              rintro e w22 ⟨rfl, k22⟩
              have K22 := K21.trans k22
              have sz22 := k22.size
              replace HW := Lib.hid (HW.out.kept k22)
              clear k22
              generalize sumV ws = sv
              generalize sumOk ws = so2
              go_wp2_with fail
              go_ret
              exact ⟨rfl, K22⟩
    | true =>
      have hn := inB_true hok
      have hsz := ptT_wide (n := a) (by omega)
      rw [ptV_yes hok]
      clear hok
      go_wp2_with fail
      with_reducible refine (implReadPoints_any (ptT a) _ (by omega) (HTB.out.kept K4) (HMX.out.kept K4)).mono ?_
      rintro e w5 ⟨bv, bo, rfl, ib, k5⟩
      have K5 := K4.trans k5
      have sz5 := k5.size
      clear k5
      obtain ⟨rfl, rfl⟩ := read_back ⟨hn.1, hn.2⟩ ib
      clear ib hsz
      generalize ptT _ = pt
      go_wp2_with fail
      with_reducible refine (drawReadPoints_any _ _ (H1.out.kept K5)).mono ?_
      rintro e w6 ⟨⟨t, rfl, ht⟩, k6⟩
      have K6 := K5.trans k6
      have sz6 := k6.size
      clear k6
      go_wp2_with fail
      with_reducible refine (implReadPoints_any t _ (by omega) (HTB.out.kept K6) (HMX.out.kept K6)).mono ?_
      rintro e w7 ⟨rv, ro, rfl, ir, k7⟩
      have K7 := K6.trans k7
      have sz7 := k7.size
      clear k7
      go_wp2_with fail
      with_reducible refine (specReadPoints_any t _ (by omega)).mono ?_
      rintro e w8 ⟨sv, so, rfl, is_, k8⟩
      have K8 := K7.trans k8
      have sz8 := k8.size
      clear k8
      obtain ⟨rfl, rfl⟩ := ir.same is_
      clear ir is_
      go_wp2_with fail
      with_reducible refine (drawSorted_any _ _ (H1.out.kept K8)).mono ?_
      rintro e w9 ⟨⟨vl, zs, rfl, o9, hz⟩, k9⟩
      have K9 := K8.trans k9
      have sz9 := k9.size
      clear k9
      have HL := Lib.hid o9.ints
      obtain ⟨Al, cl, rfl, hnl, hml, _⟩ := own_form o9
      unfold maxLen at hml
      clear o9
      go_wp2_with fail
      with_reducible refine (implSortedPoints_any _ zs _ HL.out).mono ?_
      rintro e w10 ⟨vo, rfl, o10, k10⟩
      have K10 := K9.trans k10
      have sz10 := k10.size
      replace HL := Lib.hid (HL.out.kept k10)
      clear k10
      have HO := Lib.hid o10.ints
      obtain ⟨Ao, co, rfl, hno, hmo, _⟩ := own_form o10
      unfold maxLen at hmo
      clear o10
      go_wp2_with fail
      with_reducible refine (specSortedPoints_any _ zs _ HL.out).mono ?_
      rintro e w11 ⟨vs, rfl, o11, k11⟩
      have K11 := K10.trans k11
      have sz11 := k11.size
      replace HL := Lib.hid (HL.out.kept k11)
      replace HO := Lib.hid (HO.out.kept k11)
      clear k11
      have HS := Lib.hid o11.ints
      obtain ⟨As, cs, rfl, hns, hms, _⟩ := own_form o11
      unfold maxLen at hms
      clear o11
      go_wp2_with fail
      with_reducible refine (sameInts_any _ _ (spV zs) (spV zs) _ HO.out HS.out).mono ?_
      rintro e w12 ⟨rfl, k12⟩
      have K12 := K11.trans k12
      have sz12 := k12.size
      replace HL := Lib.hid (HL.out.kept k12)
      replace HO := Lib.hid (HO.out.kept k12)
      replace HS := Lib.hid (HS.out.kept k12)
      clear k12
      rw [show decide (spV zs = spV zs) = true from by simp]
      clear HO
      cases hok3 : ptsB zs with
      | false =>
        clear hok3
        go_wp2_with fail
        with_reducible refine (drawPercent_any _ _ (H1.out.kept K12)).mono ?_
        rintro e w13 ⟨⟨p1, p2, p3, rfl⟩, k13⟩
        have K13 := K12.trans k13
        have sz13 := k13.size
        replace HL := Lib.hid (HL.out.kept k13)
        replace HS := Lib.hid (HS.out.kept k13)
        clear k13
        go_wp2_with fail
        with_reducible refine (implPercent_any p1 p2 p3 _).mono ?_
        rintro e w14 ⟨rfl, k14⟩
        have K14 := K13.trans k14
        have sz14 := k14.size
        replace HL := Lib.hid (HL.out.kept k14)
        replace HS := Lib.hid (HS.out.kept k14)
        clear k14
        go_wp2_with fail
        with_reducible refine (specPercent_any p1 p2 p3 _).mono ?_
        rintro e w15 ⟨rfl, k15⟩
        have K15 := K14.trans k15
        have sz15 := k15.size
        replace HL := Lib.hid (HL.out.kept k15)
        replace HS := Lib.hid (HS.out.kept k15)
        clear k15
        generalize pctV p1 p2 p3 = pv
        generalize pctOk p1 p2 p3 = po
        go_wp2_with fail
        with_reducible refine (drawPlace_any _ _ (H1.out.kept K15)).mono ?_
        rintro e w16 ⟨⟨vu, us, un, rfl, o16, hzu⟩, k16⟩
        have K16 := K15.trans k16
        have sz16 := k16.size
        replace HL := Lib.hid (HL.out.kept k16)
        replace HS := Lib.hid (HS.out.kept k16)
        clear k16
        have HU := Lib.hid o16.ints
        obtain ⟨Au, cu, rfl, hnu, hmu, _⟩ := own_form o16
        unfold maxLen at hmu
        clear o16
        go_wp2_with fail
        with_reducible refine (implPlace_any _ us un _ HU.out).mono ?_
        rintro e w17 ⟨rfl, k17⟩
        have K17 := K16.trans k17
        have sz17 := k17.size
        replace HU := Lib.hid (HU.out.kept k17)
        clear k17
        go_wp2_with fail
        with_reducible refine (specPlace_any _ us un _ HU.out).mono ?_
        rintro e w18 ⟨rfl, k18⟩
        have K18 := K17.trans k18
        have sz18 := k18.size
        replace HU := Lib.hid (HU.out.kept k18)
        clear k18
        generalize placeV us un = qv
        generalize placeOk us un = qo
        go_wp2_with fail
        with_reducible refine (drawSum_any _ _ (H1.out.kept K18)).mono ?_
        rintro e w19 ⟨⟨vw, ws, rfl, o19, hzw⟩, k19⟩
        have K19 := K18.trans k19
        have sz19 := k19.size
        clear k19
        have HW := Lib.hid o19.ints
        obtain ⟨Aw, cw, rfl, hnw, hmw, _⟩ := own_form o19
        unfold maxLen at hmw
        clear o19
        go_wp2_with fail
        with_reducible refine (implSum_any _ ws _ HW.out).mono ?_
        rintro e w20 ⟨rfl, k20⟩
        have K20 := K19.trans k20
        have sz20 := k20.size
        replace HW := Lib.hid (HW.out.kept k20)
        clear k20
        go_wp2_with fail
        with_reducible refine (specSum_any _ ws _ HW.out).mono ?_
        rintro e w21 ⟨rfl, k21⟩
        have K21 := K20.trans k21
        have sz21 := k21.size
        replace HW := Lib.hid (HW.out.kept k21)
        clear k21
        generalize sumV ws = sv
        generalize sumOk ws = so2
        go_wp2_with fail
        go_ret
        exact ⟨rfl, K21⟩
      | true =>
        rw [spV_yes hok3] at HS hns ⊢
        have HP := Lib.hid hok3
        have hlen := sort_len zs
        have h60 := (pts_bd hok3).1
        have HPS := Lib.hid (sort_ptsB hok3)
        have HSU := Lib.hid (sort_sum zs)
        have HSP := Lib.hid (fun i x h => sort_place (zs := zs) (i := i) (x := x) h)
        have HSG := Lib.hid (fun i x h => sort_good (zs := zs) hok3 (i := i) (x := x) h)
        have HSD := Lib.hid (fun i x y h h2 => sort_desc (zs := zs) (i := i) (x := x) (y := y) h h2)
        clear hok3
        generalize sortD zs = ss at *
        rw [← hlen] at h60
        clear hlen
        go_wp2_with fail
        go_loopw [128] (fun i wr => ∃ k : Nat, k ≤ ss.length ∧ i = .int .i64 k ∧ Kept w12 wr) (fun i _ => ss.length - (RowKit.intOf i).toNat)
        case atStart => exact ⟨0, Nat.zero_le _, rfl, Kept.refl _⟩
        case round =>
          obtain ⟨k, hk, rfl, hki⟩ := hrel
          have KL := K12.trans hki
          have szr := hki.size
          by_cases hlt : k < ss.length
          · obtain ⟨b, o, x, rfl, hb, hz, hc⟩ := ints_at (HS.out.addr.kept hki) hlt
            have HX := Lib.hid hz
            have HC := Lib.hid hc
            obtain ⟨q1, x1, x2⟩ := HSG.out k x hz
            have q2 := HSP.out k x hz
            have q3 := place_pos zs x
            have Q : Hid (placeV zs x = place zs x ∧ placeOk zs x = true) := Lib.hid ⟨by unfold placeV; rw [q1]; rfl, q1⟩
            clear q1 hz
            have C := Lib.hid (implPlace_any _ zs x wr (HL.out.kept hki))
            go_wp2_with fail
            refine C.out.mono ?_
            rintro e wq ⟨rfl, kq⟩
            have szq := kq.size
            rw [Q.out.1, Q.out.2]
            generalize place zs x = pl at *
            have g1 : decide (pl > (k : Int) + 1) = false := by simp; omega
            rcases Nat.eq_zero_or_pos k with h0 | h0
            · subst h0
              go_wp2_with fail
              go_roundw
              case rel => exact ⟨1, by omega, by go_num, hki.trans kq⟩
              case measure => simp [RowKit.intOf]; omega
            · obtain ⟨j, rfl⟩ : ∃ j, k = j + 1 := ⟨k - 1, by omega⟩
              obtain ⟨b2, o2, y, e2, hb2, hz2, hc2⟩ := ints_at (HS.out.addr.kept (hki.trans kq)) (show j < ss.length by omega)
              cases e2
              have yx := HSD.out j y x hz2 HX.out
              clear hz2
              go_wp2_with fail
              go_roundw
              case rel => exact ⟨j + 2, by omega, by go_num, hki.trans kq⟩
              case measure => simp [RowKit.intOf]; omega
          · obtain rfl : k = ss.length := by omega
            replace HL := Lib.hid (HL.out.kept hki)
            replace HS := Lib.hid (HS.out.kept hki)
            clear hki
            go_wp2_with fail
            with_reducible refine (implSum_any _ zs _ HL.out).mono ?_
            rintro e w13 ⟨rfl, k13⟩
            have K13 := KL.trans k13
            have sz13 := k13.size
            replace HL := Lib.hid (HL.out.kept k13)
            replace HS := Lib.hid (HS.out.kept k13)
            clear k13
            cases hso : sumOk zs with
            | false =>
              clear hso
              generalize sumV zs = sv0
              go_wp2_with fail
              with_reducible refine (drawPercent_any _ _ (H1.out.kept K13)).mono ?_
              rintro e w14 ⟨⟨p1, p2, p3, rfl⟩, k14⟩
              have K14 := K13.trans k14
              have sz14 := k14.size
              replace HL := Lib.hid (HL.out.kept k14)
              replace HS := Lib.hid (HS.out.kept k14)
              clear k14
              go_wp2_with fail
              with_reducible refine (implPercent_any p1 p2 p3 _).mono ?_
              rintro e w15 ⟨rfl, k15⟩
              have K15 := K14.trans k15
              have sz15 := k15.size
              replace HL := Lib.hid (HL.out.kept k15)
              replace HS := Lib.hid (HS.out.kept k15)
              clear k15
              go_wp2_with fail
              with_reducible refine (specPercent_any p1 p2 p3 _).mono ?_
              rintro e w16 ⟨rfl, k16⟩
              have K16 := K15.trans k16
              have sz16 := k16.size
              replace HL := Lib.hid (HL.out.kept k16)
              replace HS := Lib.hid (HS.out.kept k16)
              clear k16
              generalize pctV p1 p2 p3 = pv
              generalize pctOk p1 p2 p3 = po
              go_wp2_with fail
              with_reducible refine (drawPlace_any _ _ (H1.out.kept K16)).mono ?_
              rintro e w17 ⟨⟨vu, us, un, rfl, o17, hzu⟩, k17⟩
              have K17 := K16.trans k17
              have sz17 := k17.size
              replace HL := Lib.hid (HL.out.kept k17)
              replace HS := Lib.hid (HS.out.kept k17)
              clear k17
              have HU := Lib.hid o17.ints
              obtain ⟨Au, cu, rfl, hnu, hmu, _⟩ := own_form o17
              unfold maxLen at hmu
              clear o17
              go_wp2_with fail
              with_reducible refine (implPlace_any _ us un _ HU.out).mono ?_
              rintro e w18 ⟨rfl, k18⟩
              have K18 := K17.trans k18
              have sz18 := k18.size
              replace HU := Lib.hid (HU.out.kept k18)
              clear k18
              go_wp2_with fail
              with_reducible refine (specPlace_any _ us un _ HU.out).mono ?_
              rintro e w19 ⟨rfl, k19⟩
              have K19 := K18.trans k19
              have sz19 := k19.size
              replace HU := Lib.hid (HU.out.kept k19)
              clear k19
              generalize placeV us un = qv
              generalize placeOk us un = qo
              go_wp2_with fail
              with_reducible refine (drawSum_any _ _ (H1.out.kept K19)).mono ?_
              rintro e w20 ⟨⟨vw, ws, rfl, o20, hzw⟩, k20⟩
              have K20 := K19.trans k20
              have sz20 := k20.size
              clear k20
              have HW := Lib.hid o20.ints
              obtain ⟨Aw, cw, rfl, hnw, hmw, _⟩ := own_form o20
              unfold maxLen at hmw
              clear o20
              go_wp2_with fail
              with_reducible refine (implSum_any _ ws _ HW.out).mono ?_
              rintro e w21 ⟨rfl, k21⟩
              have K21 := K20.trans k21
              have sz21 := k21.size
              replace HW := Lib.hid (HW.out.kept k21)
              clear k21
              go_wp2_with fail
              with_reducible refine (specSum_any _ ws _ HW.out).mono ?_
              rintro e w22 ⟨rfl, k22⟩
              have K22 := K21.trans k22
              have sz22 := k22.size
              replace HW := Lib.hid (HW.out.kept k22)
              clear k22
              generalize sumV ws = sv
              generalize sumOk ws = so2
              go_wp2_with fail
              go_ret
              exact ⟨rfl, K22⟩
            | true =>
              rw [show sumV zs = ss.sum from by unfold sumV; rw [hso, HSU.out]; rfl]
              clear hso
              go_wp2_with fail
              refine (pSum_any _ ss _ HS.out HPS.out).mono ?_
              rintro e w' ⟨rfl, rfl⟩
              go_wp2_with fail
              with_reducible refine (drawPercent_any _ _ (H1.out.kept K13)).mono ?_
              rintro e w15 ⟨⟨p1, p2, p3, rfl⟩, k15⟩
              have K15 := K13.trans k15
              have sz15 := k15.size
              replace HL := Lib.hid (HL.out.kept k15)
              replace HS := Lib.hid (HS.out.kept k15)
              clear k15
              go_wp2_with fail
              with_reducible refine (implPercent_any p1 p2 p3 _).mono ?_
              rintro e w16 ⟨rfl, k16⟩
              have K16 := K15.trans k16
              have sz16 := k16.size
              replace HL := Lib.hid (HL.out.kept k16)
              replace HS := Lib.hid (HS.out.kept k16)
              clear k16
              go_wp2_with fail
              with_reducible refine (specPercent_any p1 p2 p3 _).mono ?_
              rintro e w17 ⟨rfl, k17⟩
              have K17 := K16.trans k17
              have sz17 := k17.size
              replace HL := Lib.hid (HL.out.kept k17)
              replace HS := Lib.hid (HS.out.kept k17)
              clear k17
              generalize pctV p1 p2 p3 = pv
              generalize pctOk p1 p2 p3 = po
              go_wp2_with fail
              with_reducible refine (drawPlace_any _ _ (H1.out.kept K17)).mono ?_
              rintro e w18 ⟨⟨vu, us, un, rfl, o18, hzu⟩, k18⟩
              have K18 := K17.trans k18
              have sz18 := k18.size
              replace HL := Lib.hid (HL.out.kept k18)
              replace HS := Lib.hid (HS.out.kept k18)
              clear k18
              have HU := Lib.hid o18.ints
              obtain ⟨Au, cu, rfl, hnu, hmu, _⟩ := own_form o18
              unfold maxLen at hmu
              clear o18
              go_wp2_with fail
              with_reducible refine (implPlace_any _ us un _ HU.out).mono ?_
              rintro e w19 ⟨rfl, k19⟩
              have K19 := K18.trans k19
              have sz19 := k19.size
              replace HU := Lib.hid (HU.out.kept k19)
              clear k19
              go_wp2_with fail
              with_reducible refine (specPlace_any _ us un _ HU.out).mono ?_
              rintro e w20 ⟨rfl, k20⟩
              have K20 := K19.trans k20
              have sz20 := k20.size
              replace HU := Lib.hid (HU.out.kept k20)
              clear k20
              generalize placeV us un = qv
              generalize placeOk us un = qo
              go_wp2_with fail
              with_reducible refine (drawSum_any _ _ (H1.out.kept K20)).mono ?_
              rintro e w21 ⟨⟨vw, ws, rfl, o21, hzw⟩, k21⟩
              have K21 := K20.trans k21
              have sz21 := k21.size
              clear k21
              have HW := Lib.hid o21.ints
              obtain ⟨Aw, cw, rfl, hnw, hmw, _⟩ := own_form o21
              unfold maxLen at hmw
              clear o21
              go_wp2_with fail
              with_reducible refine (implSum_any _ ws _ HW.out).mono ?_
              rintro e w22 ⟨rfl, k22⟩
              have K22 := K21.trans k22
              have sz22 := k22.size
              replace HW := Lib.hid (HW.out.kept k22)
              clear k22
              go_wp2_with fail
              with_reducible refine (specSum_any _ ws _ HW.out).mono ?_
              rintro e w23 ⟨rfl, k23⟩
              have K23 := K22.trans k23
              have sz23 := k23.size
              replace HW := Lib.hid (HW.out.kept k23)
              clear k23
              generalize sumV ws = sv
              generalize sumOk ws = so2
              go_wp2_with fail
              go_ret
              exact ⟨rfl, K23⟩
end Go.Proofs.YtldinfdbkffdpaaGreatDoor

/- Arguments opened: a slice of bytes. -/
namespace Go.Proofs.YtldinfdbkffdpaaGreatDoor
set_option linter.unusedVariables false
set_option linter.unusedSimpArgs false
set_option maxRecDepth 100000
open Go.ChangeShapes Go.WideShapes Go.ChangeAt Go.RowKit

theorem blockB_lt {w : World} {a : Addr} {v : Value} (h : w.cell? a = some v) : a.block < w.heap.size := by
  rcases Nat.lt_or_ge a.block w.heap.size with hlt | hge
  · exact hlt
  · unfold World.cell? at h
    rw [Array.getElem?_eq_none hge] at h
    cases h
theorem addB_at {b o : Nat} (i : Nat) : (⟨b, o, none⟩ : Addr).add i = ⟨b, o + i, none⟩ := by
  unfold Addr.add
  split <;> simp_all
theorem spotB_of {w : World} {x : Addr} {u : Value} (h : w.cell? (x.add 0) = some u) : ∃ b o, x = ⟨b, o, none⟩ := by
  obtain ⟨b, o, s⟩ := x
  have hs : s = none := by simpa [Addr.add] using World.cell?_spot h
  exact ⟨b, o, by rw [hs]⟩
section
variable {H : Type} {enc : TypeId × Value → H} {W : World} {r : Reach} {b0 base : Nat} {spare : Nat → Bool} {held : Bool} {v : Value} {d : DataW H} {p : List MemPlace} {x : DataW H × List MemPlace}
theorem wf_u8 {n : Int} (h : (Lit.int .u8 n).wf = true) : 0 ≤ n ∧ n ≤ 255 := by
  simp [Lit.wf] at h
  have e1 : IntKind.u8.min = 0 := rfl
  have e2 : IntKind.u8.max = 255 := rfl
  omega
theorem open_B (hv : Value.okWide Tryz.prog W r b0 22 v) (h : DataW.Trod enc Tryz.prog W base spare held 22 v d p) : Byts W v := by
  obtain ⟨a0, len0, cap0, rfl⟩ := okWide_slice Tryz.underlying22 hv
  obtain ⟨fuel, hf⟩ := h
  rcases open_ints Tryz.underlying22 Tryz.underlying5 (by kernel_rfl) hf with ⟨hcs, _⟩ | ⟨ad, len, cap, zs, hcs, _, hl, hm, hz, _, hcell, hwz⟩
  · injection hcs with hcs _
    injection hcs with e1 e2 e3
    subst e1 e2 e3
    exact ⟨none, 0, 0, rfl, Nat.le_refl _, Nat.zero_le _, fun h => absurd h (by omega)⟩
  · injection hcs with hcs _
    injection hcs with e1 e2 e3
    subst e1 e2 e3
    refine ⟨_, _, _, rfl, hl, hm, fun hn => ?_⟩
    have hge : len0 ≤ zs.length := by rw [hz]; split <;> omega
    obtain ⟨b, o, rfl⟩ := spotB_of (hcell 0 (by omega))
    have h0 := hcell 0 (by omega)
    rw [addB_at] at h0
    refine ⟨b, o, rfl, blockB_lt h0, fun j hj => ?_⟩
    have hc := hcell j (by omega)
    rw [addB_at] at hc
    have hw := wf_u8 (hwz _ (List.getElem_mem (show j < zs.length by omega)))
    refine ⟨zs[j]'(by omega), hw.1, hw.2, ?_⟩
    rw [hc, List.getD_eq_getElem?_getD, List.getElem?_eq_getElem (by omega)]
    rfl
end
end Go.Proofs.YtldinfdbkffdpaaGreatDoor
