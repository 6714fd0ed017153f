/- Contracts of functions that the proof leans on. No condition. -/
import Derived.Test.YtkekpolfdmmgeaaGreatDoorM3b964907e3
import Derived.ProofKit
import Derived.OpenShut
import Derived.ChangeOld
/- FnNotation: the law. -/
namespace Go.Proofs.YtkekpolfdmmgeaaGreatDoor
set_option linter.unusedVariables false
set_option linter.unusedSimpArgs false
open Go.RowKit

set_option maxRecDepth 100000 in
set_option maxHeartbeats 40000000 in
theorem lawFnNotation_any (v0 v1 : Value) (w : World) (h0 : Byts w v0) (h1 : Byts w v1) (hs : HasSigns w) (hm : HasMax w) :
    Calls Tryz.prog 4 #[v0, v1] w fun e w' => e = .returned (.bool true) ∧ Kept w w' := by
  have H0 := Lib.hid h0
  have H1 := Lib.hid h1
  have HSG := Lib.hid hs
  have HMX := Lib.hid hm
  clear hs hm
  obtain ⟨A0, n0, c0, rfl, hnc0, hcm0, _⟩ := h0
  obtain ⟨A1, n1, c1, rfl, hnc1, hcm1, _⟩ := h1
  unfold maxLen at hcm0 hcm1
  go_enter Tryz.func4, Tryz.ntmps4
  have K0 := Kept.refl w
  go_wp2_with fail
  with_reducible refine (big_any _ _ w H0.out H1.out).mono ?_
  rintro e wg ⟨⟨bb, rfl⟩, k0⟩
  have Kwg := K0.trans k0
  have szwg := k0.size
  clear k0
  cases bb
  case true =>
    go_wp2_with fail
    go_ret
    exact ⟨rfl, Kwg⟩
  go_wp2_with fail
  with_reducible refine (drawItemsText_any _ _ (H0.out.kept Kwg)).mono ?_
  rintro e w1 ⟨⟨vl, l, cs, rfl, ol, hll⟩, k1⟩
  have Kw1 := Kwg.trans k1
  have szw1 := k1.size
  clear k1
  have HL : Hid (ItemsAt w1 vl l) := Lib.hid ol.items
  have HLL := Lib.hid hll
  clear ol hll
  go_wp2_with fail
  with_reducible refine (implItemsText_any _ l _ HL.out (HSG.out.kept Kw1)).mono ?_
  rintro e w2 ⟨rfl, k2⟩
  have Kw2 := Kw1.trans k2
  have szw2 := k2.size
  replace HL := Lib.hid (HL.out.kept k2)
  clear k2
  go_wp2_with fail
  with_reducible refine (specItemsText_any _ l _ HL.out).mono ?_
  rintro e w3 ⟨rfl, k3⟩
  have Kw3 := Kw2.trans k3
  have szw3 := k3.size
  replace HL := Lib.hid (HL.out.kept k3)
  clear k3
  obtain ⟨s, hs⟩ : ∃ z, itsV l = z := ⟨_, rfl⟩
  obtain ⟨ok, hok⟩ : ∃ z, itemsB l = z := ⟨_, rfl⟩
  rw [hs, hok]
  have HS := Lib.hid hs
  have HOK := Lib.hid hok
  clear hs hok
  have e1 : (ok != ok) = false := by simp
  go_wp2_with fail
  with_reducible refine (areItems_any _ l _ HL.out).mono ?_
  rintro e w4 ⟨rfl, k4⟩
  have Kw4 := Kw3.trans k4
  have szw4 := k4.size
  replace HL := Lib.hid (HL.out.kept k4)
  clear k4
  rw [HOK.out]
  go_upto_if 70 with (fail)
  clear e1
  go_cut [70] (fun _ wx => Kept w4 wx)
  case first =>
    as_aux_lemma =>
    clear Kw3 Kw2 Kw1 Kwg K0
    cases ok with
    | false =>
      go_wp2_with fail
      go_meet
      exact Kept.refl _
    | true =>
      have HBK := Lib.hid (text_back HOK.out)
      rw [HS.out] at HBK
      have HSS : Hid (s.size ≤ 1048576) := Lib.hid (by rw [← HS.out]; exact its_small HOK.out)
      have HSX : Hid (HasSigns w4) := Lib.hid (HSG.out.kept Kw4)
      have HMM : Hid (HasMax w4) := Lib.hid (HMX.out.kept Kw4)
      have KW := Kept.refl w4
      clear HS HSG HMX
      go_wp2_with fail
      with_reducible refine (implParseItems_any s _ HSS.out HSX.out HMM.out).mono ?_
      rintro e w5 ⟨vb, S5, rfl, o5, k5⟩
      have Kw5 := KW.trans k5
      have szw5 := k5.size
      replace HL := Lib.hid (HL.out.kept k5)
      clear k5
      rw [HBK.out.2] at o5
      rw [HBK.out.1]
      have HB : Hid (ItemsAt w5 vb l) := Lib.hid o5.items
      clear o5
      go_wp2_with fail
      with_reducible refine (implCleanItems_any _ l _ HL.out).mono ?_
      rintro e w6 ⟨vc, S6, rfl, o6, k6⟩
      have Kw6 := Kw5.trans k6
      have szw6 := k6.size
      replace HL := Lib.hid (HL.out.kept k6)
      replace HB := Lib.hid (HB.out.kept k6)
      clear k6
      rw [HOK.out] at o6 ⊢
      have HC : Hid (ItemsAt w6 vc (cleaned l)) := Lib.hid o6.items
      clear o6
      go_wp2_with fail
      with_reducible refine (specCleanItems_any _ l _ HL.out).mono ?_
      rintro e w7 ⟨vk, S7, rfl, o7, k7⟩
      have Kw7 := Kw6.trans k7
      have szw7 := k7.size
      replace HL := Lib.hid (HL.out.kept k7)
      replace HB := Lib.hid (HB.out.kept k7)
      replace HC := Lib.hid (HC.out.kept k7)
      clear k7
      rw [HOK.out] at o7 ⊢
      have HK : Hid (ItemsAt w7 vk (cleaned l)) := Lib.hid o7.items
      clear o7
      go_wp2_with fail
      with_reducible refine (implSameCalls_any _ l _ (cleaned l) _ HL.out HC.out).mono ?_
      rintro e w8 ⟨rfl, k8⟩
      have Kw8 := Kw7.trans k8
      have szw8 := k8.size
      replace HL := Lib.hid (HL.out.kept k8)
      replace HB := Lib.hid (HB.out.kept k8)
      replace HC := Lib.hid (HC.out.kept k8)
      replace HK := Lib.hid (HK.out.kept k8)
      clear k8
      rw [cleaned_same HOK.out, HOK.out, cleaned_valid HOK.out]
      go_wp2_with fail
      with_reducible refine (implCountMarks_any _ l _ HL.out).mono ?_
      rintro e w9 ⟨vm, rfl, o9, k9⟩
      have Kw9 := Kw8.trans k9
      have szw9 := k9.size
      replace HL := Lib.hid (HL.out.kept k9)
      replace HB := Lib.hid (HB.out.kept k9)
      replace HC := Lib.hid (HC.out.kept k9)
      replace HK := Lib.hid (HK.out.kept k9)
      clear k9
      rw [HOK.out]
      have HM := Lib.hid o9.ints
      clear o9
      go_wp2_with fail
      with_reducible refine (specCountMarks_any _ l _ HL.out).mono ?_
      rintro e w10 ⟨vo, rfl, o10, k10⟩
      have Kw10 := Kw9.trans k10
      have szw10 := k10.size
      replace HL := Lib.hid (HL.out.kept k10)
      replace HB := Lib.hid (HB.out.kept k10)
      replace HC := Lib.hid (HC.out.kept k10)
      replace HK := Lib.hid (HK.out.kept k10)
      replace HM := Lib.hid (HM.out.kept k10)
      clear k10
      rw [HOK.out]
      have HO := Lib.hid o10.ints
      clear o10
      go_wp2_with fail
      with_reducible refine (implNamesIn_any _ l _ HL.out).mono ?_
      rintro e w11 ⟨vn, rfl, o11, k11⟩
      have Kw11 := Kw10.trans k11
      have szw11 := k11.size
      replace HL := Lib.hid (HL.out.kept k11)
      replace HB := Lib.hid (HB.out.kept k11)
      replace HC := Lib.hid (HC.out.kept k11)
      replace HK := Lib.hid (HK.out.kept k11)
      replace HM := Lib.hid (HM.out.kept k11)
      replace HO := Lib.hid (HO.out.kept k11)
      clear k11
      rw [HOK.out]
      have HN := Lib.hid o11.strs
      clear o11
      go_wp2_with fail
      with_reducible refine (specNamesIn_any _ l _ HL.out).mono ?_
      rintro e w12 ⟨va, rfl, o12, k12⟩
      have Kw12 := Kw11.trans k12
      have szw12 := k12.size
      replace HL := Lib.hid (HL.out.kept k12)
      replace HB := Lib.hid (HB.out.kept k12)
      replace HC := Lib.hid (HC.out.kept k12)
      replace HK := Lib.hid (HK.out.kept k12)
      replace HM := Lib.hid (HM.out.kept k12)
      replace HO := Lib.hid (HO.out.kept k12)
      replace HN := Lib.hid (HN.out.kept k12)
      clear k12
      rw [HOK.out]
      have HA := Lib.hid o12.strs
      obtain ⟨Aa, ca, rfl, hna, hma, _⟩ := own_form o12.1
      unfold maxLen at hma
      clear o12
      go_wp2_with fail
      with_reducible refine (pSameItems_any _ _ l _ HB.out HL.out).mono ?_
      rintro e w13 ⟨rfl, k13⟩
      have Kw13 := Kw12.trans k13
      have szw13 := k13.size
      replace HL := Lib.hid (HL.out.kept k13)
      replace HB := Lib.hid (HB.out.kept k13)
      replace HC := Lib.hid (HC.out.kept k13)
      replace HK := Lib.hid (HK.out.kept k13)
      replace HM := Lib.hid (HM.out.kept k13)
      replace HO := Lib.hid (HO.out.kept k13)
      replace HN := Lib.hid (HN.out.kept k13)
      replace HA := Lib.hid (HA.out.kept k13)
      clear k13
      go_wp2_with fail
      with_reducible refine (pSameItems_any _ _ (cleaned l) _ HC.out HK.out).mono ?_
      rintro e w14 ⟨rfl, k14⟩
      have Kw14 := Kw13.trans k14
      have szw14 := k14.size
      replace HL := Lib.hid (HL.out.kept k14)
      replace HB := Lib.hid (HB.out.kept k14)
      replace HC := Lib.hid (HC.out.kept k14)
      replace HK := Lib.hid (HK.out.kept k14)
      replace HM := Lib.hid (HM.out.kept k14)
      replace HO := Lib.hid (HO.out.kept k14)
      replace HN := Lib.hid (HN.out.kept k14)
      replace HA := Lib.hid (HA.out.kept k14)
      clear k14
      go_wp2_with fail
      with_reducible refine (sameIntsT_any _ _ (cmV l) _ HM.out HO.out).mono ?_
      rintro e w15 ⟨rfl, k15⟩
      have Kw15 := Kw14.trans k15
      have szw15 := k15.size
      replace HL := Lib.hid (HL.out.kept k15)
      replace HB := Lib.hid (HB.out.kept k15)
      replace HC := Lib.hid (HC.out.kept k15)
      replace HK := Lib.hid (HK.out.kept k15)
      replace HM := Lib.hid (HM.out.kept k15)
      replace HO := Lib.hid (HO.out.kept k15)
      replace HN := Lib.hid (HN.out.kept k15)
      replace HA := Lib.hid (HA.out.kept k15)
      clear k15
      go_wp2_with fail
      with_reducible refine (pSameNames_any _ _ (niV l) _ HN.out HA.out).mono ?_
      rintro e w16 ⟨rfl, k16⟩
      have Kw16 := Kw15.trans k16
      have szw16 := k16.size
      replace HL := Lib.hid (HL.out.kept k16)
      replace HB := Lib.hid (HB.out.kept k16)
      replace HC := Lib.hid (HC.out.kept k16)
      replace HK := Lib.hid (HK.out.kept k16)
      replace HM := Lib.hid (HM.out.kept k16)
      replace HO := Lib.hid (HO.out.kept k16)
      replace HN := Lib.hid (HN.out.kept k16)
      replace HA := Lib.hid (HA.out.kept k16)
      clear k16
      go_wp2_with fail
      clear HB HC HK HM HO HN HL HSX HMM
      go_loopw [26] (fun i wr => ∃ j : Nat, j ≤ (niV l).length ∧ i = .int .i64 ((j : Int) + 1) ∧ Kept w16 wr) (fun i _ => (niV l).length + 1 - (intOf i).toNat)
      case atStart => exact ⟨0, Nat.zero_le _, rfl, Kept.refl _⟩
      case round =>
        obtain ⟨j, hj, rfl, hkept⟩ := hrel
        have h42 := niV_short HOK.out
        have HKX := Lib.hid (Kw16.trans hkept)
        have hw1 : IntKind.i64.wrap ((j : Int) + 1 - 1) = (j : Int) := by rw [IntWalk.i64_in _ (by omega)]; omega
        have hw2 : IntKind.i64.wrap ((j : Int) + 1 + 1) = (j : Int) + 1 + 1 := by rw [IntWalk.i64_in _ (by omega)]
        by_cases hlt : j + 1 < (niV l).length
        · obtain ⟨b, o, x, rfl, hb, hx, hc⟩ := strs_at (HA.out.1.addr.kept hkept) (show j < (niV l).length by omega)
          obtain ⟨b2, o2, y, e2, hb2, hy, hc2⟩ := strs_at (HA.out.1.addr.kept hkept) hlt
          injection e2 with e2
          injection e2 with e3 e4
          subst e3 e4
          have hlt1 : (j : Int) + 1 < ((niV l).length : Int) := by omega
          have hlt2 : (j : Int) < ((niV l).length : Int) := by omega
          have hj0 : (0 : Int) ≤ (j : Int) + 1 := by omega
          have hN := niV_lt HOK.out hx hy
          have hge : (!Op.bytesLess x.toList y.toList) = false := by have q := hN; unfold nlt at q; rw [q]; rfl
          clear hx hy
          go_wp2_with fail
          go_quiet (fail)
          go_wp2_with fail
          go_roundw
          case rel => exact ⟨j + 1, by omega, by (first | rfl | (congr 1; omega)), hkept.drewN _⟩
          case measure => simp [intOf]; omega
        · have hlt1 : ¬ (j : Int) + 1 < ((niV l).length : Int) := by omega
          go_wp2_with fail
          go_meet
          exact HKX.out
  case rest =>
    as_aux_lemma =>
    have kx : Kept w4 wc := hcut
    clear hcut
    have Kwc := Kw4.trans kx
    have szwc := kx.size
    replace HL := Lib.hid (HL.out.kept kx)
    clear kx
    obtain ⟨wB, rfl⟩ : ∃ zz : World, zz = wc := ⟨_, rfl⟩
    clear HL HLL HS HOK
    clear Kw4 Kw3 Kw2 Kw1 Kwg K0
    go_wp2_with fail
    with_reducible refine (drawItemText_any _ _ (H1.out.kept Kwc)).mono ?_
    rintro e w5 ⟨⟨vi, it, rfl, ot, ⟨_, hin, him⟩, _⟩, k5⟩
    have Kw5 := Kwc.trans k5
    have szw5 := k5.size
    clear k5
    obtain ⟨evt, lvt, rfl, pt, qt, ndt⟩ := ot
    obtain ⟨At, ct, rfl, hnt, hmt, _⟩ := own_form pt.1
    obtain ⟨Dt, dt, rfl, hxt, hyt, _⟩ := own_form qt
    unfold maxLen at hmt hyt
    have HT : Hid (ItemAt w5 (.agg #[.slice At it.names.length ct, .slice Dt it.marks.length dt, .bool it.late]) it) := Lib.hid ⟨_, _, rfl, pt.strs, qt.ints⟩
    clear pt qt ndt
    go_wp2_with fail
    obtain ⟨w6, hw6⟩ : ∃ zz : World, zz = w5.alloc (.cells #[.slice At it.names.length ct, .slice Dt it.marks.length dt, .bool it.late] 64) := ⟨_, rfl⟩
    rw [← hw6]
    have kw6 : Kept w5 w6 := hw6 ▸ (Kept.refl w5).alloc _
    have BT : Hid (Box w6 (w5.heap.size) 64 #[.slice At it.names.length ct, .slice Dt it.marks.length dt, .bool it.late]) := Lib.hid (hw6 ▸ Box.new w5 _ _ _ rfl)
    clear hw6
    have Kw6 := Kw5.trans kw6
    have szw6 := kw6.size
    replace HT := Lib.hid (HT.out.kept kw6)
    clear kw6
    with_reducible refine (implItemText_any _ it _ HT.out (HSG.out.kept Kw6)).mono ?_
    rintro e w7 ⟨rfl, k7⟩
    have Kw7 := Kw6.trans k7
    have szw7 := k7.size
    replace HT := Lib.hid (HT.out.kept k7)
    replace BT := Lib.hid (BT.out.kept k7)
    clear k7
    obtain ⟨xBT, yBT⟩ := BT.out.three
    have lBT := BT.out.lt
    go_wp2_with fail
    clear xBT yBT lBT
    with_reducible refine (specItemText_any _ it _ HT.out).mono ?_
    rintro e w8 ⟨rfl, k8⟩
    have Kw8 := Kw7.trans k8
    have szw8 := k8.size
    replace HT := Lib.hid (HT.out.kept k8)
    replace BT := Lib.hid (BT.out.kept k8)
    clear k8
    obtain ⟨s, hs⟩ : ∃ z, itV it = z := ⟨_, rfl⟩
    obtain ⟨one, hone⟩ : ∃ z, itemB it = z := ⟨_, rfl⟩
    rw [hs, hone]
    have HS := Lib.hid hs
    have HON := Lib.hid hone
    clear hs hone
    have e1 : (one != one) = false := by simp
    obtain ⟨xBT, yBT⟩ := BT.out.three
    have lBT := BT.out.lt
    go_wp2_with fail
    clear xBT yBT lBT
    with_reducible refine (isItem_any _ it _ HT.out).mono ?_
    rintro e w9 ⟨rfl, k9⟩
    have Kw9 := Kw8.trans k9
    have szw9 := k9.size
    replace HT := Lib.hid (HT.out.kept k9)
    replace BT := Lib.hid (BT.out.kept k9)
    clear k9
    rw [HON.out]
    obtain ⟨xBT, yBT⟩ := BT.out.three
    have lBT := BT.out.lt
    go_upto_if 212 with (fail)
    clear xBT yBT lBT
    clear e1
    go_cut [212] (fun _ wx => Kept w9 wx)
    case first =>
      as_aux_lemma =>
      cases one with
      | false =>
        go_wp2_with fail
        go_meet
        exact Kept.refl _
      | true =>
        have HBK := Lib.hid (itext_back HON.out)
        rw [HS.out] at HBK
        have HSS : Hid (s.size ≤ 1048576) := Lib.hid (by rw [← HS.out, itV_yes HON.out]; have := itT_size HON.out; omega)
        have HSX : Hid (HasSigns w9) := Lib.hid (HSG.out.kept Kw9)
        have HMM : Hid (HasMax w9) := Lib.hid (HMX.out.kept Kw9)
        have KW := Kept.refl w9
        clear HS HSG HMX
        obtain ⟨xBT, yBT⟩ := BT.out.three
        have lBT := BT.out.lt
        go_wp2_with fail
        clear xBT yBT lBT
        with_reducible refine (implParseItem_any s _ HSS.out HSX.out HMM.out).mono ?_
        rintro e w10 ⟨vb, rfl, o10, k10⟩
        have Kw10 := KW.trans k10
        have szw10 := k10.size
        replace HT := Lib.hid (HT.out.kept k10)
        replace BT := Lib.hid (BT.out.kept k10)
        clear k10
        rw [HBK.out.2] at o10
        rw [HBK.out.1]
        obtain ⟨evb, lvb, rfl, pb, qb, ndb⟩ := o10
        obtain ⟨Ab, cb, rfl, hnb, hmb, _⟩ := own_form pb.1
        obtain ⟨Db, db, rfl, hxb, hyb, _⟩ := own_form qb
        unfold maxLen at hmb hyb
        have HB : Hid (ItemAt w10 (.agg #[.slice Ab it.names.length cb, .slice Db it.marks.length db, .bool it.late]) it) := Lib.hid ⟨_, _, rfl, pb.strs, qb.ints⟩
        clear pb qb ndb
        obtain ⟨xBT, yBT⟩ := BT.out.three
        have lBT := BT.out.lt
        go_wp2_with fail
        clear xBT yBT lBT
        obtain ⟨w11, hw11⟩ : ∃ zz : World, zz = w10.alloc (.cells #[.slice Ab it.names.length cb, .slice Db it.marks.length db, .bool it.late] 64) := ⟨_, rfl⟩
        rw [← hw11]
        have kw11 : Kept w10 w11 := hw11 ▸ (Kept.refl w10).alloc _
        have BB : Hid (Box w11 (w10.heap.size) 64 #[.slice Ab it.names.length cb, .slice Db it.marks.length db, .bool it.late]) := Lib.hid (hw11 ▸ Box.new w10 _ _ _ rfl)
        have hszw11 : w11.heap.size = w10.heap.size + 1 := by rw [hw11]; simp
        clear hw11
        have Kw11 := Kw10.trans kw11
        have szw11 := kw11.size
        replace HT := Lib.hid (HT.out.kept kw11)
        replace HB := Lib.hid (HB.out.kept kw11)
        replace BT := Lib.hid (BT.out.kept kw11)
        clear kw11
        have HZ1 := Lib.hid hszw11
        clear hszw11
        obtain ⟨xBT, yBT⟩ := BT.out.three
        have lBT := BT.out.lt
        obtain ⟨xBB, yBB⟩ := BB.out.three
        have lBB := BB.out.lt
        go_wp2_with fail
        clear xBT yBT lBT xBB yBB lBB
        have hszw11 := HZ1.out
        obtain ⟨w12, hw12⟩ : ∃ zz : World, zz = w11.alloc (.cells #[.slice Ab it.names.length cb, .slice Db it.marks.length db, .bool it.late] 64) := ⟨_, rfl⟩
        rw [← hw12]
        have kw12 : Kept w11 w12 := hw12 ▸ (Kept.refl w11).alloc _
        have BP : Hid (Box w12 (w10.heap.size + 1) 64 #[.slice Ab it.names.length cb, .slice Db it.marks.length db, .bool it.late]) := Lib.hid (hw12 ▸ Box.new w11 _ _ _ hszw11.symm)
        clear hszw11
        have hszw12 : w12.heap.size = w11.heap.size + 1 := by rw [hw12]; simp
        clear hw12
        have Kw12 := Kw11.trans kw12
        have szw12 := kw12.size
        replace HT := Lib.hid (HT.out.kept kw12)
        replace HB := Lib.hid (HB.out.kept kw12)
        replace BT := Lib.hid (BT.out.kept kw12)
        replace BB := Lib.hid (BB.out.kept kw12)
        clear kw12
        rw [HZ1.out] at hszw12
        obtain ⟨w13, hw13⟩ : ∃ zz : World, zz = w12.alloc (.cells #[.slice At it.names.length ct, .slice Dt it.marks.length dt, .bool it.late] 64) := ⟨_, rfl⟩
        rw [← hw13]
        have kw13 : Kept w12 w13 := hw13 ▸ (Kept.refl w12).alloc _
        have BQ : Hid (Box w13 (w10.heap.size + 1 + 1) 64 #[.slice At it.names.length ct, .slice Dt it.marks.length dt, .bool it.late]) := Lib.hid (hw13 ▸ Box.new w12 _ _ _ hszw12.symm)
        clear hszw12
        clear hw13
        have Kw13 := Kw12.trans kw13
        have szw13 := kw13.size
        replace HT := Lib.hid (HT.out.kept kw13)
        replace HB := Lib.hid (HB.out.kept kw13)
        replace BT := Lib.hid (BT.out.kept kw13)
        replace BB := Lib.hid (BB.out.kept kw13)
        replace BP := Lib.hid (BP.out.kept kw13)
        clear kw13
        with_reducible refine (pSameItems_any _ _ [it] _ (items_one1 BP.out HB.out) (items_one1 BQ.out HT.out)).mono ?_
        rintro e w14 ⟨rfl, k14⟩
        have Kw14 := Kw13.trans k14
        have szw14 := k14.size
        replace HT := Lib.hid (HT.out.kept k14)
        replace HB := Lib.hid (HB.out.kept k14)
        replace BT := Lib.hid (BT.out.kept k14)
        replace BB := Lib.hid (BB.out.kept k14)
        replace BP := Lib.hid (BP.out.kept k14)
        replace BQ := Lib.hid (BQ.out.kept k14)
        clear k14
        obtain ⟨xBT, yBT⟩ := BT.out.three
        have lBT := BT.out.lt
        obtain ⟨xBB, yBB⟩ := BB.out.three
        have lBB := BB.out.lt
        obtain ⟨xBP, yBP⟩ := BP.out.three
        have lBP := BP.out.lt
        obtain ⟨xBQ, yBQ⟩ := BQ.out.three
        have lBQ := BQ.out.lt
        go_wp2_with fail
        clear xBT yBT lBT xBB yBB lBB xBP yBP lBP xBQ yBQ lBQ
        go_meet
        exact Kw14
    case rest =>
      as_aux_lemma =>
      have kx : Kept w9 wc := hcut
      clear hcut
      have Kwc := Kw9.trans kx
      have szwc := kx.size
      replace HT := Lib.hid (HT.out.kept kx)
      replace BT := Lib.hid (BT.out.kept kx)
      clear kx
      obtain ⟨wD, rfl⟩ : ∃ zz : World, zz = wc := ⟨_, rfl⟩
      clear HT BT HS HON
      go_wp2_with fail
      with_reducible refine (drawSameCalls_any _ _ (H1.out.kept Kwc)).mono ?_
      rintro e w10 ⟨⟨u, v, xs, ys, rfl, hx, hy, _, _⟩, k10⟩
      have Kw10 := Kwc.trans k10
      have szw10 := k10.size
      clear k10
      have HX := Lib.hid hx
      have HY := Lib.hid hy
      clear hx hy
      go_wp2_with fail
      with_reducible refine (implSameCalls_any _ xs _ ys _ HX.out HY.out).mono ?_
      rintro e w11 ⟨rfl, k11⟩
      have Kw11 := Kw10.trans k11
      have szw11 := k11.size
      replace HX := Lib.hid (HX.out.kept k11)
      replace HY := Lib.hid (HY.out.kept k11)
      clear k11
      go_wp2_with fail
      with_reducible refine (specSameCalls_any _ xs _ ys _ HX.out HY.out).mono ?_
      rintro e w12 ⟨rfl, k12⟩
      have Kw12 := Kw11.trans k12
      have szw12 := k12.size
      replace HX := Lib.hid (HX.out.kept k12)
      replace HY := Lib.hid (HY.out.kept k12)
      clear k12
      generalize sameV xs ys = sm
      generalize (itemsB xs && itemsB ys) = sb
      have e1 : (sb == sb) = true := by simp
      have e2 : (sm == sm) = true := by simp
      go_wp2_with fail
      with_reducible refine (drawIsName_any _ _ (H1.out.kept Kw12)).mono ?_
      rintro e w13 ⟨⟨nm, hnm, rfl⟩, k13⟩
      have Kw13 := Kw12.trans k13
      have szw13 := k13.size
      replace HX := Lib.hid (HX.out.kept k13)
      replace HY := Lib.hid (HY.out.kept k13)
      clear k13
      have e3 : (nameB nm == nameB nm) = true := by simp
      go_wp2_with fail
      with_reducible refine (isName_any nm _ (by unfold maxLen; omega)).mono ?_
      rintro e w14 ⟨rfl, rfl⟩
      go_wp2_with fail
      with_reducible refine (specIsName_any nm _ (by unfold maxLen; omega)).mono ?_
      rintro e w15 ⟨rfl, rfl⟩
      go_wp2_with fail
      go_ret
      exact ⟨rfl, Kw13⟩
end Go.Proofs.YtkekpolfdmmgeaaGreatDoor

/- Arguments opened: a slice of bytes. -/
namespace Go.Proofs.YtkekpolfdmmgeaaGreatDoor
set_option linter.unusedVariables false
set_option linter.unusedSimpArgs false
set_option maxRecDepth 100000
open Go.ChangeShapes Go.WideShapes Go.ChangeAt Go.RowKit

theorem blockB_lt {w : World} {a : Addr} {v : Value} (h : w.cell? a = some v) : a.block < w.heap.size := by
  rcases Nat.lt_or_ge a.block w.heap.size with hlt | hge
  · exact hlt
  · unfold World.cell? at h
    rw [Array.getElem?_eq_none hge] at h
    cases h
theorem addB_at {b o : Nat} (i : Nat) : (⟨b, o, none⟩ : Addr).add i = ⟨b, o + i, none⟩ := by
  unfold Addr.add
  split <;> simp_all
theorem spotB_of {w : World} {x : Addr} {u : Value} (h : w.cell? (x.add 0) = some u) : ∃ b o, x = ⟨b, o, none⟩ := by
  obtain ⟨b, o, s⟩ := x
  have hs : s = none := by simpa [Addr.add] using World.cell?_spot h
  exact ⟨b, o, by rw [hs]⟩
section
variable {H : Type} {enc : TypeId × Value → H} {W : World} {r : Reach} {b0 base : Nat} {spare : Nat → Bool} {held : Bool} {v : Value} {d : DataW H} {p : List MemPlace} {x : DataW H × List MemPlace}
theorem wf_u8 {n : Int} (h : (Lit.int .u8 n).wf = true) : 0 ≤ n ∧ n ≤ 255 := by
  simp [Lit.wf] at h
  have e1 : IntKind.u8.min = 0 := rfl
  have e2 : IntKind.u8.max = 255 := rfl
  omega
theorem open_B (hv : Value.okWide Tryz.prog W r b0 22 v) (h : DataW.Trod enc Tryz.prog W base spare held 22 v d p) : Byts W v := by
  obtain ⟨a0, len0, cap0, rfl⟩ := okWide_slice Tryz.underlying22 hv
  obtain ⟨fuel, hf⟩ := h
  rcases open_ints Tryz.underlying22 Tryz.underlying5 (by kernel_rfl) hf with ⟨hcs, _⟩ | ⟨ad, len, cap, zs, hcs, _, hl, hm, hz, _, hcell, hwz⟩
  · injection hcs with hcs _
    injection hcs with e1 e2 e3
    subst e1 e2 e3
    exact ⟨none, 0, 0, rfl, Nat.le_refl _, Nat.zero_le _, fun h => absurd h (by omega)⟩
  · injection hcs with hcs _
    injection hcs with e1 e2 e3
    subst e1 e2 e3
    refine ⟨_, _, _, rfl, hl, hm, fun hn => ?_⟩
    have hge : len0 ≤ zs.length := by rw [hz]; split <;> omega
    obtain ⟨b, o, rfl⟩ := spotB_of (hcell 0 (by omega))
    have h0 := hcell 0 (by omega)
    rw [addB_at] at h0
    refine ⟨b, o, rfl, blockB_lt h0, fun j hj => ?_⟩
    have hc := hcell j (by omega)
    rw [addB_at] at hc
    have hw := wf_u8 (hwz _ (List.getElem_mem (show j < zs.length by omega)))
    refine ⟨zs[j]'(by omega), hw.1, hw.2, ?_⟩
    rw [hc, List.getD_eq_getElem?_getD, List.getElem?_eq_getElem (by omega)]
    rfl
end
end Go.Proofs.YtkekpolfdmmgeaaGreatDoor
