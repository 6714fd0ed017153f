/- Contracts of functions that the proof leans on. No condition. -/
import Derived.Test.YtkekpolfdmmgeaaGreatMd959dc1c87
import Derived.ProofKit
import Derived.OpenShut
import Derived.ChangeOld
/- FnProgrammes: the law. -/
namespace Go.Proofs.YtkekpolfdmmgeaaGreat
set_option linter.unusedVariables false
set_option linter.unusedSimpArgs false
open Go.RowKit

set_option maxRecDepth 100000 in
set_option maxHeartbeats 40000000 in
theorem lawFnProgrammes_any (v0 v1 : Value) (w : World) (h0 : Byts w v0) (h1 : Byts w v1) :
    Calls Tryz.prog 3 #[v0, v1] w fun e w' => e = .returned (.bool true) ∧ Kept w w' := by
  have H0 := Lib.hid h0
  have H1 := Lib.hid h1
  obtain ⟨A0, n0, c0, rfl, hnc0, hcm0, _⟩ := h0
  obtain ⟨A1, n1, c1, rfl, hnc1, hcm1, _⟩ := h1
  unfold maxLen at hcm0 hcm1
  go_enter Tryz.func3, Tryz.ntmps3
  have K0 := Kept.refl w
  go_wp2_with fail
  · go_ret
    exact ⟨rfl, K0⟩
  with_reducible refine (drawInsertItem_any _ _ (H0.out.kept K0)).mono ?_
  rintro e w1 ⟨⟨cv, lv, tv, c, l, cs, at_, it, rfl, oc, ol, ot, _, _, hl15⟩, k1⟩
  have Kw1 := K0.trans k1
  have szw1 := k1.size
  clear k1
  obtain ⟨evc, lvc, rfl, pc, qc, ndc⟩ := oc
  obtain ⟨Ac, cc, rfl, hnc, hmc, _⟩ := own_form pc.1
  obtain ⟨Dc, dc, rfl, _⟩ := own_form qc
  unfold maxLen at hmc
  have HC : Hid (CodeAt w1 (.agg #[.slice Ac c.elems.length cc, .slice Dc c.limits.length dc, .int .i64 c.repeats, .int .i64 c.bonus, .int .i64 c.keeps, .int .i64 c.fall]) c) := Lib.hid ⟨_, _, rfl, pc.elems, qc.ints⟩
  clear pc qc ndc
  obtain ⟨evt, lvt, rfl, pt, qt, ndt⟩ := ot
  obtain ⟨At, ct, rfl, hnt, hmt, _⟩ := own_form pt.1
  obtain ⟨Dt, dt, rfl, hxt, hyt, _⟩ := own_form qt
  unfold maxLen at hmt hyt
  have HT : Hid (ItemAt w1 (.agg #[.slice At it.names.length ct, .slice Dt it.marks.length dt, .bool it.late]) it) := Lib.hid ⟨_, _, rfl, pt.strs, qt.ints⟩
  clear pt qt ndt
  have HL : Hid (ItemsAt w1 lv (l)) := Lib.hid ol.items
  obtain ⟨Al, cl, csl, rfl, hnl, hml, hzl⟩ := HL.out.out
  unfold maxLen at hml
  clear hzl
  clear ol
  go_wp2_with fail
  obtain ⟨w2, hw2⟩ : ∃ zz : World, zz = w1.alloc (.cells #[.slice Ac c.elems.length cc, .slice Dc c.limits.length dc, .int .i64 c.repeats, .int .i64 c.bonus, .int .i64 c.keeps, .int .i64 c.fall] 26) := ⟨_, rfl⟩
  rw [← hw2]
  have kw2 : Kept w1 w2 := hw2 ▸ (Kept.refl w1).alloc _
  have BC : Hid (Box w2 (w1.heap.size) 26 #[.slice Ac c.elems.length cc, .slice Dc c.limits.length dc, .int .i64 c.repeats, .int .i64 c.bonus, .int .i64 c.keeps, .int .i64 c.fall]) := Lib.hid (hw2 ▸ Box.new w1 _ _ _ rfl)
  have hszw2 : w2.heap.size = w1.heap.size + 1 := by rw [hw2]; simp
  clear hw2
  have Kw2 := Kw1.trans kw2
  have szw2 := kw2.size
  replace HC := Lib.hid (HC.out.kept kw2)
  replace HT := Lib.hid (HT.out.kept kw2)
  replace HL := Lib.hid (HL.out.kept kw2)
  clear kw2
  obtain ⟨w3, hw3⟩ : ∃ zz : World, zz = w2.alloc (.cells #[.slice At it.names.length ct, .slice Dt it.marks.length dt, .bool it.late] 30) := ⟨_, rfl⟩
  rw [← hw3]
  have kw3 : Kept w2 w3 := hw3 ▸ (Kept.refl w2).alloc _
  have BT : Hid (Box w3 (w1.heap.size + 1) 30 #[.slice At it.names.length ct, .slice Dt it.marks.length dt, .bool it.late]) := Lib.hid (hw3 ▸ Box.new w2 _ _ _ hszw2.symm)
  clear hszw2
  clear hw3
  have Kw3 := Kw2.trans kw3
  have szw3 := kw3.size
  replace HC := Lib.hid (HC.out.kept kw3)
  replace HT := Lib.hid (HT.out.kept kw3)
  replace HL := Lib.hid (HL.out.kept kw3)
  replace BC := Lib.hid (BC.out.kept kw3)
  clear kw3
  with_reducible refine (implInsertItem_any _ _ _ c l at_ it _ HC.out HL.out HT.out).mono ?_
  rintro e w4 ⟨vv, S4, rfl, o4, k4⟩
  have Kw4 := Kw3.trans k4
  have szw4 := k4.size
  replace HC := Lib.hid (HC.out.kept k4)
  replace HT := Lib.hid (HT.out.kept k4)
  replace HL := Lib.hid (HL.out.kept k4)
  replace BC := Lib.hid (BC.out.kept k4)
  replace BT := Lib.hid (BT.out.kept k4)
  clear k4
  obtain ⟨x, hx⟩ : ∃ z, inV c l at_ it = z := ⟨_, rfl⟩
  obtain ⟨ok, hok⟩ : ∃ z, inOk c l at_ it = z := ⟨_, rfl⟩
  rw [hx] at o4
  rw [hok]
  have Ex := Lib.hid hx
  have Eok := Lib.hid hok
  clear hx hok
  have HX1 : Hid (ItemsAt w4 vv (x)) := Lib.hid o4.items
  obtain ⟨Ax1, cx1, csx1, rfl, hnx1, hmx1, hzx1⟩ := HX1.out.out
  unfold maxLen at hmx1
  clear hzx1
  clear o4
  obtain ⟨xBC, yBC⟩ := BC.out.six
  have lBC := BC.out.lt
  obtain ⟨xBT, yBT⟩ := BT.out.three
  have lBT := BT.out.lt
  go_wp2_with fail
  clear xBC yBC lBC xBT yBT lBT
  with_reducible refine (specInsertItem_any _ _ _ c l at_ it _ HC.out HL.out HT.out).mono ?_
  rintro e w5 ⟨vv, S5, rfl, o5, k5⟩
  have Kw5 := Kw4.trans k5
  have szw5 := k5.size
  replace HC := Lib.hid (HC.out.kept k5)
  replace HT := Lib.hid (HT.out.kept k5)
  replace HL := Lib.hid (HL.out.kept k5)
  replace HX1 := Lib.hid (HX1.out.kept k5)
  replace BC := Lib.hid (BC.out.kept k5)
  replace BT := Lib.hid (BT.out.kept k5)
  clear k5
  rw [Ex.out] at o5
  rw [Eok.out]
  have HX2 : Hid (ItemsAt w5 vv (x)) := Lib.hid o5.items
  obtain ⟨Ax2, cx2, csx2, rfl, hnx2, hmx2, hzx2⟩ := HX2.out.out
  unfold maxLen at hmx2
  clear hzx2
  clear o5
  obtain ⟨xBC, yBC⟩ := BC.out.six
  have lBC := BC.out.lt
  obtain ⟨xBT, yBT⟩ := BT.out.three
  have lBT := BT.out.lt
  go_wp2_with fail
  clear xBC yBC lBC xBT yBT lBT
  with_reducible refine (drawMoveItem_any _ _ (H1.out.kept Kw5)).mono ?_
  rintro e w6 ⟨⟨cv, lv, a, m, cs, from_, to_, rfl, oc, ol, _, _, hm15⟩, k6⟩
  have Kw6 := Kw5.trans k6
  have szw6 := k6.size
  replace HC := Lib.hid (HC.out.kept k6)
  replace HT := Lib.hid (HT.out.kept k6)
  replace HL := Lib.hid (HL.out.kept k6)
  replace HX1 := Lib.hid (HX1.out.kept k6)
  replace HX2 := Lib.hid (HX2.out.kept k6)
  replace BC := Lib.hid (BC.out.kept k6)
  replace BT := Lib.hid (BT.out.kept k6)
  clear k6
  obtain ⟨eva, lva, rfl, pa, qa, nda⟩ := oc
  obtain ⟨Aa, ca, rfl, hna, hma, _⟩ := own_form pa.1
  obtain ⟨Da, da, rfl, _⟩ := own_form qa
  unfold maxLen at hma
  have HA : Hid (CodeAt w6 (.agg #[.slice Aa a.elems.length ca, .slice Da a.limits.length da, .int .i64 a.repeats, .int .i64 a.bonus, .int .i64 a.keeps, .int .i64 a.fall]) a) := Lib.hid ⟨_, _, rfl, pa.elems, qa.ints⟩
  clear pa qa nda
  have HM : Hid (ItemsAt w6 lv (m)) := Lib.hid ol.items
  obtain ⟨Am, cm, csm, rfl, hnm, hmm, hzm⟩ := HM.out.out
  unfold maxLen at hmm
  clear hzm
  clear ol
  obtain ⟨xBC, yBC⟩ := BC.out.six
  have lBC := BC.out.lt
  obtain ⟨xBT, yBT⟩ := BT.out.three
  have lBT := BT.out.lt
  go_wp2_with fail
  clear xBC yBC lBC xBT yBT lBT
  obtain ⟨w7, hw7⟩ : ∃ zz : World, zz = w6.alloc (.cells #[.slice Aa a.elems.length ca, .slice Da a.limits.length da, .int .i64 a.repeats, .int .i64 a.bonus, .int .i64 a.keeps, .int .i64 a.fall] 26) := ⟨_, rfl⟩
  rw [← hw7]
  have kw7 : Kept w6 w7 := hw7 ▸ (Kept.refl w6).alloc _
  have BA : Hid (Box w7 (w6.heap.size) 26 #[.slice Aa a.elems.length ca, .slice Da a.limits.length da, .int .i64 a.repeats, .int .i64 a.bonus, .int .i64 a.keeps, .int .i64 a.fall]) := Lib.hid (hw7 ▸ Box.new w6 _ _ _ rfl)
  clear hw7
  have Kw7 := Kw6.trans kw7
  have szw7 := kw7.size
  replace HC := Lib.hid (HC.out.kept kw7)
  replace HT := Lib.hid (HT.out.kept kw7)
  replace HL := Lib.hid (HL.out.kept kw7)
  replace HX1 := Lib.hid (HX1.out.kept kw7)
  replace HX2 := Lib.hid (HX2.out.kept kw7)
  replace HA := Lib.hid (HA.out.kept kw7)
  replace HM := Lib.hid (HM.out.kept kw7)
  replace BC := Lib.hid (BC.out.kept kw7)
  replace BT := Lib.hid (BT.out.kept kw7)
  clear kw7
  with_reducible refine (implMoveItem_any _ _ a m from_ to_ _ HA.out HM.out).mono ?_
  rintro e w8 ⟨vv, S8, rfl, o8, k8⟩
  have Kw8 := Kw7.trans k8
  have szw8 := k8.size
  replace HC := Lib.hid (HC.out.kept k8)
  replace HT := Lib.hid (HT.out.kept k8)
  replace HL := Lib.hid (HL.out.kept k8)
  replace HX1 := Lib.hid (HX1.out.kept k8)
  replace HX2 := Lib.hid (HX2.out.kept k8)
  replace HA := Lib.hid (HA.out.kept k8)
  replace HM := Lib.hid (HM.out.kept k8)
  replace BC := Lib.hid (BC.out.kept k8)
  replace BT := Lib.hid (BT.out.kept k8)
  replace BA := Lib.hid (BA.out.kept k8)
  clear k8
  obtain ⟨y, hy⟩ : ∃ z, mvV a m from_ to_ = z := ⟨_, rfl⟩
  obtain ⟨one, hone⟩ : ∃ z, mvOk a m from_ to_ = z := ⟨_, rfl⟩
  rw [hy] at o8
  rw [hone]
  have Ey := Lib.hid hy
  have Eone := Lib.hid hone
  clear hy hone
  have HY1 : Hid (ItemsAt w8 vv (y)) := Lib.hid o8.items
  obtain ⟨Ay1, cy1, csy1, rfl, hny1, hmy1, hzy1⟩ := HY1.out.out
  unfold maxLen at hmy1
  clear hzy1
  clear o8
  obtain ⟨xBC, yBC⟩ := BC.out.six
  have lBC := BC.out.lt
  obtain ⟨xBT, yBT⟩ := BT.out.three
  have lBT := BT.out.lt
  obtain ⟨xBA, yBA⟩ := BA.out.six
  have lBA := BA.out.lt
  go_wp2_with fail
  clear xBC yBC lBC xBT yBT lBT xBA yBA lBA
  with_reducible refine (specMoveItem_any _ _ a m from_ to_ _ HA.out HM.out).mono ?_
  rintro e w9 ⟨vv, S9, rfl, o9, k9⟩
  have Kw9 := Kw8.trans k9
  have szw9 := k9.size
  replace HC := Lib.hid (HC.out.kept k9)
  replace HT := Lib.hid (HT.out.kept k9)
  replace HL := Lib.hid (HL.out.kept k9)
  replace HX1 := Lib.hid (HX1.out.kept k9)
  replace HX2 := Lib.hid (HX2.out.kept k9)
  replace HA := Lib.hid (HA.out.kept k9)
  replace HM := Lib.hid (HM.out.kept k9)
  replace HY1 := Lib.hid (HY1.out.kept k9)
  replace BC := Lib.hid (BC.out.kept k9)
  replace BT := Lib.hid (BT.out.kept k9)
  replace BA := Lib.hid (BA.out.kept k9)
  clear k9
  rw [Ey.out] at o9
  rw [Eone.out]
  have HY2 : Hid (ItemsAt w9 vv (y)) := Lib.hid o9.items
  obtain ⟨Ay2, cy2, csy2, rfl, hny2, hmy2, hzy2⟩ := HY2.out.out
  unfold maxLen at hmy2
  clear hzy2
  clear o9
  obtain ⟨xBC, yBC⟩ := BC.out.six
  have lBC := BC.out.lt
  obtain ⟨xBT, yBT⟩ := BT.out.three
  have lBT := BT.out.lt
  obtain ⟨xBA, yBA⟩ := BA.out.six
  have lBA := BA.out.lt
  go_wp2_with fail
  clear xBC yBC lBC xBT yBT lBT xBA yBA lBA
  with_reducible refine (drawDropItem_any _ _ (H1.out.kept Kw9)).mono ?_
  rintro e w10 ⟨⟨cv, lv, b, k, cs, n, rfl, oc, ol, _, _, hk15⟩, k10⟩
  have Kw10 := Kw9.trans k10
  have szw10 := k10.size
  replace HC := Lib.hid (HC.out.kept k10)
  replace HT := Lib.hid (HT.out.kept k10)
  replace HL := Lib.hid (HL.out.kept k10)
  replace HX1 := Lib.hid (HX1.out.kept k10)
  replace HX2 := Lib.hid (HX2.out.kept k10)
  replace HA := Lib.hid (HA.out.kept k10)
  replace HM := Lib.hid (HM.out.kept k10)
  replace HY1 := Lib.hid (HY1.out.kept k10)
  replace HY2 := Lib.hid (HY2.out.kept k10)
  replace BC := Lib.hid (BC.out.kept k10)
  replace BT := Lib.hid (BT.out.kept k10)
  replace BA := Lib.hid (BA.out.kept k10)
  clear k10
  obtain ⟨evb, lvb, rfl, pb, qb, ndb⟩ := oc
  obtain ⟨Ab, cb, rfl, hnb, hmb, _⟩ := own_form pb.1
  obtain ⟨Db, db, rfl, _⟩ := own_form qb
  unfold maxLen at hmb
  have HB : Hid (CodeAt w10 (.agg #[.slice Ab b.elems.length cb, .slice Db b.limits.length db, .int .i64 b.repeats, .int .i64 b.bonus, .int .i64 b.keeps, .int .i64 b.fall]) b) := Lib.hid ⟨_, _, rfl, pb.elems, qb.ints⟩
  clear pb qb ndb
  have HK : Hid (ItemsAt w10 lv (k)) := Lib.hid ol.items
  obtain ⟨Ak, ck, csk, rfl, hnk, hmk, hzk⟩ := HK.out.out
  unfold maxLen at hmk
  clear hzk
  clear ol
  obtain ⟨xBC, yBC⟩ := BC.out.six
  have lBC := BC.out.lt
  obtain ⟨xBT, yBT⟩ := BT.out.three
  have lBT := BT.out.lt
  obtain ⟨xBA, yBA⟩ := BA.out.six
  have lBA := BA.out.lt
  go_wp2_with fail
  clear xBC yBC lBC xBT yBT lBT xBA yBA lBA
  obtain ⟨w11, hw11⟩ : ∃ zz : World, zz = w10.alloc (.cells #[.slice Ab b.elems.length cb, .slice Db b.limits.length db, .int .i64 b.repeats, .int .i64 b.bonus, .int .i64 b.keeps, .int .i64 b.fall] 26) := ⟨_, rfl⟩
  rw [← hw11]
  have kw11 : Kept w10 w11 := hw11 ▸ (Kept.refl w10).alloc _
  have BB : Hid (Box w11 (w10.heap.size) 26 #[.slice Ab b.elems.length cb, .slice Db b.limits.length db, .int .i64 b.repeats, .int .i64 b.bonus, .int .i64 b.keeps, .int .i64 b.fall]) := Lib.hid (hw11 ▸ Box.new w10 _ _ _ rfl)
  clear hw11
  have Kw11 := Kw10.trans kw11
  have szw11 := kw11.size
  replace HC := Lib.hid (HC.out.kept kw11)
  replace HT := Lib.hid (HT.out.kept kw11)
  replace HL := Lib.hid (HL.out.kept kw11)
  replace HX1 := Lib.hid (HX1.out.kept kw11)
  replace HX2 := Lib.hid (HX2.out.kept kw11)
  replace HA := Lib.hid (HA.out.kept kw11)
  replace HM := Lib.hid (HM.out.kept kw11)
  replace HY1 := Lib.hid (HY1.out.kept kw11)
  replace HY2 := Lib.hid (HY2.out.kept kw11)
  replace HB := Lib.hid (HB.out.kept kw11)
  replace HK := Lib.hid (HK.out.kept kw11)
  replace BC := Lib.hid (BC.out.kept kw11)
  replace BT := Lib.hid (BT.out.kept kw11)
  replace BA := Lib.hid (BA.out.kept kw11)
  clear kw11
  with_reducible refine (implDropItem_any _ _ b k n _ HB.out HK.out).mono ?_
  rintro e w12 ⟨vv, S12, rfl, o12, k12⟩
  have Kw12 := Kw11.trans k12
  have szw12 := k12.size
  replace HC := Lib.hid (HC.out.kept k12)
  replace HT := Lib.hid (HT.out.kept k12)
  replace HL := Lib.hid (HL.out.kept k12)
  replace HX1 := Lib.hid (HX1.out.kept k12)
  replace HX2 := Lib.hid (HX2.out.kept k12)
  replace HA := Lib.hid (HA.out.kept k12)
  replace HM := Lib.hid (HM.out.kept k12)
  replace HY1 := Lib.hid (HY1.out.kept k12)
  replace HY2 := Lib.hid (HY2.out.kept k12)
  replace HB := Lib.hid (HB.out.kept k12)
  replace HK := Lib.hid (HK.out.kept k12)
  replace BC := Lib.hid (BC.out.kept k12)
  replace BT := Lib.hid (BT.out.kept k12)
  replace BA := Lib.hid (BA.out.kept k12)
  replace BB := Lib.hid (BB.out.kept k12)
  clear k12
  obtain ⟨d, hd⟩ : ∃ z, drV b k n = z := ⟨_, rfl⟩
  obtain ⟨three, hthree⟩ : ∃ z, drB b k n = z := ⟨_, rfl⟩
  rw [hd] at o12
  rw [hthree]
  have Ed := Lib.hid hd
  have Ethree := Lib.hid hthree
  clear hd hthree
  have HD1 : Hid (ItemsAt w12 vv (d)) := Lib.hid o12.items
  obtain ⟨Ad1, cd1, csd1, rfl, hnd1, hmd1, hzd1⟩ := HD1.out.out
  unfold maxLen at hmd1
  clear hzd1
  clear o12
  obtain ⟨xBC, yBC⟩ := BC.out.six
  have lBC := BC.out.lt
  obtain ⟨xBT, yBT⟩ := BT.out.three
  have lBT := BT.out.lt
  obtain ⟨xBA, yBA⟩ := BA.out.six
  have lBA := BA.out.lt
  obtain ⟨xBB, yBB⟩ := BB.out.six
  have lBB := BB.out.lt
  go_wp2_with fail
  clear xBC yBC lBC xBT yBT lBT xBA yBA lBA xBB yBB lBB
  with_reducible refine (specDropItem_any _ _ b k n _ HB.out HK.out).mono ?_
  rintro e w13 ⟨vv, S13, rfl, o13, k13⟩
  have Kw13 := Kw12.trans k13
  have szw13 := k13.size
  replace HC := Lib.hid (HC.out.kept k13)
  replace HT := Lib.hid (HT.out.kept k13)
  replace HL := Lib.hid (HL.out.kept k13)
  replace HX1 := Lib.hid (HX1.out.kept k13)
  replace HX2 := Lib.hid (HX2.out.kept k13)
  replace HA := Lib.hid (HA.out.kept k13)
  replace HM := Lib.hid (HM.out.kept k13)
  replace HY1 := Lib.hid (HY1.out.kept k13)
  replace HY2 := Lib.hid (HY2.out.kept k13)
  replace HB := Lib.hid (HB.out.kept k13)
  replace HK := Lib.hid (HK.out.kept k13)
  replace HD1 := Lib.hid (HD1.out.kept k13)
  replace BC := Lib.hid (BC.out.kept k13)
  replace BT := Lib.hid (BT.out.kept k13)
  replace BA := Lib.hid (BA.out.kept k13)
  replace BB := Lib.hid (BB.out.kept k13)
  clear k13
  rw [Ed.out] at o13
  rw [Ethree.out]
  have HD2 : Hid (ItemsAt w13 vv (d)) := Lib.hid o13.items
  obtain ⟨Ad2, cd2, csd2, rfl, hnd2, hmd2, hzd2⟩ := HD2.out.out
  unfold maxLen at hmd2
  clear hzd2
  clear o13
  obtain ⟨xBC, yBC⟩ := BC.out.six
  have lBC := BC.out.lt
  obtain ⟨xBT, yBT⟩ := BT.out.three
  have lBT := BT.out.lt
  obtain ⟨xBA, yBA⟩ := BA.out.six
  have lBA := BA.out.lt
  obtain ⟨xBB, yBB⟩ := BB.out.six
  have lBB := BB.out.lt
  go_wp2_with fail
  clear xBC yBC lBC xBT yBT lBT xBA yBA lBA xBB yBB lBB
  with_reducible refine (drawTimesOf_any _ _ (H1.out.kept Kw13)).mono ?_
  rintro e w14 ⟨⟨lv, p, cs, nm, hnm, rfl, ol, hp15⟩, k14⟩
  have Kw14 := Kw13.trans k14
  have szw14 := k14.size
  replace HC := Lib.hid (HC.out.kept k14)
  replace HT := Lib.hid (HT.out.kept k14)
  replace HL := Lib.hid (HL.out.kept k14)
  replace HX1 := Lib.hid (HX1.out.kept k14)
  replace HX2 := Lib.hid (HX2.out.kept k14)
  replace HA := Lib.hid (HA.out.kept k14)
  replace HM := Lib.hid (HM.out.kept k14)
  replace HY1 := Lib.hid (HY1.out.kept k14)
  replace HY2 := Lib.hid (HY2.out.kept k14)
  replace HB := Lib.hid (HB.out.kept k14)
  replace HK := Lib.hid (HK.out.kept k14)
  replace HD1 := Lib.hid (HD1.out.kept k14)
  replace HD2 := Lib.hid (HD2.out.kept k14)
  replace BC := Lib.hid (BC.out.kept k14)
  replace BT := Lib.hid (BT.out.kept k14)
  replace BA := Lib.hid (BA.out.kept k14)
  replace BB := Lib.hid (BB.out.kept k14)
  clear k14
  have HP : Hid (ItemsAt w14 lv (p)) := Lib.hid ol.items
  obtain ⟨Ap, cp, csp, rfl, hnp, hmp, hzp⟩ := HP.out.out
  unfold maxLen at hmp
  clear hzp
  have HNM := Lib.hid hnm
  clear ol hnm
  obtain ⟨xBC, yBC⟩ := BC.out.six
  have lBC := BC.out.lt
  obtain ⟨xBT, yBT⟩ := BT.out.three
  have lBT := BT.out.lt
  obtain ⟨xBA, yBA⟩ := BA.out.six
  have lBA := BA.out.lt
  obtain ⟨xBB, yBB⟩ := BB.out.six
  have lBB := BB.out.lt
  go_wp2_with fail
  clear xBC yBC lBC xBT yBT lBT xBA yBA lBA xBB yBB lBB
  with_reducible refine (implTimesOf_any _ p nm _ HP.out HNM.out).mono ?_
  rintro e w15 ⟨rfl, k15⟩
  have Kw15 := Kw14.trans k15
  have szw15 := k15.size
  replace HC := Lib.hid (HC.out.kept k15)
  replace HT := Lib.hid (HT.out.kept k15)
  replace HL := Lib.hid (HL.out.kept k15)
  replace HX1 := Lib.hid (HX1.out.kept k15)
  replace HX2 := Lib.hid (HX2.out.kept k15)
  replace HA := Lib.hid (HA.out.kept k15)
  replace HM := Lib.hid (HM.out.kept k15)
  replace HY1 := Lib.hid (HY1.out.kept k15)
  replace HY2 := Lib.hid (HY2.out.kept k15)
  replace HB := Lib.hid (HB.out.kept k15)
  replace HK := Lib.hid (HK.out.kept k15)
  replace HD1 := Lib.hid (HD1.out.kept k15)
  replace HD2 := Lib.hid (HD2.out.kept k15)
  replace HP := Lib.hid (HP.out.kept k15)
  replace BC := Lib.hid (BC.out.kept k15)
  replace BT := Lib.hid (BT.out.kept k15)
  replace BA := Lib.hid (BA.out.kept k15)
  replace BB := Lib.hid (BB.out.kept k15)
  clear k15
  obtain ⟨tt, htt⟩ : ∃ z, tmV p nm = z := ⟨_, rfl⟩
  obtain ⟨tu, htu⟩ : ∃ z, tmC p nm = z := ⟨_, rfl⟩
  obtain ⟨five, hfive⟩ : ∃ z, (itemsB p && nameB nm) = z := ⟨_, rfl⟩
  have htb := tm_bd p nm
  rw [htt, htu] at htb
  have ETT := Lib.hid htt
  have ETU := Lib.hid htu
  have E5 := Lib.hid hfive
  rw [ETT.out, ETU.out, E5.out]
  clear htt htu hfive
  obtain ⟨xBC, yBC⟩ := BC.out.six
  have lBC := BC.out.lt
  obtain ⟨xBT, yBT⟩ := BT.out.three
  have lBT := BT.out.lt
  obtain ⟨xBA, yBA⟩ := BA.out.six
  have lBA := BA.out.lt
  obtain ⟨xBB, yBB⟩ := BB.out.six
  have lBB := BB.out.lt
  go_wp2_with fail
  clear xBC yBC lBC xBT yBT lBT xBA yBA lBA xBB yBB lBB
  with_reducible refine (specTimesOf_any _ p nm _ HP.out HNM.out).mono ?_
  rintro e w16 ⟨rfl, k16⟩
  have Kw16 := Kw15.trans k16
  have szw16 := k16.size
  replace HC := Lib.hid (HC.out.kept k16)
  replace HT := Lib.hid (HT.out.kept k16)
  replace HL := Lib.hid (HL.out.kept k16)
  replace HX1 := Lib.hid (HX1.out.kept k16)
  replace HX2 := Lib.hid (HX2.out.kept k16)
  replace HA := Lib.hid (HA.out.kept k16)
  replace HM := Lib.hid (HM.out.kept k16)
  replace HY1 := Lib.hid (HY1.out.kept k16)
  replace HY2 := Lib.hid (HY2.out.kept k16)
  replace HB := Lib.hid (HB.out.kept k16)
  replace HK := Lib.hid (HK.out.kept k16)
  replace HD1 := Lib.hid (HD1.out.kept k16)
  replace HD2 := Lib.hid (HD2.out.kept k16)
  replace HP := Lib.hid (HP.out.kept k16)
  replace BC := Lib.hid (BC.out.kept k16)
  replace BT := Lib.hid (BT.out.kept k16)
  replace BA := Lib.hid (BA.out.kept k16)
  replace BB := Lib.hid (BB.out.kept k16)
  clear k16
  rw [ETT.out, ETU.out, E5.out]
  obtain ⟨xBC, yBC⟩ := BC.out.six
  have lBC := BC.out.lt
  obtain ⟨xBT, yBT⟩ := BT.out.three
  have lBT := BT.out.lt
  obtain ⟨xBA, yBA⟩ := BA.out.six
  have lBA := BA.out.lt
  obtain ⟨xBB, yBB⟩ := BB.out.six
  have lBB := BB.out.lt
  go_wp2_with fail
  clear xBC yBC lBC xBT yBT lBT xBA yBA lBA xBB yBB lBB
  with_reducible refine (drawMarkLate_any _ _ (H1.out.kept Kw16)).mono ?_
  rintro e w17 ⟨⟨lv, q, cs, rfl, ol, hq15⟩, k17⟩
  have Kw17 := Kw16.trans k17
  have szw17 := k17.size
  replace HC := Lib.hid (HC.out.kept k17)
  replace HT := Lib.hid (HT.out.kept k17)
  replace HL := Lib.hid (HL.out.kept k17)
  replace HX1 := Lib.hid (HX1.out.kept k17)
  replace HX2 := Lib.hid (HX2.out.kept k17)
  replace HA := Lib.hid (HA.out.kept k17)
  replace HM := Lib.hid (HM.out.kept k17)
  replace HY1 := Lib.hid (HY1.out.kept k17)
  replace HY2 := Lib.hid (HY2.out.kept k17)
  replace HB := Lib.hid (HB.out.kept k17)
  replace HK := Lib.hid (HK.out.kept k17)
  replace HD1 := Lib.hid (HD1.out.kept k17)
  replace HD2 := Lib.hid (HD2.out.kept k17)
  replace HP := Lib.hid (HP.out.kept k17)
  replace BC := Lib.hid (BC.out.kept k17)
  replace BT := Lib.hid (BT.out.kept k17)
  replace BA := Lib.hid (BA.out.kept k17)
  replace BB := Lib.hid (BB.out.kept k17)
  clear k17
  have HQ : Hid (ItemsAt w17 lv (q)) := Lib.hid ol.items
  obtain ⟨Aq, cq, csq, rfl, hnq, hmq, hzq⟩ := HQ.out.out
  unfold maxLen at hmq
  clear hzq
  clear ol
  obtain ⟨xBC, yBC⟩ := BC.out.six
  have lBC := BC.out.lt
  obtain ⟨xBT, yBT⟩ := BT.out.three
  have lBT := BT.out.lt
  obtain ⟨xBA, yBA⟩ := BA.out.six
  have lBA := BA.out.lt
  obtain ⟨xBB, yBB⟩ := BB.out.six
  have lBB := BB.out.lt
  go_wp2_with fail
  clear xBC yBC lBC xBT yBT lBT xBA yBA lBA xBB yBB lBB
  with_reducible refine (implMarkLate_any _ q _ HQ.out).mono ?_
  rintro e w18 ⟨vv, S18, rfl, o18, k18⟩
  have Kw18 := Kw17.trans k18
  have szw18 := k18.size
  replace HC := Lib.hid (HC.out.kept k18)
  replace HT := Lib.hid (HT.out.kept k18)
  replace HL := Lib.hid (HL.out.kept k18)
  replace HX1 := Lib.hid (HX1.out.kept k18)
  replace HX2 := Lib.hid (HX2.out.kept k18)
  replace HA := Lib.hid (HA.out.kept k18)
  replace HM := Lib.hid (HM.out.kept k18)
  replace HY1 := Lib.hid (HY1.out.kept k18)
  replace HY2 := Lib.hid (HY2.out.kept k18)
  replace HB := Lib.hid (HB.out.kept k18)
  replace HK := Lib.hid (HK.out.kept k18)
  replace HD1 := Lib.hid (HD1.out.kept k18)
  replace HD2 := Lib.hid (HD2.out.kept k18)
  replace HP := Lib.hid (HP.out.kept k18)
  replace HQ := Lib.hid (HQ.out.kept k18)
  replace BC := Lib.hid (BC.out.kept k18)
  replace BT := Lib.hid (BT.out.kept k18)
  replace BA := Lib.hid (BA.out.kept k18)
  replace BB := Lib.hid (BB.out.kept k18)
  clear k18
  obtain ⟨mk, hmk⟩ : ∃ z, onT (itemsB q) (lated q) = z := ⟨_, rfl⟩
  obtain ⟨seven, hseven⟩ : ∃ z, itemsB q = z := ⟨_, rfl⟩
  rw [hmk] at o18
  rw [hseven]
  have Emk := Lib.hid hmk
  have Eseven := Lib.hid hseven
  clear hmk hseven
  have HMK1 : Hid (ItemsAt w18 vv (mk)) := Lib.hid o18.items
  obtain ⟨Amk1, cmk1, csmk1, rfl, hnmk1, hmmk1, hzmk1⟩ := HMK1.out.out
  unfold maxLen at hmmk1
  clear hzmk1
  clear o18
  obtain ⟨xBC, yBC⟩ := BC.out.six
  have lBC := BC.out.lt
  obtain ⟨xBT, yBT⟩ := BT.out.three
  have lBT := BT.out.lt
  obtain ⟨xBA, yBA⟩ := BA.out.six
  have lBA := BA.out.lt
  obtain ⟨xBB, yBB⟩ := BB.out.six
  have lBB := BB.out.lt
  go_wp2_with fail
  clear xBC yBC lBC xBT yBT lBT xBA yBA lBA xBB yBB lBB
  with_reducible refine (specMarkLate_any _ q _ HQ.out).mono ?_
  rintro e w19 ⟨vv, S19, rfl, o19, k19⟩
  have Kw19 := Kw18.trans k19
  have szw19 := k19.size
  replace HC := Lib.hid (HC.out.kept k19)
  replace HT := Lib.hid (HT.out.kept k19)
  replace HL := Lib.hid (HL.out.kept k19)
  replace HX1 := Lib.hid (HX1.out.kept k19)
  replace HX2 := Lib.hid (HX2.out.kept k19)
  replace HA := Lib.hid (HA.out.kept k19)
  replace HM := Lib.hid (HM.out.kept k19)
  replace HY1 := Lib.hid (HY1.out.kept k19)
  replace HY2 := Lib.hid (HY2.out.kept k19)
  replace HB := Lib.hid (HB.out.kept k19)
  replace HK := Lib.hid (HK.out.kept k19)
  replace HD1 := Lib.hid (HD1.out.kept k19)
  replace HD2 := Lib.hid (HD2.out.kept k19)
  replace HP := Lib.hid (HP.out.kept k19)
  replace HQ := Lib.hid (HQ.out.kept k19)
  replace HMK1 := Lib.hid (HMK1.out.kept k19)
  replace BC := Lib.hid (BC.out.kept k19)
  replace BT := Lib.hid (BT.out.kept k19)
  replace BA := Lib.hid (BA.out.kept k19)
  replace BB := Lib.hid (BB.out.kept k19)
  clear k19
  rw [Emk.out] at o19
  rw [Eseven.out]
  have HMK2 : Hid (ItemsAt w19 vv (mk)) := Lib.hid o19.items
  obtain ⟨Amk2, cmk2, csmk2, rfl, hnmk2, hmmk2, hzmk2⟩ := HMK2.out.out
  unfold maxLen at hmmk2
  clear hzmk2
  clear o19
  have e1 : (ok != ok) = false := by simp
  have e2 : (one != one) = false := by simp
  have e3 : (three != three) = false := by simp
  have e4 : (five != five) = false := by simp
  have e5 : (seven != seven) = false := by simp
  have e6 : (tt != tt) = false := by simp
  have e7 : (tu != tu) = false := by simp
  have e8 : decide (tt < tu) = false := decide_eq_false (by omega)
  have e9 : decide (tu > tt) = false := decide_eq_false (by omega)
  have e10 : decide (tu < 0) = false := decide_eq_false (by omega)
  have e11 : ¬ tt < tu := by omega
  have e12 : ¬ tu < 0 := by omega
  go_upto_region 18 with (fail)
  go_cut [225] (fun s225 wx => s225 = .bool false ∧ Kept w19 wx)
  case first =>
    as_aux_lemma =>
    have KW := Kept.refl w19
    clear Kw19 Kw18 Kw17 Kw16 Kw15 Kw14 Kw13 Kw12 Kw11 Kw10 Kw9 Kw8 Kw7 Kw6 Kw5 Kw4 Kw3 Kw2 Kw1 K0
    go_wp2_with fail
    with_reducible refine (qItems_any _ _ x _ HX1.out HX2.out).mono ?_
    rintro e w20 ⟨rfl, k20⟩
    have Kw20 := KW.trans k20
    have szw20 := k20.size
    replace HX1 := Lib.hid (HX1.out.kept k20)
    replace HX2 := Lib.hid (HX2.out.kept k20)
    replace HY1 := Lib.hid (HY1.out.kept k20)
    replace HY2 := Lib.hid (HY2.out.kept k20)
    replace HD1 := Lib.hid (HD1.out.kept k20)
    replace HD2 := Lib.hid (HD2.out.kept k20)
    replace HMK1 := Lib.hid (HMK1.out.kept k20)
    replace HMK2 := Lib.hid (HMK2.out.kept k20)
    clear k20
    go_wp2_with fail
    with_reducible refine (qItems_any _ _ y _ HY1.out HY2.out).mono ?_
    rintro e w21 ⟨rfl, k21⟩
    have Kw21 := Kw20.trans k21
    have szw21 := k21.size
    replace HY1 := Lib.hid (HY1.out.kept k21)
    replace HY2 := Lib.hid (HY2.out.kept k21)
    replace HD1 := Lib.hid (HD1.out.kept k21)
    replace HD2 := Lib.hid (HD2.out.kept k21)
    replace HMK1 := Lib.hid (HMK1.out.kept k21)
    replace HMK2 := Lib.hid (HMK2.out.kept k21)
    clear k21
    go_wp2_with fail
    with_reducible refine (qItems_any _ _ d _ HD1.out HD2.out).mono ?_
    rintro e w22 ⟨rfl, k22⟩
    have Kw22 := Kw21.trans k22
    have szw22 := k22.size
    replace HD1 := Lib.hid (HD1.out.kept k22)
    replace HD2 := Lib.hid (HD2.out.kept k22)
    replace HMK1 := Lib.hid (HMK1.out.kept k22)
    replace HMK2 := Lib.hid (HMK2.out.kept k22)
    clear k22
    go_wp2_with fail
    with_reducible refine (qItems_any _ _ mk _ HMK1.out HMK2.out).mono ?_
    rintro e w23 ⟨rfl, k23⟩
    have Kw23 := Kw22.trans k23
    have szw23 := k23.size
    replace HMK1 := Lib.hid (HMK1.out.kept k23)
    replace HMK2 := Lib.hid (HMK2.out.kept k23)
    clear k23
    cases five with
    | false =>
      go_wp2_with fail
      all_goals (go_meet; exact ⟨rfl, Kw23⟩)
    | true =>
      go_wp2_with fail
      all_goals (go_meet; exact ⟨rfl, Kw23⟩)
  case rest =>
    as_aux_lemma =>
    obtain ⟨rfl, kx⟩ := hcut
    have Kwc := Kw19.trans kx
    have szwc := kx.size
    replace HC := Lib.hid (HC.out.kept kx)
    replace HT := Lib.hid (HT.out.kept kx)
    replace HL := Lib.hid (HL.out.kept kx)
    replace HX1 := Lib.hid (HX1.out.kept kx)
    replace HX2 := Lib.hid (HX2.out.kept kx)
    replace HA := Lib.hid (HA.out.kept kx)
    replace HM := Lib.hid (HM.out.kept kx)
    replace HY1 := Lib.hid (HY1.out.kept kx)
    replace HY2 := Lib.hid (HY2.out.kept kx)
    replace HB := Lib.hid (HB.out.kept kx)
    replace HK := Lib.hid (HK.out.kept kx)
    replace HD1 := Lib.hid (HD1.out.kept kx)
    replace HD2 := Lib.hid (HD2.out.kept kx)
    replace HP := Lib.hid (HP.out.kept kx)
    replace HQ := Lib.hid (HQ.out.kept kx)
    replace HMK1 := Lib.hid (HMK1.out.kept kx)
    replace HMK2 := Lib.hid (HMK2.out.kept kx)
    replace BC := Lib.hid (BC.out.kept kx)
    replace BT := Lib.hid (BT.out.kept kx)
    replace BA := Lib.hid (BA.out.kept kx)
    replace BB := Lib.hid (BB.out.kept kx)
    clear kx
    obtain ⟨wB, rfl⟩ : ∃ zz : World, zz = wc := ⟨_, rfl⟩
    clear HT BT HY2 HP HQ HMK1 e1 e2 e3 e4 e5 e6 e7 e8 e9 e10 e11 e12
    clear Kw19 Kw18 Kw17 Kw16 Kw15 Kw14 Kw13 Kw12 Kw11 Kw10 Kw9 Kw8 Kw7 Kw6 Kw5 Kw4 Kw3 Kw2 Kw1 K0
    obtain ⟨xBC, yBC⟩ := BC.out.six
    have lBC := BC.out.lt
    obtain ⟨xBA, yBA⟩ := BA.out.six
    have lBA := BA.out.lt
    obtain ⟨xBB, yBB⟩ := BB.out.six
    have lBB := BB.out.lt
    go_upto_if 226 with (fail)
    clear xBC yBC lBC xBA yBA lBA xBB yBB lBB
    go_cut [226] (fun _ wx => Kept wB wx)
    case first =>
      as_aux_lemma =>
      cases one with
      | false =>
        go_wp2_with fail
        go_meet
        exact Kept.refl _
      | true =>
        obtain ⟨f1, f2, f3⟩ := moved_back Eone.out
        rw [Ey.out] at f1 f2 f3
        have F1 := Lib.hid f1
        have F2 := Lib.hid f2
        have F3 := Lib.hid f3
        have F4 := Lib.hid (good_kw f1)
        have KW := Kept.refl wB
        clear f1 f2 f3
        obtain ⟨xBA, yBA⟩ := BA.out.six
        have lBA := BA.out.lt
        go_wp2_with fail
        clear xBA yBA lBA
        with_reducible refine (implMoveItem_any _ _ a y to_ from_ _ HA.out HY1.out).mono ?_
        rintro e w20 ⟨vv, S20, rfl, o20, k20⟩
        have Kw20 := KW.trans k20
        have szw20 := k20.size
        replace HA := Lib.hid (HA.out.kept k20)
        replace HY1 := Lib.hid (HY1.out.kept k20)
        replace HM := Lib.hid (HM.out.kept k20)
        replace BA := Lib.hid (BA.out.kept k20)
        clear k20
        rw [F3.out] at o20
        rw [F2.out]
        have HZB : Hid (ItemsAt w20 vv (m)) := Lib.hid o20.items
        obtain ⟨Azb, czb, cszb, rfl, hnzb, hmzb, hzzb⟩ := HZB.out.out
        unfold maxLen at hmzb
        clear hzzb
        clear o20
        obtain ⟨xBA, yBA⟩ := BA.out.six
        have lBA := BA.out.lt
        go_wp2_with fail
        clear xBA yBA lBA
        with_reducible refine (implIsProgramme_any _ _ a y _ HA.out HY1.out).mono ?_
        rintro e w21 ⟨rfl, k21⟩
        have Kw21 := Kw20.trans k21
        have szw21 := k21.size
        replace HA := Lib.hid (HA.out.kept k21)
        replace HY1 := Lib.hid (HY1.out.kept k21)
        replace HM := Lib.hid (HM.out.kept k21)
        replace HZB := Lib.hid (HZB.out.kept k21)
        replace BA := Lib.hid (BA.out.kept k21)
        clear k21
        rw [F4.out, F1.out]
        have hon : onB true true = true := rfl
        rw [hon]
        obtain ⟨xBA, yBA⟩ := BA.out.six
        have lBA := BA.out.lt
        go_wp2_with fail
        clear xBA yBA lBA
        with_reducible refine (qItems_any _ _ m _ HZB.out HM.out).mono ?_
        rintro e w22 ⟨rfl, k22⟩
        have Kw22 := Kw21.trans k22
        have szw22 := k22.size
        replace HA := Lib.hid (HA.out.kept k22)
        replace HY1 := Lib.hid (HY1.out.kept k22)
        replace HM := Lib.hid (HM.out.kept k22)
        replace HZB := Lib.hid (HZB.out.kept k22)
        replace BA := Lib.hid (BA.out.kept k22)
        clear k22
        obtain ⟨xBA, yBA⟩ := BA.out.six
        have lBA := BA.out.lt
        go_wp2_with fail
        clear xBA yBA lBA
        go_meet
        exact Kw22
    case rest =>
      as_aux_lemma =>
      have kx : Kept wB wc := hcut
      clear hcut
      have Kwc := Kwc.trans kx
      have szwc := kx.size
      replace HC := Lib.hid (HC.out.kept kx)
      replace HL := Lib.hid (HL.out.kept kx)
      replace HX1 := Lib.hid (HX1.out.kept kx)
      replace HX2 := Lib.hid (HX2.out.kept kx)
      replace HA := Lib.hid (HA.out.kept kx)
      replace HM := Lib.hid (HM.out.kept kx)
      replace HY1 := Lib.hid (HY1.out.kept kx)
      replace HB := Lib.hid (HB.out.kept kx)
      replace HK := Lib.hid (HK.out.kept kx)
      replace HD1 := Lib.hid (HD1.out.kept kx)
      replace HD2 := Lib.hid (HD2.out.kept kx)
      replace HMK2 := Lib.hid (HMK2.out.kept kx)
      replace BC := Lib.hid (BC.out.kept kx)
      replace BA := Lib.hid (BA.out.kept kx)
      replace BB := Lib.hid (BB.out.kept kx)
      clear kx
      obtain ⟨wD, rfl⟩ : ∃ zz : World, zz = wc := ⟨_, rfl⟩
      clear HA BA HY1 HM
      obtain ⟨xBC, yBC⟩ := BC.out.six
      have lBC := BC.out.lt
      obtain ⟨xBB, yBB⟩ := BB.out.six
      have lBB := BB.out.lt
      go_upto_if 257 with (fail)
      clear xBC yBC lBC xBB yBB lBB
      go_cut [257] (fun _ wx => Kept wD wx)
      case first =>
        as_aux_lemma =>
        cases three with
        | false =>
          go_wp2_with fail
          go_meet
          exact Kept.refl _
        | true =>
          obtain ⟨f1, f2⟩ := dropped_good Ethree.out
          rw [Ed.out] at f1 f2
          have F1 := Lib.hid f1
          have F4 := Lib.hid (good_kw f1)
          have hlw : IntKind.i64.wrap ((d.length : Int) + 1) = (k.length : Int) := by rw [IntWalk.i64_in _ (by omega)]; omega
          have hne : ((k.length : Int) != (k.length : Int)) = false := by simp
          clear f1 f2
          have KW := Kept.refl wD
          obtain ⟨xBB, yBB⟩ := BB.out.six
          have lBB := BB.out.lt
          go_wp2_with fail
          clear xBB yBB lBB
          with_reducible refine (implIsProgramme_any _ _ b d _ HB.out HD1.out).mono ?_
          rintro e w20 ⟨rfl, k20⟩
          have Kw20 := KW.trans k20
          have szw20 := k20.size
          replace HB := Lib.hid (HB.out.kept k20)
          replace HD1 := Lib.hid (HD1.out.kept k20)
          replace BB := Lib.hid (BB.out.kept k20)
          clear k20
          rw [F4.out, F1.out]
          have hon : onB true true = true := rfl
          rw [hon]
          obtain ⟨xBB, yBB⟩ := BB.out.six
          have lBB := BB.out.lt
          go_wp2_with fail
          clear xBB yBB lBB
          go_meet
          exact Kw20
      case rest =>
        as_aux_lemma =>
        have kx : Kept wD wc := hcut
        clear hcut
        have Kwc := Kwc.trans kx
        have szwc := kx.size
        replace HC := Lib.hid (HC.out.kept kx)
        replace HL := Lib.hid (HL.out.kept kx)
        replace HX1 := Lib.hid (HX1.out.kept kx)
        replace HX2 := Lib.hid (HX2.out.kept kx)
        replace HB := Lib.hid (HB.out.kept kx)
        replace HK := Lib.hid (HK.out.kept kx)
        replace HD1 := Lib.hid (HD1.out.kept kx)
        replace HD2 := Lib.hid (HD2.out.kept kx)
        replace HMK2 := Lib.hid (HMK2.out.kept kx)
        replace BC := Lib.hid (BC.out.kept kx)
        replace BB := Lib.hid (BB.out.kept kx)
        clear kx
        obtain ⟨wF, rfl⟩ : ∃ zz : World, zz = wc := ⟨_, rfl⟩
        clear HB BB HD1 HK HD2
        obtain ⟨xBC, yBC⟩ := BC.out.six
        have lBC := BC.out.lt
        go_upto_if 278 with (fail)
        clear xBC yBC lBC
        go_cut [278] (fun _ wx => Kept wF wx)
        case first =>
          as_aux_lemma =>
          cases seven with
          | false =>
            go_wp2_with fail
            go_meet
            exact Kept.refl _
          | true =>
            have HMKE : Hid (mk = lated q) := Lib.hid (by rw [← Emk.out, Eseven.out]; rfl)
            have hmk15 : mk.length ≤ 15 := by rw [HMKE.out, lated_length]; exact hq15
            obtain ⟨_, _, cz, ez, _, _, hAz⟩ := HMK2.out.out
            injection ez with ez1 ez2 ez3
            subst ez1
            have HAZ := Lib.hid hAz
            clear ez2 ez3 hAz
            go_wp2_with fail
            go_loopw [47, 281] (fun s47 s281 wr => ∃ j : Nat, j ≤ mk.length ∧ s281 = .int .i64 j ∧ s47 = .int .i64 ((j - (mk.length + 1) / 2 : Nat) : Int) ∧ Kept wF wr) (fun _ i _ => mk.length - (RowKit.intOf i).toNat)
            case atStart => exact ⟨0, Nat.zero_le _, rfl, (by simp), Kept.refl _⟩
            case round =>
              obtain ⟨j, hj, rfl, rfl, hkept⟩ := hrel
              by_cases hlt : j < mk.length
              · obtain ⟨bz, oz, A1, c1, A2, c2, jt, rfl, hbz, hi, hc, hit, q0, q1, q2⟩ := items_at (HAZ.out.kept hkept) hlt
                have hlt' : (j : Int) < (mk.length : Int) := by omega
                have hlate : jt.late = decide (mk.length ≤ 2 * j) := by
                  have h := hi
                  rw [HMKE.out] at h
                  have := lated_at h
                  rw [this, HMKE.out, lated_length]
                have HLT := Lib.hid hlate
                clear hi hc hit hlate
                go_upto_region 34 with (fail)
                obtain ⟨wb, hwb⟩ : ∃ x : World, x = wr.alloc (.cells #[.slice A1 jt.names.length c1, .slice A2 jt.marks.length c2, .bool jt.late] 30) := ⟨_, rfl⟩
                have kb : Kept wr wb := hwb ▸ (Kept.refl wr).alloc _
                have BJ : Box wb wr.heap.size 30 #[.slice A1 jt.names.length c1, .slice A2 jt.marks.length c2, .bool jt.late] := hwb ▸ Box.new wr _ _ _ rfl
                rw [← hwb]
                clear hwb q0 q1 q2
                have KZ := Lib.hid (hkept.trans kb)
                obtain ⟨x3, y3⟩ := BJ.three
                by_cases h2 : mk.length ≤ 2 * j
                · have hl1 : jt.late = true := by rw [HLT.out]; exact decide_eq_true h2
                  rw [hl1] at x3
                  clear hl1
                  go_wp2_with fail
                  go_roundw
                  case rel => exact ⟨j + 1, by omega, by go_num, by (congr 1; omega), KZ.out⟩
                  case measure => simp [RowKit.intOf]; omega
                · have hl1 : jt.late = false := by rw [HLT.out]; exact decide_eq_false h2
                  rw [hl1] at x3
                  clear hl1
                  go_wp2_with fail
                  go_roundw
                  case rel => exact ⟨j + 1, by omega, by go_num, by (congr 1; omega), KZ.out⟩
                  case measure => simp [RowKit.intOf]; omega
              · obtain rfl : j = mk.length := by omega
                have hcn : ((mk.length - (mk.length + 1) / 2 : Nat) : Int) = ((mk.length / 2 : Nat) : Int) := by omega
                have hdv : (mk.length : Int).tdiv 2 = ((mk.length / 2 : Nat) : Int) := by rw [Int.tdiv_eq_ediv_of_nonneg (by omega)]; omega
                have hdw : (mk.length : Int) / 2 = ((mk.length / 2 : Nat) : Int) := by omega
                rw [hcn]
                obtain ⟨hh, hhe, hhl⟩ : ∃ z : Nat, mk.length / 2 = z ∧ z ≤ 15 := ⟨_, rfl, by omega⟩
                rw [hhe] at hdv hdw ⊢
                have hwz : IntKind.i64.wrap (hh : Int) = (hh : Int) := IntWalk.i64_in _ (by omega)
                have hnz : ((hh : Int) != (hh : Int)) = false := by simp
                clear hcn hhe
                go_wp2_with fail
                go_meet
                exact hkept
        case rest =>
          as_aux_lemma =>
          have kx : Kept wF wc := hcut
          clear hcut
          have Kwc := Kwc.trans kx
          have szwc := kx.size
          replace HC := Lib.hid (HC.out.kept kx)
          replace HL := Lib.hid (HL.out.kept kx)
          replace HX1 := Lib.hid (HX1.out.kept kx)
          replace HX2 := Lib.hid (HX2.out.kept kx)
          replace HMK2 := Lib.hid (HMK2.out.kept kx)
          replace BC := Lib.hid (BC.out.kept kx)
          clear kx
          obtain ⟨wH, rfl⟩ : ∃ zz : World, zz = wc := ⟨_, rfl⟩
          clear HMK2
          cases ok with
          | false =>
            go_wp2_with fail
            go_ret
            exact ⟨rfl, Kwc⟩
          | true =>
            obtain ⟨f1, f2, f3, f4⟩ := inserted_back Eok.out
            rw [Ex.out] at f1 f2 f3 f4
            have F1 := Lib.hid f1
            have F3 := Lib.hid f3
            have F4 := Lib.hid f4
            have F5 := Lib.hid (good_kw f1)
            have hlw : IntKind.i64.wrap ((l.length : Int) + 1) = (x.length : Int) := by rw [IntWalk.i64_in _ (by omega)]; omega
            have hne : ((x.length : Int) == (x.length : Int)) = true := by simp
            clear f1 f2 f3 f4
            obtain ⟨xBC, yBC⟩ := BC.out.six
            have lBC := BC.out.lt
            go_wp2_with fail
            clear xBC yBC lBC
            with_reducible refine (implDropItem_any _ _ c x at_ _ HC.out HX1.out).mono ?_
            rintro e w20 ⟨vv, S20, rfl, o20, k20⟩
            have Kw20 := Kwc.trans k20
            have szw20 := k20.size
            replace HC := Lib.hid (HC.out.kept k20)
            replace HL := Lib.hid (HL.out.kept k20)
            replace HX1 := Lib.hid (HX1.out.kept k20)
            replace HX2 := Lib.hid (HX2.out.kept k20)
            replace BC := Lib.hid (BC.out.kept k20)
            clear k20
            rw [F4.out] at o20
            rw [F3.out]
            have HZB : Hid (ItemsAt w20 vv (l)) := Lib.hid o20.items
            obtain ⟨Azb, czb, cszb, rfl, hnzb, hmzb, hzzb⟩ := HZB.out.out
            unfold maxLen at hmzb
            clear hzzb
            clear o20
            obtain ⟨xBC, yBC⟩ := BC.out.six
            have lBC := BC.out.lt
            go_wp2_with fail
            clear xBC yBC lBC
            with_reducible refine (implIsProgramme_any _ _ c x _ HC.out HX1.out).mono ?_
            rintro e w21 ⟨rfl, k21⟩
            have Kw21 := Kw20.trans k21
            have szw21 := k21.size
            replace HC := Lib.hid (HC.out.kept k21)
            replace HL := Lib.hid (HL.out.kept k21)
            replace HX1 := Lib.hid (HX1.out.kept k21)
            replace HX2 := Lib.hid (HX2.out.kept k21)
            replace HZB := Lib.hid (HZB.out.kept k21)
            replace BC := Lib.hid (BC.out.kept k21)
            clear k21
            rw [F5.out, F1.out]
            have hon : onB true true = true := rfl
            rw [hon]
            obtain ⟨xBC, yBC⟩ := BC.out.six
            have lBC := BC.out.lt
            go_wp2_with fail
            clear xBC yBC lBC
            with_reducible refine (qItems_any _ _ l _ HZB.out HL.out).mono ?_
            rintro e w22 ⟨rfl, k22⟩
            have Kw22 := Kw21.trans k22
            have szw22 := k22.size
            replace HC := Lib.hid (HC.out.kept k22)
            replace HL := Lib.hid (HL.out.kept k22)
            replace HX1 := Lib.hid (HX1.out.kept k22)
            replace HX2 := Lib.hid (HX2.out.kept k22)
            replace HZB := Lib.hid (HZB.out.kept k22)
            replace BC := Lib.hid (BC.out.kept k22)
            clear k22
            obtain ⟨xBC, yBC⟩ := BC.out.six
            have lBC := BC.out.lt
            go_wp2_with fail
            clear xBC yBC lBC
            go_ret
            exact ⟨rfl, Kw22⟩
end Go.Proofs.YtkekpolfdmmgeaaGreat

/- Arguments opened: a slice of bytes. -/
namespace Go.Proofs.YtkekpolfdmmgeaaGreat
set_option linter.unusedVariables false
set_option linter.unusedSimpArgs false
set_option maxRecDepth 100000
open Go.ChangeShapes Go.WideShapes Go.ChangeAt Go.RowKit

theorem blockB_lt {w : World} {a : Addr} {v : Value} (h : w.cell? a = some v) : a.block < w.heap.size := by
  rcases Nat.lt_or_ge a.block w.heap.size with hlt | hge
  · exact hlt
  · unfold World.cell? at h
    rw [Array.getElem?_eq_none hge] at h
    cases h
theorem addB_at {b o : Nat} (i : Nat) : (⟨b, o, none⟩ : Addr).add i = ⟨b, o + i, none⟩ := by
  unfold Addr.add
  split <;> simp_all
theorem spotB_of {w : World} {x : Addr} {u : Value} (h : w.cell? (x.add 0) = some u) : ∃ b o, x = ⟨b, o, none⟩ := by
  obtain ⟨b, o, s⟩ := x
  have hs : s = none := by simpa [Addr.add] using World.cell?_spot h
  exact ⟨b, o, by rw [hs]⟩
section
variable {H : Type} {enc : TypeId × Value → H} {W : World} {r : Reach} {b0 base : Nat} {spare : Nat → Bool} {held : Bool} {v : Value} {d : DataW H} {p : List MemPlace} {x : DataW H × List MemPlace}
theorem wf_u8 {n : Int} (h : (Lit.int .u8 n).wf = true) : 0 ≤ n ∧ n ≤ 255 := by
  simp [Lit.wf] at h
  have e1 : IntKind.u8.min = 0 := rfl
  have e2 : IntKind.u8.max = 255 := rfl
  omega
theorem open_B (hv : Value.okWide Tryz.prog W r b0 22 v) (h : DataW.Trod enc Tryz.prog W base spare held 22 v d p) : Byts W v := by
  obtain ⟨a0, len0, cap0, rfl⟩ := okWide_slice Tryz.underlying22 hv
  obtain ⟨fuel, hf⟩ := h
  rcases open_ints Tryz.underlying22 Tryz.underlying5 (by kernel_rfl) hf with ⟨hcs, _⟩ | ⟨ad, len, cap, zs, hcs, _, hl, hm, hz, _, hcell, hwz⟩
  · injection hcs with hcs _
    injection hcs with e1 e2 e3
    subst e1 e2 e3
    exact ⟨none, 0, 0, rfl, Nat.le_refl _, Nat.zero_le _, fun h => absurd h (by omega)⟩
  · injection hcs with hcs _
    injection hcs with e1 e2 e3
    subst e1 e2 e3
    refine ⟨_, _, _, rfl, hl, hm, fun hn => ?_⟩
    have hge : len0 ≤ zs.length := by rw [hz]; split <;> omega
    obtain ⟨b, o, rfl⟩ := spotB_of (hcell 0 (by omega))
    have h0 := hcell 0 (by omega)
    rw [addB_at] at h0
    refine ⟨b, o, rfl, blockB_lt h0, fun j hj => ?_⟩
    have hc := hcell j (by omega)
    rw [addB_at] at hc
    have hw := wf_u8 (hwz _ (List.getElem_mem (show j < zs.length by omega)))
    refine ⟨zs[j]'(by omega), hw.1, hw.2, ?_⟩
    rw [hc, List.getD_eq_getElem?_getD, List.getElem?_eq_getElem (by omega)]
    rfl
end
end Go.Proofs.YtkekpolfdmmgeaaGreat
