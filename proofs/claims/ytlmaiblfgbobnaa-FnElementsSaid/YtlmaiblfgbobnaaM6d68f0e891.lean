/- Contracts of functions that the proof leans on. No condition. -/
import Derived.Test.YtlmaiblfgbobnaaM2340899a0b
import Derived.Deep.DeepCutAuto
import Derived.ProofKit
import Derived.OpenShut
import Derived.ChangeOld
/- FnElements: the law. -/
namespace Go.Proofs.Ytlmaiblfgbobnaa
set_option linter.unusedVariables false
set_option linter.unusedSimpArgs false
open Go.RowKit

set_option maxRecDepth 100000 in
set_option maxHeartbeats 40000000 in
theorem lawFnElements_any (v0 v1 : Value) (w : World) (h0 : Byts w v0) (h1 : Byts w v1) :
    Calls Try.prog 3 #[v0, v1] w fun e w' => e = .returned (.bool true) ∧ Kept w w' := by
  have H0 := Lib.hid h0
  have H1 := Lib.hid h1
  obtain ⟨A0, n0, c0, rfl, hnc0, hcm0, _⟩ := h0
  obtain ⟨A1, n1, c1, rfl, hnc1, hcm1, _⟩ := h1
  unfold maxLen at hcm0 hcm1
  go_enter Try.func3, Try.ntmps3
  have K0 := Kept.refl w
  go_wp2_with fail
  · go_ret
    exact ⟨rfl, K0⟩
  with_reducible refine (drawOfFamily_any _ _ (H0.out.kept K0)).mono ?_
  rintro e w1 ⟨⟨f, v1, c, rfl, o1, h25, h6⟩, k1⟩
  have Kw1 := K0.trans k1
  have szw1 := k1.size
  clear k1
  obtain ⟨ev1, lv1, rfl, p1, q1, nd1⟩ := o1
  obtain ⟨A1, c1, rfl, hn1, hm1, _⟩ := own_form p1.1
  obtain ⟨D1, d1, rfl, _⟩ := own_form q1
  unfold maxLen at hm1
  have HC : Hid (CodeAt w1 (.agg #[.slice A1 c.elems.length c1, .slice D1 c.limits.length d1, .int .i64 c.repeats, .int .i64 c.bonus, .int .i64 c.keeps, .int .i64 c.fall]) c) := Lib.hid ⟨_, _, rfl, p1.elems, q1.ints⟩
  clear p1 q1 nd1
  go_wp2_with fail
  obtain ⟨w2, hw2⟩ : ∃ x : World, x = w1.alloc (.cells #[.slice A1 c.elems.length c1, .slice D1 c.limits.length d1, .int .i64 c.repeats, .int .i64 c.bonus, .int .i64 c.keeps, .int .i64 c.fall] 26) := ⟨_, rfl⟩
  rw [← hw2]
  have kw2 : Kept w1 w2 := hw2 ▸ (Kept.refl w1).alloc _
  have BC : Hid (Box w2 w1.heap.size 26 #[.slice A1 c.elems.length c1, .slice D1 c.limits.length d1, .int .i64 c.repeats, .int .i64 c.bonus, .int .i64 c.keeps, .int .i64 c.fall]) := Lib.hid (hw2 ▸ Box.new w1 _ _ _ rfl)
  clear hw2
  have Kw2 := Kw1.trans kw2
  have szw2 := kw2.size
  replace HC := Lib.hid (HC.out.kept kw2)
  clear kw2
  with_reducible refine (ofFamily_any _ c f _ HC.out).mono ?_
  rintro e w3 ⟨v3, rfl, o3, k3⟩
  have Kw3 := Kw2.trans k3
  have szw3 := k3.size
  replace HC := Lib.hid (HC.out.kept k3)
  replace BC := Lib.hid (BC.out.kept k3)
  clear k3
  obtain ⟨A3, c3, rfl, hn3, hm3, _⟩ := own_form o3
  have HL := Lib.hid o3.ints
  clear o3
  unfold maxLen at hm3
  obtain ⟨xBC, yBC⟩ := BC.out.six
  have lBC := BC.out.lt
  go_wp2_with fail
  clear xBC yBC lBC
  with_reducible refine (specOfFamily_any _ c f _ HC.out).mono ?_
  rintro e w4 ⟨v4, rfl, o4, k4⟩
  have Kw4 := Kw3.trans k4
  have szw4 := k4.size
  replace HC := Lib.hid (HC.out.kept k4)
  replace HL := Lib.hid (HL.out.kept k4)
  replace BC := Lib.hid (BC.out.kept k4)
  clear k4
  obtain ⟨A4, c4, rfl, hn4, hm4, _⟩ := own_form o4
  have HW := Lib.hid o4.ints
  clear o4
  unfold maxLen at hm4
  obtain ⟨xBC, yBC⟩ := BC.out.six
  have lBC := BC.out.lt
  go_wp2_with fail
  clear xBC yBC lBC
  with_reducible refine (levelsOf_any _ c f _ HC.out).mono ?_
  rintro e w5 ⟨v5, rfl, o5, k5⟩
  have Kw5 := Kw4.trans k5
  have szw5 := k5.size
  replace HC := Lib.hid (HC.out.kept k5)
  replace HL := Lib.hid (HL.out.kept k5)
  replace HW := Lib.hid (HW.out.kept k5)
  replace BC := Lib.hid (BC.out.kept k5)
  clear k5
  obtain ⟨A5, c5, rfl, hn5, hm5, _⟩ := own_form o5
  have HV := Lib.hid o5.ints
  clear o5
  unfold maxLen at hm5
  obtain ⟨xBC, yBC⟩ := BC.out.six
  have lBC := BC.out.lt
  go_wp2_with fail
  clear xBC yBC lBC
  with_reducible refine (specLevelsOf_any _ c f _ HC.out).mono ?_
  rintro e w6 ⟨v6, rfl, o6, k6⟩
  have Kw6 := Kw5.trans k6
  have szw6 := k6.size
  replace HC := Lib.hid (HC.out.kept k6)
  replace HL := Lib.hid (HL.out.kept k6)
  replace HW := Lib.hid (HW.out.kept k6)
  replace HV := Lib.hid (HV.out.kept k6)
  replace BC := Lib.hid (BC.out.kept k6)
  clear k6
  obtain ⟨A6, c6, rfl, hn6, hm6, _⟩ := own_form o6
  have HVS := Lib.hid o6.ints
  clear o6
  unfold maxLen at hm6
  obtain ⟨xBC, yBC⟩ := BC.out.six
  have lBC := BC.out.lt
  go_wp2_with fail
  clear xBC yBC lBC
  with_reducible refine (greatestBase_any _ c f _ HC.out).mono ?_
  rintro e w7 ⟨rfl, k7⟩
  have Kw7 := Kw6.trans k7
  have szw7 := k7.size
  replace HC := Lib.hid (HC.out.kept k7)
  replace HL := Lib.hid (HL.out.kept k7)
  replace HW := Lib.hid (HW.out.kept k7)
  replace HV := Lib.hid (HV.out.kept k7)
  replace HVS := Lib.hid (HVS.out.kept k7)
  replace BC := Lib.hid (BC.out.kept k7)
  clear k7
  obtain ⟨xBC, yBC⟩ := BC.out.six
  have lBC := BC.out.lt
  go_wp2_with fail
  clear xBC yBC lBC
  with_reducible refine (specGreatestBase_any _ c f _ HC.out).mono ?_
  rintro e w8 ⟨rfl, k8⟩
  have Kw8 := Kw7.trans k8
  have szw8 := k8.size
  replace HC := Lib.hid (HC.out.kept k8)
  replace HL := Lib.hid (HL.out.kept k8)
  replace HW := Lib.hid (HW.out.kept k8)
  replace HV := Lib.hid (HV.out.kept k8)
  replace HVS := Lib.hid (HVS.out.kept k8)
  replace BC := Lib.hid (BC.out.kept k8)
  clear k8
  obtain ⟨xBC, yBC⟩ := BC.out.six
  have lBC := BC.out.lt
  go_wp2_with fail
  clear xBC yBC lBC
  with_reducible refine (drawScaleCode_any _ _ (H1.out.kept Kw8)).mono ?_
  rintro e w9 ⟨⟨pc, hpc, v9, a, rfl, o9, _, _⟩, k9⟩
  have Kw9 := Kw8.trans k9
  have szw9 := k9.size
  replace HC := Lib.hid (HC.out.kept k9)
  replace HL := Lib.hid (HL.out.kept k9)
  replace HW := Lib.hid (HW.out.kept k9)
  replace HV := Lib.hid (HV.out.kept k9)
  replace HVS := Lib.hid (HVS.out.kept k9)
  replace BC := Lib.hid (BC.out.kept k9)
  clear k9
  obtain ⟨ev9, lv9, rfl, p9, q9, nd9⟩ := o9
  obtain ⟨A9, c9, rfl, hn9, hm9, _⟩ := own_form p9.1
  obtain ⟨D9, d9, rfl, _⟩ := own_form q9
  unfold maxLen at hm9
  have HA : Hid (CodeAt w9 (.agg #[.slice A9 a.elems.length c9, .slice D9 a.limits.length d9, .int .i64 a.repeats, .int .i64 a.bonus, .int .i64 a.keeps, .int .i64 a.fall]) a) := Lib.hid ⟨_, _, rfl, p9.elems, q9.ints⟩
  clear p9 q9 nd9
  have HPC := Lib.hid hpc
  clear hpc
  obtain ⟨xBC, yBC⟩ := BC.out.six
  have lBC := BC.out.lt
  go_wp2_with fail
  clear xBC yBC lBC
  obtain ⟨w10, hw10⟩ : ∃ x : World, x = w9.alloc (.cells #[.slice A9 a.elems.length c9, .slice D9 a.limits.length d9, .int .i64 a.repeats, .int .i64 a.bonus, .int .i64 a.keeps, .int .i64 a.fall] 26) := ⟨_, rfl⟩
  rw [← hw10]
  have kw10 : Kept w9 w10 := hw10 ▸ (Kept.refl w9).alloc _
  have BA : Hid (Box w10 w9.heap.size 26 #[.slice A9 a.elems.length c9, .slice D9 a.limits.length d9, .int .i64 a.repeats, .int .i64 a.bonus, .int .i64 a.keeps, .int .i64 a.fall]) := Lib.hid (hw10 ▸ Box.new w9 _ _ _ rfl)
  clear hw10
  have Kw10 := Kw9.trans kw10
  have szw10 := kw10.size
  replace HC := Lib.hid (HC.out.kept kw10)
  replace HL := Lib.hid (HL.out.kept kw10)
  replace HW := Lib.hid (HW.out.kept kw10)
  replace HV := Lib.hid (HV.out.kept kw10)
  replace HVS := Lib.hid (HVS.out.kept kw10)
  replace HA := Lib.hid (HA.out.kept kw10)
  replace BC := Lib.hid (BC.out.kept kw10)
  clear kw10
  with_reducible refine (scaleCode_any _ a pc _ HA.out).mono ?_
  rintro e w11 ⟨v11, rfl, o11, k11⟩
  have Kw11 := Kw10.trans k11
  have szw11 := k11.size
  replace HC := Lib.hid (HC.out.kept k11)
  replace HL := Lib.hid (HL.out.kept k11)
  replace HW := Lib.hid (HW.out.kept k11)
  replace HV := Lib.hid (HV.out.kept k11)
  replace HVS := Lib.hid (HVS.out.kept k11)
  replace HA := Lib.hid (HA.out.kept k11)
  replace BC := Lib.hid (BC.out.kept k11)
  replace BA := Lib.hid (BA.out.kept k11)
  clear k11
  have hsl := scV_len a pc
  obtain ⟨sv, hsv⟩ : ∃ x, scV a pc = x := ⟨_, rfl⟩
  obtain ⟨sb, hsb⟩ : ∃ x, scB a pc = x := ⟨_, rfl⟩
  rw [hsv] at o11 hsl
  rw [hsb]
  have HSV := Lib.hid hsv
  have HSB := Lib.hid hsb
  clear hsv hsb
  obtain ⟨ev11, lv11, rfl, p11, q11, nd11⟩ := o11
  obtain ⟨A11, c11, rfl, hn11, hm11, _⟩ := own_form p11.1
  obtain ⟨D11, d11, rfl, _⟩ := own_form q11
  unfold maxLen at hm11
  have HS1 : Hid (CodeAt w11 (.agg #[.slice A11 sv.elems.length c11, .slice D11 sv.limits.length d11, .int .i64 sv.repeats, .int .i64 sv.bonus, .int .i64 sv.keeps, .int .i64 sv.fall]) sv) := Lib.hid ⟨_, _, rfl, p11.elems, q11.ints⟩
  clear p11 q11 nd11
  obtain ⟨xBC, yBC⟩ := BC.out.six
  have lBC := BC.out.lt
  obtain ⟨xBA, yBA⟩ := BA.out.six
  have lBA := BA.out.lt
  go_wp2_with fail
  clear xBC yBC lBC xBA yBA lBA
  obtain ⟨w12, hw12⟩ : ∃ x : World, x = w11.alloc (.cells #[.slice A11 sv.elems.length c11, .slice D11 sv.limits.length d11, .int .i64 sv.repeats, .int .i64 sv.bonus, .int .i64 sv.keeps, .int .i64 sv.fall] 26) := ⟨_, rfl⟩
  rw [← hw12]
  have kw12 : Kept w11 w12 := hw12 ▸ (Kept.refl w11).alloc _
  have BS1 : Hid (Box w12 w11.heap.size 26 #[.slice A11 sv.elems.length c11, .slice D11 sv.limits.length d11, .int .i64 sv.repeats, .int .i64 sv.bonus, .int .i64 sv.keeps, .int .i64 sv.fall]) := Lib.hid (hw12 ▸ Box.new w11 _ _ _ rfl)
  clear hw12
  have Kw12 := Kw11.trans kw12
  have szw12 := kw12.size
  replace HC := Lib.hid (HC.out.kept kw12)
  replace HL := Lib.hid (HL.out.kept kw12)
  replace HW := Lib.hid (HW.out.kept kw12)
  replace HV := Lib.hid (HV.out.kept kw12)
  replace HVS := Lib.hid (HVS.out.kept kw12)
  replace HA := Lib.hid (HA.out.kept kw12)
  replace HS1 := Lib.hid (HS1.out.kept kw12)
  replace BC := Lib.hid (BC.out.kept kw12)
  replace BA := Lib.hid (BA.out.kept kw12)
  clear kw12
  with_reducible refine (specScaleCode_any _ a pc _ HA.out).mono ?_
  rintro e w13 ⟨v13, rfl, o13, k13⟩
  have Kw13 := Kw12.trans k13
  have szw13 := k13.size
  replace HC := Lib.hid (HC.out.kept k13)
  replace HL := Lib.hid (HL.out.kept k13)
  replace HW := Lib.hid (HW.out.kept k13)
  replace HV := Lib.hid (HV.out.kept k13)
  replace HVS := Lib.hid (HVS.out.kept k13)
  replace HA := Lib.hid (HA.out.kept k13)
  replace HS1 := Lib.hid (HS1.out.kept k13)
  replace BC := Lib.hid (BC.out.kept k13)
  replace BA := Lib.hid (BA.out.kept k13)
  replace BS1 := Lib.hid (BS1.out.kept k13)
  clear k13
  rw [HSV.out] at o13
  rw [HSB.out]
  obtain ⟨ev13, lv13, rfl, p13, q13, nd13⟩ := o13
  obtain ⟨A13, c13, rfl, hn13, hm13, _⟩ := own_form p13.1
  obtain ⟨D13, d13, rfl, _⟩ := own_form q13
  unfold maxLen at hm13
  have HS2 : Hid (CodeAt w13 (.agg #[.slice A13 sv.elems.length c13, .slice D13 sv.limits.length d13, .int .i64 sv.repeats, .int .i64 sv.bonus, .int .i64 sv.keeps, .int .i64 sv.fall]) sv) := Lib.hid ⟨_, _, rfl, p13.elems, q13.ints⟩
  clear p13 q13 nd13
  obtain ⟨xBC, yBC⟩ := BC.out.six
  have lBC := BC.out.lt
  obtain ⟨xBA, yBA⟩ := BA.out.six
  have lBA := BA.out.lt
  obtain ⟨xBS1, yBS1⟩ := BS1.out.six
  have lBS1 := BS1.out.lt
  go_wp2_with fail
  clear xBC yBC lBC xBA yBA lBA xBS1 yBS1 lBS1
  obtain ⟨w14, hw14⟩ : ∃ x : World, x = w13.alloc (.cells #[.slice A13 sv.elems.length c13, .slice D13 sv.limits.length d13, .int .i64 sv.repeats, .int .i64 sv.bonus, .int .i64 sv.keeps, .int .i64 sv.fall] 26) := ⟨_, rfl⟩
  rw [← hw14]
  have kw14 : Kept w13 w14 := hw14 ▸ (Kept.refl w13).alloc _
  have BS2 : Hid (Box w14 w13.heap.size 26 #[.slice A13 sv.elems.length c13, .slice D13 sv.limits.length d13, .int .i64 sv.repeats, .int .i64 sv.bonus, .int .i64 sv.keeps, .int .i64 sv.fall]) := Lib.hid (hw14 ▸ Box.new w13 _ _ _ rfl)
  clear hw14
  have Kw14 := Kw13.trans kw14
  have szw14 := kw14.size
  replace HC := Lib.hid (HC.out.kept kw14)
  replace HL := Lib.hid (HL.out.kept kw14)
  replace HW := Lib.hid (HW.out.kept kw14)
  replace HV := Lib.hid (HV.out.kept kw14)
  replace HVS := Lib.hid (HVS.out.kept kw14)
  replace HA := Lib.hid (HA.out.kept kw14)
  replace HS1 := Lib.hid (HS1.out.kept kw14)
  replace HS2 := Lib.hid (HS2.out.kept kw14)
  replace BC := Lib.hid (BC.out.kept kw14)
  replace BA := Lib.hid (BA.out.kept kw14)
  replace BS1 := Lib.hid (BS1.out.kept kw14)
  clear kw14
  with_reducible refine (drawFindElement_any _ _ (H1.out.kept Kw14)).mono ?_
  rintro e w15 ⟨⟨nm, hnm, v15, fc, rfl, o15, _, _⟩, k15⟩
  have Kw15 := Kw14.trans k15
  have szw15 := k15.size
  replace HC := Lib.hid (HC.out.kept k15)
  replace HL := Lib.hid (HL.out.kept k15)
  replace HW := Lib.hid (HW.out.kept k15)
  replace HV := Lib.hid (HV.out.kept k15)
  replace HVS := Lib.hid (HVS.out.kept k15)
  replace HA := Lib.hid (HA.out.kept k15)
  replace HS1 := Lib.hid (HS1.out.kept k15)
  replace HS2 := Lib.hid (HS2.out.kept k15)
  replace BC := Lib.hid (BC.out.kept k15)
  replace BA := Lib.hid (BA.out.kept k15)
  replace BS1 := Lib.hid (BS1.out.kept k15)
  replace BS2 := Lib.hid (BS2.out.kept k15)
  clear k15
  have HNM := Lib.hid hnm
  clear hnm
  obtain ⟨ev15, lv15, rfl, p15, q15, nd15⟩ := o15
  obtain ⟨A15, c15, rfl, hn15, hm15, _⟩ := own_form p15.1
  obtain ⟨D15, d15, rfl, _⟩ := own_form q15
  unfold maxLen at hm15
  have HF : Hid (CodeAt w15 (.agg #[.slice A15 fc.elems.length c15, .slice D15 fc.limits.length d15, .int .i64 fc.repeats, .int .i64 fc.bonus, .int .i64 fc.keeps, .int .i64 fc.fall]) fc) := Lib.hid ⟨_, _, rfl, p15.elems, q15.ints⟩
  clear p15 q15 nd15
  obtain ⟨xBC, yBC⟩ := BC.out.six
  have lBC := BC.out.lt
  obtain ⟨xBA, yBA⟩ := BA.out.six
  have lBA := BA.out.lt
  obtain ⟨xBS1, yBS1⟩ := BS1.out.six
  have lBS1 := BS1.out.lt
  obtain ⟨xBS2, yBS2⟩ := BS2.out.six
  have lBS2 := BS2.out.lt
  go_wp2_with fail
  clear xBC yBC lBC xBA yBA lBA xBS1 yBS1 lBS1 xBS2 yBS2 lBS2
  obtain ⟨w16, hw16⟩ : ∃ x : World, x = w15.alloc (.cells #[.slice A15 fc.elems.length c15, .slice D15 fc.limits.length d15, .int .i64 fc.repeats, .int .i64 fc.bonus, .int .i64 fc.keeps, .int .i64 fc.fall] 26) := ⟨_, rfl⟩
  rw [← hw16]
  have kw16 : Kept w15 w16 := hw16 ▸ (Kept.refl w15).alloc _
  have BF : Hid (Box w16 w15.heap.size 26 #[.slice A15 fc.elems.length c15, .slice D15 fc.limits.length d15, .int .i64 fc.repeats, .int .i64 fc.bonus, .int .i64 fc.keeps, .int .i64 fc.fall]) := Lib.hid (hw16 ▸ Box.new w15 _ _ _ rfl)
  clear hw16
  have Kw16 := Kw15.trans kw16
  have szw16 := kw16.size
  replace HC := Lib.hid (HC.out.kept kw16)
  replace HL := Lib.hid (HL.out.kept kw16)
  replace HW := Lib.hid (HW.out.kept kw16)
  replace HV := Lib.hid (HV.out.kept kw16)
  replace HVS := Lib.hid (HVS.out.kept kw16)
  replace HA := Lib.hid (HA.out.kept kw16)
  replace HS1 := Lib.hid (HS1.out.kept kw16)
  replace HS2 := Lib.hid (HS2.out.kept kw16)
  replace HF := Lib.hid (HF.out.kept kw16)
  replace BC := Lib.hid (BC.out.kept kw16)
  replace BA := Lib.hid (BA.out.kept kw16)
  replace BS1 := Lib.hid (BS1.out.kept kw16)
  replace BS2 := Lib.hid (BS2.out.kept kw16)
  clear kw16
  with_reducible refine (implFindElement_any _ fc nm _ HF.out HNM.out).mono ?_
  rintro e w17 ⟨rfl, k17⟩
  have Kw17 := Kw16.trans k17
  have szw17 := k17.size
  replace HC := Lib.hid (HC.out.kept k17)
  replace HL := Lib.hid (HL.out.kept k17)
  replace HW := Lib.hid (HW.out.kept k17)
  replace HV := Lib.hid (HV.out.kept k17)
  replace HVS := Lib.hid (HVS.out.kept k17)
  replace HA := Lib.hid (HA.out.kept k17)
  replace HS1 := Lib.hid (HS1.out.kept k17)
  replace HS2 := Lib.hid (HS2.out.kept k17)
  replace HF := Lib.hid (HF.out.kept k17)
  replace BC := Lib.hid (BC.out.kept k17)
  replace BA := Lib.hid (BA.out.kept k17)
  replace BS1 := Lib.hid (BS1.out.kept k17)
  replace BS2 := Lib.hid (BS2.out.kept k17)
  replace BF := Lib.hid (BF.out.kept k17)
  clear k17
  obtain ⟨xBC, yBC⟩ := BC.out.six
  have lBC := BC.out.lt
  obtain ⟨xBA, yBA⟩ := BA.out.six
  have lBA := BA.out.lt
  obtain ⟨xBS1, yBS1⟩ := BS1.out.six
  have lBS1 := BS1.out.lt
  obtain ⟨xBS2, yBS2⟩ := BS2.out.six
  have lBS2 := BS2.out.lt
  obtain ⟨xBF, yBF⟩ := BF.out.six
  have lBF := BF.out.lt
  go_wp2_with fail
  clear xBC yBC lBC xBA yBA lBA xBS1 yBS1 lBS1 xBS2 yBS2 lBS2 xBF yBF lBF
  with_reducible refine (specFindElement_any _ fc nm _ HF.out HNM.out).mono ?_
  rintro e w18 ⟨rfl, k18⟩
  have Kw18 := Kw17.trans k18
  have szw18 := k18.size
  replace HC := Lib.hid (HC.out.kept k18)
  replace HL := Lib.hid (HL.out.kept k18)
  replace HW := Lib.hid (HW.out.kept k18)
  replace HV := Lib.hid (HV.out.kept k18)
  replace HVS := Lib.hid (HVS.out.kept k18)
  replace HA := Lib.hid (HA.out.kept k18)
  replace HS1 := Lib.hid (HS1.out.kept k18)
  replace HS2 := Lib.hid (HS2.out.kept k18)
  replace HF := Lib.hid (HF.out.kept k18)
  replace BC := Lib.hid (BC.out.kept k18)
  replace BA := Lib.hid (BA.out.kept k18)
  replace BS1 := Lib.hid (BS1.out.kept k18)
  replace BS2 := Lib.hid (BS2.out.kept k18)
  replace BF := Lib.hid (BF.out.kept k18)
  clear k18
  obtain ⟨fb, hfb⟩ : ∃ x, feOk fc nm = x := ⟨_, rfl⟩
  obtain ⟨fv, hfv⟩ : ∃ x, feV fc nm = x := ⟨_, rfl⟩
  rw [hfb, hfv]
  have HFB := Lib.hid hfb
  have HFV := Lib.hid hfv
  clear hfb hfv
  obtain ⟨xBC, yBC⟩ := BC.out.six
  have lBC := BC.out.lt
  obtain ⟨xBA, yBA⟩ := BA.out.six
  have lBA := BA.out.lt
  obtain ⟨xBS1, yBS1⟩ := BS1.out.six
  have lBS1 := BS1.out.lt
  obtain ⟨xBS2, yBS2⟩ := BS2.out.six
  have lBS2 := BS2.out.lt
  obtain ⟨xBF, yBF⟩ := BF.out.six
  have lBF := BF.out.lt
  go_wp2_with fail
  clear xBC yBC lBC xBA yBA lBA xBS1 yBS1 lBS1 xBS2 yBS2 lBS2 xBF yBF lBF
  with_reducible refine (drawIsElementName_any _ _ (H1.out.kept Kw18)).mono ?_
  rintro e w19 ⟨⟨wd, hwd, rfl⟩, k19⟩
  have Kw19 := Kw18.trans k19
  have szw19 := k19.size
  replace HC := Lib.hid (HC.out.kept k19)
  replace HL := Lib.hid (HL.out.kept k19)
  replace HW := Lib.hid (HW.out.kept k19)
  replace HV := Lib.hid (HV.out.kept k19)
  replace HVS := Lib.hid (HVS.out.kept k19)
  replace HA := Lib.hid (HA.out.kept k19)
  replace HS1 := Lib.hid (HS1.out.kept k19)
  replace HS2 := Lib.hid (HS2.out.kept k19)
  replace HF := Lib.hid (HF.out.kept k19)
  replace BC := Lib.hid (BC.out.kept k19)
  replace BA := Lib.hid (BA.out.kept k19)
  replace BS1 := Lib.hid (BS1.out.kept k19)
  replace BS2 := Lib.hid (BS2.out.kept k19)
  replace BF := Lib.hid (BF.out.kept k19)
  clear k19
  have HWD := Lib.hid hwd
  clear hwd
  obtain ⟨ob, hob⟩ : ∃ x, askedB c f = x := ⟨_, rfl⟩
  obtain ⟨gv, hgv⟩ : ∃ x, gbV c f = x := ⟨_, rfl⟩
  rw [hob, hgv]
  have HOB := Lib.hid hob
  have HGV := Lib.hid hgv
  clear hob hgv
  have e1 : (ob != ob) = false := by simp
  have e2 : (gv != gv) = false := by simp
  have e3 : (sb != sb) = false := by simp
  have e4 : (fb != fb) = false := by simp
  have e5 : (fv != fv) = false := by simp
  obtain ⟨xBC, yBC⟩ := BC.out.six
  have lBC := BC.out.lt
  obtain ⟨xBA, yBA⟩ := BA.out.six
  have lBA := BA.out.lt
  obtain ⟨xBS1, yBS1⟩ := BS1.out.six
  have lBS1 := BS1.out.lt
  obtain ⟨xBS2, yBS2⟩ := BS2.out.six
  have lBS2 := BS2.out.lt
  obtain ⟨xBF, yBF⟩ := BF.out.six
  have lBF := BF.out.lt
  go_wp2_with fail
  clear xBC yBC lBC xBA yBA lBA xBS1 yBS1 lBS1 xBS2 yBS2 lBS2 xBF yBF lBF
  with_reducible refine (qInts_any _ _ (ofV c f) _ HL.out HW.out).mono ?_
  rintro e w20 ⟨rfl, k20⟩
  have Kw20 := Kw19.trans k20
  have szw20 := k20.size
  replace HC := Lib.hid (HC.out.kept k20)
  replace HL := Lib.hid (HL.out.kept k20)
  replace HW := Lib.hid (HW.out.kept k20)
  replace HV := Lib.hid (HV.out.kept k20)
  replace HVS := Lib.hid (HVS.out.kept k20)
  replace HA := Lib.hid (HA.out.kept k20)
  replace HS1 := Lib.hid (HS1.out.kept k20)
  replace HS2 := Lib.hid (HS2.out.kept k20)
  replace HF := Lib.hid (HF.out.kept k20)
  replace BC := Lib.hid (BC.out.kept k20)
  replace BA := Lib.hid (BA.out.kept k20)
  replace BS1 := Lib.hid (BS1.out.kept k20)
  replace BS2 := Lib.hid (BS2.out.kept k20)
  replace BF := Lib.hid (BF.out.kept k20)
  clear k20
  obtain ⟨xBC, yBC⟩ := BC.out.six
  have lBC := BC.out.lt
  obtain ⟨xBA, yBA⟩ := BA.out.six
  have lBA := BA.out.lt
  obtain ⟨xBS1, yBS1⟩ := BS1.out.six
  have lBS1 := BS1.out.lt
  obtain ⟨xBS2, yBS2⟩ := BS2.out.six
  have lBS2 := BS2.out.lt
  obtain ⟨xBF, yBF⟩ := BF.out.six
  have lBF := BF.out.lt
  go_wp2_with fail
  clear xBC yBC lBC xBA yBA lBA xBS1 yBS1 lBS1 xBS2 yBS2 lBS2 xBF yBF lBF
  with_reducible refine (qInts_any _ _ (lvV c f) _ HV.out HVS.out).mono ?_
  rintro e w21 ⟨rfl, k21⟩
  have Kw21 := Kw20.trans k21
  have szw21 := k21.size
  replace HC := Lib.hid (HC.out.kept k21)
  replace HL := Lib.hid (HL.out.kept k21)
  replace HW := Lib.hid (HW.out.kept k21)
  replace HV := Lib.hid (HV.out.kept k21)
  replace HVS := Lib.hid (HVS.out.kept k21)
  replace HA := Lib.hid (HA.out.kept k21)
  replace HS1 := Lib.hid (HS1.out.kept k21)
  replace HS2 := Lib.hid (HS2.out.kept k21)
  replace HF := Lib.hid (HF.out.kept k21)
  replace BC := Lib.hid (BC.out.kept k21)
  replace BA := Lib.hid (BA.out.kept k21)
  replace BS1 := Lib.hid (BS1.out.kept k21)
  replace BS2 := Lib.hid (BS2.out.kept k21)
  replace BF := Lib.hid (BF.out.kept k21)
  clear k21
  obtain ⟨xBC, yBC⟩ := BC.out.six
  have lBC := BC.out.lt
  obtain ⟨xBA, yBA⟩ := BA.out.six
  have lBA := BA.out.lt
  obtain ⟨xBS1, yBS1⟩ := BS1.out.six
  have lBS1 := BS1.out.lt
  obtain ⟨xBS2, yBS2⟩ := BS2.out.six
  have lBS2 := BS2.out.lt
  obtain ⟨xBF, yBF⟩ := BF.out.six
  have lBF := BF.out.lt
  go_wp2_with fail
  clear xBC yBC lBC xBA yBA lBA xBS1 yBS1 lBS1 xBS2 yBS2 lBS2 xBF yBF lBF
  with_reducible refine (qCode_any _ _ sv _ HS1.out HS2.out).mono ?_
  rintro e w22 ⟨rfl, k22⟩
  have Kw22 := Kw21.trans k22
  have szw22 := k22.size
  replace HC := Lib.hid (HC.out.kept k22)
  replace HL := Lib.hid (HL.out.kept k22)
  replace HW := Lib.hid (HW.out.kept k22)
  replace HV := Lib.hid (HV.out.kept k22)
  replace HVS := Lib.hid (HVS.out.kept k22)
  replace HA := Lib.hid (HA.out.kept k22)
  replace HS1 := Lib.hid (HS1.out.kept k22)
  replace HS2 := Lib.hid (HS2.out.kept k22)
  replace HF := Lib.hid (HF.out.kept k22)
  replace BC := Lib.hid (BC.out.kept k22)
  replace BA := Lib.hid (BA.out.kept k22)
  replace BS1 := Lib.hid (BS1.out.kept k22)
  replace BS2 := Lib.hid (BS2.out.kept k22)
  replace BF := Lib.hid (BF.out.kept k22)
  clear k22
  obtain ⟨xBC, yBC⟩ := BC.out.six
  have lBC := BC.out.lt
  obtain ⟨xBA, yBA⟩ := BA.out.six
  have lBA := BA.out.lt
  obtain ⟨xBS1, yBS1⟩ := BS1.out.six
  have lBS1 := BS1.out.lt
  obtain ⟨xBS2, yBS2⟩ := BS2.out.six
  have lBS2 := BS2.out.lt
  obtain ⟨xBF, yBF⟩ := BF.out.six
  have lBF := BF.out.lt
  go_wp2_with fail
  clear xBC yBC lBC xBA yBA lBA xBS1 yBS1 lBS1 xBS2 yBS2 lBS2 xBF yBF lBF
  with_reducible refine (isElementName_any wd _ HWD.out).mono ?_
  rintro e w23 ⟨rfl, rfl⟩
  obtain ⟨xBC, yBC⟩ := BC.out.six
  have lBC := BC.out.lt
  obtain ⟨xBA, yBA⟩ := BA.out.six
  have lBA := BA.out.lt
  obtain ⟨xBS1, yBS1⟩ := BS1.out.six
  have lBS1 := BS1.out.lt
  obtain ⟨xBS2, yBS2⟩ := BS2.out.six
  have lBS2 := BS2.out.lt
  obtain ⟨xBF, yBF⟩ := BF.out.six
  have lBF := BF.out.lt
  go_wp2_with fail
  clear xBC yBC lBC xBA yBA lBA xBS1 yBS1 lBS1 xBS2 yBS2 lBS2 xBF yBF lBF
  with_reducible refine (specIsElementName_any wd _ HWD.out).mono ?_
  rintro e w24 ⟨rfl, rfl⟩
  have e6 : (nameB wd != nameB wd) = false := by simp
  obtain ⟨xBC, yBC⟩ := BC.out.six
  have lBC := BC.out.lt
  obtain ⟨xBA, yBA⟩ := BA.out.six
  have lBA := BA.out.lt
  obtain ⟨xBS1, yBS1⟩ := BS1.out.six
  have lBS1 := BS1.out.lt
  obtain ⟨xBS2, yBS2⟩ := BS2.out.six
  have lBS2 := BS2.out.lt
  obtain ⟨xBF, yBF⟩ := BF.out.six
  have lBF := BF.out.lt
  go_upto_region 19 with (fail)
  clear xBC yBC lBC xBA yBA lBA xBS1 yBS1 lBS1 xBS2 yBS2 lBS2 xBF yBF lBF
  clear e1 e2 e3 e4 e5 e6
  go_cut [208] (fun s208 wx => s208 = .bool false ∧ Kept w22 wx)
  case first =>
    as_aux_lemma =>
    cases fb with
    | false =>
      go_wp2_with fail
      go_meet
      exact ⟨rfl, Kept.refl _⟩
    | true =>
      obtain ⟨k, y, e, hk, hy, hyn, hnb⟩ := fe_found HFB.out
      have hfk : fv = (k : Int) := HFV.out.symm.trans e
      subst hfk
      have HNB := Lib.hid hnb
      obtain ⟨nv', mv', e', q1, q2⟩ := HF.out
      injection e' with e'
      have e1 := congrArg Array.toList e'
      simp only [List.cons.injEq] at e1
      obtain ⟨rfl, rfl, _⟩ := e1
      obtain ⟨gb, go, y', rfl, hgl, hy', r0, r1, r2, r3⟩ := elems_at q1.1.addr hk
      rw [hy] at hy'
      injection hy' with hy'
      subst hy'
      rw [hyn] at r0
      have hk' : (k : Int) < (fc.elems.length : Int) := by omega
      clear e e' q1 q2 hy hyn hnb r1 r2 r3
      obtain ⟨xBC, yBC⟩ := BC.out.six
      have lBC := BC.out.lt
      obtain ⟨xBA, yBA⟩ := BA.out.six
      have lBA := BA.out.lt
      obtain ⟨xBS1, yBS1⟩ := BS1.out.six
      have lBS1 := BS1.out.lt
      obtain ⟨xBS2, yBS2⟩ := BS2.out.six
      have lBS2 := BS2.out.lt
      obtain ⟨xBF, yBF⟩ := BF.out.six
      have lBF := BF.out.lt
      go_wp2_with fail
      clear xBC yBC lBC xBA yBA lBA xBS1 yBS1 lBS1 xBS2 yBS2 lBS2 xBF yBF lBF
      refine (isElementName_any nm _ HNM.out).mono ?_
      rintro e w' ⟨rfl, rfl⟩
      rw [HNB.out]
      go_wp2_with fail
      go_meet
      exact ⟨rfl, Kept.refl _⟩
  case rest =>
    as_aux_lemma =>
    obtain ⟨rfl, kx⟩ := hcut
    have Kwc := Kw22.trans kx
    have szwc := kx.size
    replace HC := Lib.hid (HC.out.kept kx)
    replace HL := Lib.hid (HL.out.kept kx)
    replace HW := Lib.hid (HW.out.kept kx)
    replace HV := Lib.hid (HV.out.kept kx)
    replace HVS := Lib.hid (HVS.out.kept kx)
    replace HA := Lib.hid (HA.out.kept kx)
    replace HS1 := Lib.hid (HS1.out.kept kx)
    replace HS2 := Lib.hid (HS2.out.kept kx)
    replace HF := Lib.hid (HF.out.kept kx)
    replace BC := Lib.hid (BC.out.kept kx)
    replace BA := Lib.hid (BA.out.kept kx)
    replace BS1 := Lib.hid (BS1.out.kept kx)
    replace BS2 := Lib.hid (BS2.out.kept kx)
    replace BF := Lib.hid (BF.out.kept kx)
    clear kx
    obtain ⟨wA, rfl⟩ : ∃ x : World, x = wc := ⟨_, rfl⟩
    clear Kw22 Kw21 Kw20 Kw19 Kw18 Kw17 Kw16 Kw15 Kw14 Kw13 Kw12 Kw11 Kw10 Kw9 Kw8 Kw7 Kw6 Kw5 Kw4 Kw3 Kw2 Kw1 K0
    clear szw1 hn1 hm1 szw2 szw3 hn3 hm3 szw4 hn4 hm4 szw5 hn5 hm5 szw6 hn6 hm6 szw7 szw8 szw9 hn9 hm9 szw10 szw11 hn11 hm11 szw12 szw13 hn13 hm13 szw14 szw15 hn15 hm15 szw16 szw17 szw18 szw19 szw20 szw21 szw22
    clear szwc
    clear HNM HWD BF HF BS1 HS1 HFB HFV
    obtain ⟨xBC, yBC⟩ := BC.out.six
    have lBC := BC.out.lt
    obtain ⟨xBA, yBA⟩ := BA.out.six
    have lBA := BA.out.lt
    obtain ⟨xBS2, yBS2⟩ := BS2.out.six
    have lBS2 := BS2.out.lt
    go_upto_if 209 with (fail)
    clear xBC yBC lBC xBA yBA lBA xBS2 yBS2 lBS2
    go_cut [209] (fun _ wx => Kept wA wx)
    case first =>
      as_aux_lemma =>
      cases sb with
      | false =>
        go_wp2_with fail
        go_meet
        exact Kept.refl _
      | true =>
        have HSL : Hid (sv.elems.length = a.elems.length) := Lib.hid (by rw [← HSV.out]; exact sc_lens HSB.out)
        obtain ⟨nv', mv', e', q1, q2⟩ := HS2.out
        injection e' with e'
        have e1 := congrArg Array.toList e'
        simp only [List.cons.injEq] at e1
        obtain ⟨rfl, rfl, _⟩ := e1
        have HQ1 := Lib.hid q1.1.addr
        obtain ⟨nv', mv', e', q3, q4⟩ := HA.out
        injection e' with e'
        have e1 := congrArg Array.toList e'
        simp only [List.cons.injEq] at e1
        obtain ⟨rfl, rfl, _⟩ := e1
        have HQ3 := Lib.hid q3.1.addr
        clear e' q1 q2 q3 q4
        obtain ⟨xBC, yBC⟩ := BC.out.six
        have lBC := BC.out.lt
        obtain ⟨xBA, yBA⟩ := BA.out.six
        have lBA := BA.out.lt
        obtain ⟨xBS2, yBS2⟩ := BS2.out.six
        have lBS2 := BS2.out.lt
        go_wp2_with fail
        clear xBC yBC lBC xBA yBA lBA xBS2 yBS2 lBS2
        go_loopw [213] (fun i wr => ∃ k : Nat, k ≤ sv.elems.length ∧ i = .int .i64 k ∧ Kept wA wr) (fun i _ => sv.elems.length - (RowKit.intOf i).toNat)
        case atStart => exact ⟨0, Nat.zero_le _, rfl, Kept.refl _⟩
        case round =>
          as_aux_lemma =>
          obtain ⟨k, hk, rfl, hkept⟩ := hrel
          by_cases hlt : k < sv.elems.length
          · have hlt2 : k < a.elems.length := by rw [← HSL.out]; exact hlt
            obtain ⟨b1, o1, x, e1, hb1, hx, r0, r1, r2, r3⟩ := elems_at (HQ1.out.kept hkept) hlt
            subst e1
            obtain ⟨b2, o2, y, e2, hb2, hy, s0, s1, s2, s3⟩ := elems_at (HQ3.out.kept hkept) hlt2
            subst e2
            obtain ⟨t1, t2, t3, t4, t5⟩ := sc_elem HSB.out hy
            rw [HSV.out, hx] at t1
            injection t1 with t1
            rw [← t1] at t2 t3 t4 t5
            have hk1 : (k : Int) < (sv.elems.length : Int) := by omega
            have hk2 : (k : Int) < (a.elems.length : Int) := by omega
            have u1 : ¬ x.base < 1 := by omega
            rw [t2] at r0
            clear hx hy t1 t2 t3
            have hxb := (BS2.out.kept hkept)
            have hab := (BA.out.kept hkept)
            obtain ⟨xs, ys⟩ := hxb.six
            obtain ⟨xa, ya⟩ := hab.six
            have lxs := hxb.lt
            have lxa := hab.lt
            clear ys ya hxb hab
            by_cases p1 : pc ≤ 100
            · have u2 : ¬ y.base < x.base := by have := t4 p1; omega
              by_cases p2 : 100 ≤ pc
              · have u3 : ¬ x.base < y.base := by have := t5 p2; omega
                clear t4 t5
                go_wp2_with fail
                go_roundw
                case rel => exact ⟨k + 1, by omega, by go_num, (hkept.alloc _).alloc _⟩
                case measure => simp [RowKit.intOf]; omega
              · clear t4 t5
                go_wp2_with fail
                go_roundw
                case rel => exact ⟨k + 1, by omega, by go_num, (hkept.alloc _).alloc _⟩
                case measure => simp [RowKit.intOf]; omega
            · have p2 : 100 ≤ pc := by omega
              have u3 : ¬ x.base < y.base := by have := t5 p2; omega
              clear t4 t5
              go_wp2_with fail
              go_roundw
              case rel => exact ⟨k + 1, by omega, by go_num, (hkept.alloc _).alloc _⟩
              case measure => simp [RowKit.intOf]; omega
          · go_wp2_with fail
            go_meet
            exact hkept
    case rest =>
      as_aux_lemma =>
      have kx : Kept wA wc := hcut
      clear hcut
      have Kwc := Kwc.trans kx
      have szwc := kx.size
      replace HC := Lib.hid (HC.out.kept kx)
      replace HL := Lib.hid (HL.out.kept kx)
      replace HW := Lib.hid (HW.out.kept kx)
      replace HV := Lib.hid (HV.out.kept kx)
      replace HVS := Lib.hid (HVS.out.kept kx)
      replace HA := Lib.hid (HA.out.kept kx)
      replace HS2 := Lib.hid (HS2.out.kept kx)
      replace BC := Lib.hid (BC.out.kept kx)
      replace BA := Lib.hid (BA.out.kept kx)
      replace BS2 := Lib.hid (BS2.out.kept kx)
      clear kx
      obtain ⟨wB, rfl⟩ : ∃ x : World, x = wc := ⟨_, rfl⟩
      clear HS2 HA BA BS2
      cases ob with
      | false =>
        obtain ⟨xBC, yBC⟩ := BC.out.six
        have lBC := BC.out.lt
        go_wp2_with fail
        clear xBC yBC lBC
        go_ret
        exact ⟨rfl, Kwc⟩
      | true =>
        obtain ⟨nv', mv', e', q1, q2⟩ := HC.out
        injection e' with e'
        have e1 := congrArg Array.toList e'
        simp only [List.cons.injEq] at e1
        obtain ⟨rfl, rfl, _⟩ := e1
        have HQ := Lib.hid q1.1.addr
        have HFZ := Lib.hid (famN_zero c.elems)
        clear e' q1 q2
        obtain ⟨xBC, yBC⟩ := BC.out.six
        have lBC := BC.out.lt
        go_wp2_with fail
        clear xBC yBC lBC
        go_loopw [35, 37] (fun s35 s37 wr => ∃ n : Nat, n ≤ 5 ∧ s37 = .int .i64 n ∧ s35 = .int .i64 (famN c.elems n) ∧ Kept wB wr) (fun _ i _ => 5 - (RowKit.intOf i).toNat)
        case atStart => exact ⟨0, by omega, rfl, by rw [show ((0 : Nat) : Int) = 0 from rfl, HFZ.out]; rfl, Kept.refl _⟩
        case round =>
          as_aux_lemma =>
          clear HFZ
          obtain ⟨n, hn, rfl, rfl, hkept⟩ := hrel
          have hfl := famN_le c.elems n
          by_cases hlt : n < 5
          · have hlt' : (n : Int) < 5 := by omega
            have HFS := Lib.hid (famN_succ c.elems n)
            have HOV : Hid ((ofV c (n : Int)).length = (lvls c.elems n).length) := Lib.hid (ofV_at HOB.out hlt)
            have hov := ofV_len c (n : Int)
            have HAT := Lib.hid (asked_at HOB.out hlt)
            obtain ⟨xc, yc⟩ := (BC.out.kept hkept).six
            generalize hfm : famN c.elems n = fm at *
            have HFM := Lib.hid hfm
            clear hfm
            go_wp2_with fail
            clear xc yc
            with_reducible refine (ofFamily_any _ c (n : Int) _ (HC.out.kept hkept)).mono ?_
            rintro e w2 ⟨v2, rfl, o2, k2⟩
            rw [HAT.out]
            obtain ⟨A2, c2, rfl, hn2, hm2, _⟩ := own_form o2
            clear o2
            go_wp2_with fail
            go_roundw
            case rel => exact ⟨n + 1, by omega, by go_num, by have h1 := HFS.out; have h2 := HOV.out; rw [show ((n + 1 : Nat) : Int) = (n : Int) + 1 from by omega, h1, ← h2]; simp, hkept.trans k2⟩
            case measure => simp [RowKit.intOf]; omega
          · obtain rfl : n = 5 := by omega
            have hF5 : famN c.elems ((5 : Nat) : Int) = c.elems.length := famN_all (asked_code HOB.out)
            rw [hF5]
            clear hF5 hfl hlt hn
            have KB := Lib.hid hkept
            have BR := Lib.hid (BC.out.kept hkept)
            have HWR := Lib.hid (HW.out.kept hkept)
            have HVR := Lib.hid (HVS.out.kept hkept)
            have HQR := Lib.hid (HQ.out.kept hkept)
            have HWA := Lib.hid HWR.out.addr
            have hol : (ofV c f).length ≤ 25 := Nat.le_trans (ofV_len c f) h25
            clear hkept
            obtain ⟨xc, yc⟩ := BR.out.six
            clear yc
            go_wp2_with fail
            go_loop [36, 276] (fun s36 s276 => ∃ j : Nat, j ≤ (ofV c f).length ∧ s276 = .int .i64 j ∧ s36 = .int .i64 (mxB c.elems ((ofV c f).take j))) (fun _ i => (ofV c f).length - (RowKit.intOf i).toNat)
            case atStart => exact ⟨0, Nat.zero_le _, rfl, rfl⟩
            case round =>
              obtain ⟨j, hj, rfl, rfl⟩ := hrel
              by_cases hlt : j < (ofV c f).length
              · obtain ⟨b1, o1, z, e1, hb1, hz, hx⟩ := ints_at HWA.out hlt
                subst e1
                obtain ⟨i, y, rfl, hi, hy, hyf⟩ := ofV_mem HOB.out hz
                have HM := Lib.hid (mxB_snoc hz hy)
                obtain ⟨b2, o2, y', e2, hb2, hy', r0, r1, r2, r3⟩ := elems_at HQR.out hi
                subst e2
                rw [hy] at hy'
                injection hy' with hy'
                subst hy'
                rw [hyf] at r1
                have hi' : (i : Int) < (c.elems.length : Int) := by omega
                clear hz hy r0 r2 hyf
                generalize mxB c.elems ((ofV c f).take j) = mx at *
                by_cases hgt : mx < y.base
                · have HG := Lib.hid hgt
                  go_wp2_with fail
                  go_round
                  case rel => exact ⟨j + 1, by omega, by go_num, by rw [HM.out, Int.max_eq_right (Int.le_of_lt HG.out)]⟩
                  case measure => simp [RowKit.intOf]; omega
                · have HG := Lib.hid hgt
                  go_wp2_with fail
                  go_round
                  case rel => exact ⟨j + 1, by omega, by go_num, by rw [HM.out, Int.max_eq_left (by have := HG.out; omega)]⟩
                  case measure => simp [RowKit.intOf]; omega
              · obtain ⟨jn, hjn⟩ : ∃ x : Nat, x = (ofV c f).length := ⟨_, rfl⟩
                obtain rfl : j = jn := by omega
                have hm : mxB c.elems ((ofV c f).take j) = gv := by rw [hjn, List.take_length, mxB_all HOB.out, HGV.out]
                have hs : (lvV c f).sum = (j : Int) := by rw [lvV_sum HOB.out, hjn]
                rw [hm]
                have CQ := Lib.hid (fun w0 h => qSum_any (.slice A6 (lvV c f).length c6) (lvV c f) w0 h (Nat.le_trans (lvV_len c f) (by omega)) (fun z hz => by have := lvV_bd (x := c) (f := f) (by omega) z hz; omega))
                rw [hs] at CQ
                rw [← hjn]
                clear hm hs hjn hlt hj
                go_wp2_with fail
                refine (CQ.out _ HVR.out).mono ?_
                rintro e w' ⟨rfl, rfl⟩
                go_wp2_with fail
                go_ret
                exact ⟨rfl, Kwc.trans KB.out⟩
end Go.Proofs.Ytlmaiblfgbobnaa

/- Arguments opened: a slice of bytes. -/
namespace Go.Proofs.Ytlmaiblfgbobnaa
set_option linter.unusedVariables false
set_option linter.unusedSimpArgs false
set_option maxRecDepth 100000
open Go.ChangeShapes Go.WideShapes Go.ChangeAt Go.RowKit

theorem blockB_lt {w : World} {a : Addr} {v : Value} (h : w.cell? a = some v) : a.block < w.heap.size := by
  rcases Nat.lt_or_ge a.block w.heap.size with hlt | hge
  · exact hlt
  · unfold World.cell? at h
    rw [Array.getElem?_eq_none hge] at h
    cases h
theorem addB_at {b o : Nat} (i : Nat) : (⟨b, o, none⟩ : Addr).add i = ⟨b, o + i, none⟩ := by
  unfold Addr.add
  split <;> simp_all
theorem spotB_of {w : World} {x : Addr} {u : Value} (h : w.cell? (x.add 0) = some u) : ∃ b o, x = ⟨b, o, none⟩ := by
  obtain ⟨b, o, s⟩ := x
  have hs : s = none := by simpa [Addr.add] using World.cell?_spot h
  exact ⟨b, o, by rw [hs]⟩
section
variable {H : Type} {enc : TypeId × Value → H} {W : World} {r : Reach} {b0 base : Nat} {spare : Nat → Bool} {held : Bool} {v : Value} {d : DataW H} {p : List MemPlace} {x : DataW H × List MemPlace}
theorem wf_u8 {n : Int} (h : (Lit.int .u8 n).wf = true) : 0 ≤ n ∧ n ≤ 255 := by
  simp [Lit.wf] at h
  have e1 : IntKind.u8.min = 0 := rfl
  have e2 : IntKind.u8.max = 255 := rfl
  omega
theorem open_B (hv : Value.okWide Try.prog W r b0 22 v) (h : DataW.Trod enc Try.prog W base spare held 22 v d p) : Byts W v := by
  obtain ⟨a0, len0, cap0, rfl⟩ := okWide_slice Try.underlying22 hv
  obtain ⟨fuel, hf⟩ := h
  rcases open_ints Try.underlying22 Try.underlying5 (by kernel_rfl) hf with ⟨hcs, _⟩ | ⟨ad, len, cap, zs, hcs, _, hl, hm, hz, _, hcell, hwz⟩
  · injection hcs with hcs _
    injection hcs with e1 e2 e3
    subst e1 e2 e3
    exact ⟨none, 0, 0, rfl, Nat.le_refl _, Nat.zero_le _, fun h => absurd h (by omega)⟩
  · injection hcs with hcs _
    injection hcs with e1 e2 e3
    subst e1 e2 e3
    refine ⟨_, _, _, rfl, hl, hm, fun hn => ?_⟩
    have hge : len0 ≤ zs.length := by rw [hz]; split <;> omega
    obtain ⟨b, o, rfl⟩ := spotB_of (hcell 0 (by omega))
    have h0 := hcell 0 (by omega)
    rw [addB_at] at h0
    refine ⟨b, o, rfl, blockB_lt h0, fun j hj => ?_⟩
    have hc := hcell j (by omega)
    rw [addB_at] at hc
    have hw := wf_u8 (hwz _ (List.getElem_mem (show j < zs.length by omega)))
    refine ⟨zs[j]'(by omega), hw.1, hw.2, ?_⟩
    rw [hc, List.getD_eq_getElem?_getD, List.getElem?_eq_getElem (by omega)]
    rfl
end
end Go.Proofs.Ytlmaiblfgbobnaa
