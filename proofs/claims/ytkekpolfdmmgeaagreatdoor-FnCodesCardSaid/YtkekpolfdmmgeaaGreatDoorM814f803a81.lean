/- Contracts of functions that the proof leans on. No condition. -/
import Derived.Test.YtkekpolfdmmgeaaGreatDoorM67b46cff56
import Derived.ProofKit
import Derived.OpenShut
import Derived.ChangeOld
/- FnElements: helpers of the law: qInts, qSum, qCode, big. -/
namespace Go.Proofs.YtkekpolfdmmgeaaGreatDoor
set_option linter.unusedVariables false
set_option linter.unusedSimpArgs false
open Go.RowKit

theorem qInts_any (v1 v2 : Value) (zs : List Int) (w : World) (h1 : Ints w v1 zs) (h2 : Ints w v2 zs) :
    Calls Tryz.prog 72 #[v1, v2] w fun e w' => e = .returned (.bool true) ∧ Kept w w' := by
  obtain ⟨A, c, rfl, hnc, hcm, hl⟩ := h1.out
  obtain ⟨A2, c2, rfl, hnc2, hcm2, hl2⟩ := h2.out
  unfold maxLen at hcm hcm2
  have HL := Lib.hid hl
  have HL2 := Lib.hid hl2
  clear hl h1 hl2 h2
  have hne : ((zs.length : Int) != (zs.length : Int)) = false := by simp
  go_enter Tryz.func72, Tryz.ntmps72
  go_wp2_with fail
  go_loopw [13] (fun i wr => ∃ k : Nat, k ≤ zs.length ∧ i = .int .i64 k ∧ Kept w wr) (fun i _ => zs.length - (intOf i).toNat)
  case atStart => exact ⟨0, Nat.zero_le _, rfl, Kept.refl _⟩
  case round =>
    obtain ⟨k, hk, rfl, hkept⟩ := hrel
    by_cases hlt : k < zs.length
    · obtain ⟨b, o, z, rfl, hb, hz, hc⟩ := ints_at (HL.out.kept hkept) hlt
      obtain ⟨b2, o2, z2, rfl, hb2, hz2, hc2⟩ := ints_at (HL2.out.kept hkept) hlt
      rw [hz] at hz2
      injection hz2 with hz2
      subst hz2
      have hlt' : (k : Int) < (zs.length : Int) := by omega
      clear hz
      go_wp2_with fail
      go_quiet (fail)
      go_wp2_with fail
      go_roundw
      case rel => exact ⟨k + 1, by omega, by go_num, hkept.drewN _⟩
      case measure => simp [intOf]; omega
    · go_wp2_with fail
      go_ret
      exact ⟨rfl, hkept⟩
set_option maxRecDepth 100000 in
set_option maxHeartbeats 4000000 in
theorem qCode_any (v1 v2 : Value) (a : CodeD) (w : World) (h1 : CodeAt w v1 a) (h2 : CodeAt w v2 a) :
    Calls Tryz.prog 17 #[v1, v2] w fun e w' => e = .returned (.bool true) ∧ Kept w w' := by
  obtain ⟨nv, mv, rfl, q1, q2⟩ := h1
  obtain ⟨nv', mv', rfl, q3, q4⟩ := h2
  have H2 := Lib.hid q2
  have H4 := Lib.hid q4
  obtain ⟨A, c, rfl, hnc, hcm, hA⟩ := q1.1.out
  obtain ⟨A', c', rfl, hnc', hcm', hA'⟩ := q3.1.out
  obtain ⟨D, d, rfl, _, _, _⟩ := q2.out
  obtain ⟨D', d', rfl, _, _, _⟩ := q4.out
  unfold maxLen at hcm hcm'
  have HA := Lib.hid hA
  have HA' := Lib.hid hA'
  clear q1 q2 q3 q4 hA hA'
  have hne : ((a.elems.length : Int) != (a.elems.length : Int)) = false := by simp
  have e1 : (a.repeats != a.repeats) = false := by simp
  have e2 : (a.bonus != a.bonus) = false := by simp
  have e3 : (a.keeps != a.keeps) = false := by simp
  have e4 : (a.fall != a.fall) = false := by simp
  have K0 : Kept w ((w.alloc (.cells #[.slice A a.elems.length c, .slice D a.limits.length d, .int .i64 a.repeats, .int .i64 a.bonus, .int .i64 a.keeps, .int .i64 a.fall] 26)).alloc (.cells #[.slice A' a.elems.length c', .slice D' a.limits.length d', .int .i64 a.repeats, .int .i64 a.bonus, .int .i64 a.keeps, .int .i64 a.fall] 26)) := ((Kept.refl w).alloc _).alloc _
  go_enter Tryz.func17, Tryz.ntmps17
  go_wp2_with fail
  refine (qInts_any _ _ a.limits _ (H2.out.kept K0) (H4.out.kept K0)).mono ?_
  rintro e w1 ⟨rfl, k1⟩
  have B0 := ((Box.new w w.heap.size 26 #[.slice A a.elems.length c, .slice D a.limits.length d, .int .i64 a.repeats, .int .i64 a.bonus, .int .i64 a.keeps, .int .i64 a.fall] rfl).alloc (.cells #[.slice A' a.elems.length c', .slice D' a.limits.length d', .int .i64 a.repeats, .int .i64 a.bonus, .int .i64 a.keeps, .int .i64 a.fall] 26)).kept k1
  have B1 := (Box.new (w.alloc (.cells #[.slice A a.elems.length c, .slice D a.limits.length d, .int .i64 a.repeats, .int .i64 a.bonus, .int .i64 a.keeps, .int .i64 a.fall] 26)) (w.heap.size + 1) 26 #[.slice A' a.elems.length c', .slice D' a.limits.length d', .int .i64 a.repeats, .int .i64 a.bonus, .int .i64 a.keeps, .int .i64 a.fall] (by simp)).kept k1
  have K1 := K0.trans k1
  obtain ⟨c0, f0⟩ := B0.six
  obtain ⟨c1, f1⟩ := B1.six
  clear k1 f0 f1
  go_wp2_with fail
  clear c0 c1
  go_loopw [52] (fun i wr => ∃ k : Nat, k ≤ a.elems.length ∧ i = .int .i64 k ∧ Kept w1 wr) (fun i _ => a.elems.length - (intOf i).toNat)
  case atStart => exact ⟨0, Nat.zero_le _, rfl, Kept.refl _⟩
  case round =>
    obtain ⟨k, hk, rfl, hkept⟩ := hrel
    by_cases hlt : k < a.elems.length
    · obtain ⟨b, o, x, rfl, hb, h2, q0, q1, q2, q3⟩ := elems_at (HA.out.kept (K1.trans hkept)) hlt
      obtain ⟨b', o', x', rfl, hb', h2', q0', q1', q2', q3'⟩ := elems_at (HA'.out.kept (K1.trans hkept)) hlt
      rw [h2] at h2'
      injection h2' with h2'
      subst h2'
      have hlt' : (k : Int) < (a.elems.length : Int) := by omega
      obtain ⟨c0, f0⟩ := (B0.kept hkept).six
      obtain ⟨c1, f1⟩ := (B1.kept hkept).six
      clear h2 f0 f1
      go_wp2_with fail
      go_quiet (fail)
      go_wp2_with fail
      go_roundw
      case rel => exact ⟨k + 1, by omega, by go_num, hkept.drewN _⟩
      case measure => simp [intOf]; omega
    · go_wp2_with fail
      go_ret
      exact ⟨rfl, K1.trans hkept⟩
end Go.Proofs.YtkekpolfdmmgeaaGreatDoor

/- FnCodes: the law. -/
namespace Go.Proofs.YtkekpolfdmmgeaaGreatDoor
set_option linter.unusedVariables false
set_option linter.unusedSimpArgs false
open Go.RowKit

set_option maxRecDepth 100000 in
set_option maxHeartbeats 40000000 in
theorem lawFnCodes_any (v0 v1 : Value) (w : World) (h0 : Byts w v0) (h1 : Byts w v1) (ht : HasTab w) (hm : HasMax w) :
    Calls Tryz.prog 3 #[v0, v1] w fun e w' => e = .returned (.bool true) ∧ Kept w w' := by
  have H0 := Lib.hid h0
  have H1 := Lib.hid h1
  have HTB := Lib.hid ht
  have HMX := Lib.hid hm
  clear ht hm
  obtain ⟨A0, n0, c0, rfl, hnc0, hcm0, _⟩ := h0
  obtain ⟨A1, n1, c1, rfl, hnc1, hcm1, _⟩ := h1
  unfold maxLen at hcm0 hcm1
  go_enter Tryz.func3, Tryz.ntmps3
  have K0 := Kept.refl w
  go_wp2_with fail
  · go_ret
    exact ⟨rfl, K0⟩
  with_reducible refine (drawCodeText_any _ _ (H0.out.kept K0)).mono ?_
  rintro e w1 ⟨⟨v, c, rfl, oc, _, _⟩, k1⟩
  have Kw1 := K0.trans k1
  have szw1 := k1.size
  clear k1
  obtain ⟨evc, lvc, rfl, pc, qc, ndc⟩ := oc
  obtain ⟨Ac, cc, rfl, hnc, hmc, _⟩ := own_form pc.1
  obtain ⟨Dc, dc, rfl, _⟩ := own_form qc
  unfold maxLen at hmc
  have HC : Hid (CodeAt w1 (.agg #[.slice Ac c.elems.length cc, .slice Dc c.limits.length dc, .int .i64 c.repeats, .int .i64 c.bonus, .int .i64 c.keeps, .int .i64 c.fall]) c) := Lib.hid ⟨_, _, rfl, pc.elems, qc.ints⟩
  clear pc qc ndc
  go_wp2_with fail
  obtain ⟨w2, hw2⟩ : ∃ zz : World, zz = w1.alloc (.cells #[.slice Ac c.elems.length cc, .slice Dc c.limits.length dc, .int .i64 c.repeats, .int .i64 c.bonus, .int .i64 c.keeps, .int .i64 c.fall] 26) := ⟨_, rfl⟩
  rw [← hw2]
  have kw2 : Kept w1 w2 := hw2 ▸ (Kept.refl w1).alloc _
  have BC : Hid (Box w2 (w1.heap.size) 26 #[.slice Ac c.elems.length cc, .slice Dc c.limits.length dc, .int .i64 c.repeats, .int .i64 c.bonus, .int .i64 c.keeps, .int .i64 c.fall]) := Lib.hid (hw2 ▸ Box.new w1 _ _ _ rfl)
  clear hw2
  have Kw2 := Kw1.trans kw2
  have szw2 := kw2.size
  replace HC := Lib.hid (HC.out.kept kw2)
  clear kw2
  with_reducible refine (implCodeText_any _ c _ HC.out (HTB.out.kept Kw2)).mono ?_
  rintro e w3 ⟨rfl, k3⟩
  have Kw3 := Kw2.trans k3
  have szw3 := k3.size
  replace HC := Lib.hid (HC.out.kept k3)
  replace BC := Lib.hid (BC.out.kept k3)
  clear k3
  obtain ⟨xBC, yBC⟩ := BC.out.six
  have lBC := BC.out.lt
  go_wp2_with fail
  clear xBC yBC lBC
  with_reducible refine (specCodeText_any _ c _ HC.out).mono ?_
  rintro e w4 ⟨rfl, k4⟩
  have Kw4 := Kw3.trans k4
  have szw4 := k4.size
  replace HC := Lib.hid (HC.out.kept k4)
  replace BC := Lib.hid (BC.out.kept k4)
  clear k4
  obtain ⟨s, hs⟩ : ∃ z, ctV c = z := ⟨_, rfl⟩
  obtain ⟨ok, hok⟩ : ∃ z, codeB c = z := ⟨_, rfl⟩
  rw [hs, hok]
  have HS := Lib.hid hs
  have HOK := Lib.hid hok
  clear hs hok
  obtain ⟨xBC, yBC⟩ := BC.out.six
  have lBC := BC.out.lt
  go_wp2_with fail
  clear xBC yBC lBC
  with_reducible refine (drawAddElement_any _ _ (H1.out.kept Kw4)).mono ?_
  rintro e w5 ⟨⟨v, a, ev, y, rfl, oc, _, _, ⟨rfl, hy⟩⟩, k5⟩
  have Kw5 := Kw4.trans k5
  have szw5 := k5.size
  replace HC := Lib.hid (HC.out.kept k5)
  replace BC := Lib.hid (BC.out.kept k5)
  clear k5
  have HY := Lib.hid hy
  clear hy
  obtain ⟨eva, lva, rfl, pa, qa, nda⟩ := oc
  obtain ⟨Aa, ca, rfl, hna, hma, _⟩ := own_form pa.1
  obtain ⟨Da, da, rfl, _⟩ := own_form qa
  unfold maxLen at hma
  have HA : Hid (CodeAt w5 (.agg #[.slice Aa a.elems.length ca, .slice Da a.limits.length da, .int .i64 a.repeats, .int .i64 a.bonus, .int .i64 a.keeps, .int .i64 a.fall]) a) := Lib.hid ⟨_, _, rfl, pa.elems, qa.ints⟩
  clear pa qa nda
  obtain ⟨xBC, yBC⟩ := BC.out.six
  have lBC := BC.out.lt
  go_wp2_with fail
  clear xBC yBC lBC
  obtain ⟨w6, hw6⟩ : ∃ zz : World, zz = w5.alloc (.cells #[.slice Aa a.elems.length ca, .slice Da a.limits.length da, .int .i64 a.repeats, .int .i64 a.bonus, .int .i64 a.keeps, .int .i64 a.fall] 26) := ⟨_, rfl⟩
  rw [← hw6]
  have kw6 : Kept w5 w6 := hw6 ▸ (Kept.refl w5).alloc _
  have BA : Hid (Box w6 (w5.heap.size) 26 #[.slice Aa a.elems.length ca, .slice Da a.limits.length da, .int .i64 a.repeats, .int .i64 a.bonus, .int .i64 a.keeps, .int .i64 a.fall]) := Lib.hid (hw6 ▸ Box.new w5 _ _ _ rfl)
  have hszw6 : w6.heap.size = w5.heap.size + 1 := by rw [hw6]; simp
  clear hw6
  have Kw6 := Kw5.trans kw6
  have szw6 := kw6.size
  replace HC := Lib.hid (HC.out.kept kw6)
  replace HA := Lib.hid (HA.out.kept kw6)
  replace BC := Lib.hid (BC.out.kept kw6)
  clear kw6
  obtain ⟨w7, hw7⟩ : ∃ zz : World, zz = w6.alloc (.cells #[.string y.name, .int .i64 y.family, .int .i64 y.level, .int .i64 y.base] 31) := ⟨_, rfl⟩
  rw [← hw7]
  have kw7 : Kept w6 w7 := hw7 ▸ (Kept.refl w6).alloc _
  have BE : Hid (Box w7 (w5.heap.size + 1) 31 #[.string y.name, .int .i64 y.family, .int .i64 y.level, .int .i64 y.base]) := Lib.hid (hw7 ▸ Box.new w6 _ _ _ hszw6.symm)
  clear hszw6
  clear hw7
  have Kw7 := Kw6.trans kw7
  have szw7 := kw7.size
  replace HC := Lib.hid (HC.out.kept kw7)
  replace HA := Lib.hid (HA.out.kept kw7)
  replace BC := Lib.hid (BC.out.kept kw7)
  replace BA := Lib.hid (BA.out.kept kw7)
  clear kw7
  with_reducible refine (addElement_any _ _ a y _ HA.out (ElemAt.mk y _ HY.out)).mono ?_
  rintro e w8 ⟨v, rfl, o8, k8⟩
  have Kw8 := Kw7.trans k8
  have szw8 := k8.size
  replace HC := Lib.hid (HC.out.kept k8)
  replace HA := Lib.hid (HA.out.kept k8)
  replace BC := Lib.hid (BC.out.kept k8)
  replace BA := Lib.hid (BA.out.kept k8)
  replace BE := Lib.hid (BE.out.kept k8)
  clear k8
  obtain ⟨x, hx⟩ : ∃ z, adV a y = z := ⟨_, rfl⟩
  obtain ⟨one, hone⟩ : ∃ z, adB a y = z := ⟨_, rfl⟩
  rw [hx] at o8
  rw [hone]
  have HX := Lib.hid hx
  have HON := Lib.hid hone
  clear hx hone
  obtain ⟨evx, lvx, rfl, px, qx, ndx⟩ := o8
  obtain ⟨Ax, cx, rfl, hnx, hmx, _⟩ := own_form px.1
  obtain ⟨Dx, dx, rfl, _⟩ := own_form qx
  unfold maxLen at hmx
  have HXC : Hid (CodeAt w8 (.agg #[.slice Ax x.elems.length cx, .slice Dx x.limits.length dx, .int .i64 x.repeats, .int .i64 x.bonus, .int .i64 x.keeps, .int .i64 x.fall]) x) := Lib.hid ⟨_, _, rfl, px.elems, qx.ints⟩
  clear px qx ndx
  obtain ⟨xBC, yBC⟩ := BC.out.six
  have lBC := BC.out.lt
  obtain ⟨xBA, yBA⟩ := BA.out.six
  have lBA := BA.out.lt
  obtain ⟨xBE, yBE⟩ := BE.out.four
  have lBE := BE.out.lt
  go_wp2_with fail
  clear xBC yBC lBC xBA yBA lBA xBE yBE lBE
  obtain ⟨w9, hw9⟩ : ∃ zz : World, zz = w8.alloc (.cells #[.slice Ax x.elems.length cx, .slice Dx x.limits.length dx, .int .i64 x.repeats, .int .i64 x.bonus, .int .i64 x.keeps, .int .i64 x.fall] 26) := ⟨_, rfl⟩
  rw [← hw9]
  have kw9 : Kept w8 w9 := hw9 ▸ (Kept.refl w8).alloc _
  have BX : Hid (Box w9 (w8.heap.size) 26 #[.slice Ax x.elems.length cx, .slice Dx x.limits.length dx, .int .i64 x.repeats, .int .i64 x.bonus, .int .i64 x.keeps, .int .i64 x.fall]) := Lib.hid (hw9 ▸ Box.new w8 _ _ _ rfl)
  clear hw9
  have Kw9 := Kw8.trans kw9
  have szw9 := kw9.size
  replace HC := Lib.hid (HC.out.kept kw9)
  replace HA := Lib.hid (HA.out.kept kw9)
  replace HXC := Lib.hid (HXC.out.kept kw9)
  replace BC := Lib.hid (BC.out.kept kw9)
  replace BA := Lib.hid (BA.out.kept kw9)
  replace BE := Lib.hid (BE.out.kept kw9)
  clear kw9
  with_reducible refine (specAddElement_any _ _ a y _ HA.out (ElemAt.mk y _ HY.out)).mono ?_
  rintro e w10 ⟨v, rfl, o10, k10⟩
  have Kw10 := Kw9.trans k10
  have szw10 := k10.size
  replace HC := Lib.hid (HC.out.kept k10)
  replace HA := Lib.hid (HA.out.kept k10)
  replace HXC := Lib.hid (HXC.out.kept k10)
  replace BC := Lib.hid (BC.out.kept k10)
  replace BA := Lib.hid (BA.out.kept k10)
  replace BE := Lib.hid (BE.out.kept k10)
  replace BX := Lib.hid (BX.out.kept k10)
  clear k10
  rw [HX.out] at o10
  rw [HON.out]
  obtain ⟨evu, lvu, rfl, pu, qu, ndu⟩ := o10
  obtain ⟨Au, cu, rfl, hnu, hmu, _⟩ := own_form pu.1
  obtain ⟨Du, du, rfl, _⟩ := own_form qu
  unfold maxLen at hmu
  have HUC : Hid (CodeAt w10 (.agg #[.slice Au x.elems.length cu, .slice Du x.limits.length du, .int .i64 x.repeats, .int .i64 x.bonus, .int .i64 x.keeps, .int .i64 x.fall]) x) := Lib.hid ⟨_, _, rfl, pu.elems, qu.ints⟩
  clear pu qu ndu
  obtain ⟨xBC, yBC⟩ := BC.out.six
  have lBC := BC.out.lt
  obtain ⟨xBA, yBA⟩ := BA.out.six
  have lBA := BA.out.lt
  obtain ⟨xBE, yBE⟩ := BE.out.four
  have lBE := BE.out.lt
  obtain ⟨xBX, yBX⟩ := BX.out.six
  have lBX := BX.out.lt
  go_wp2_with fail
  clear xBC yBC lBC xBA yBA lBA xBE yBE lBE xBX yBX lBX
  obtain ⟨w11, hw11⟩ : ∃ zz : World, zz = w10.alloc (.cells #[.slice Au x.elems.length cu, .slice Du x.limits.length du, .int .i64 x.repeats, .int .i64 x.bonus, .int .i64 x.keeps, .int .i64 x.fall] 26) := ⟨_, rfl⟩
  rw [← hw11]
  have kw11 : Kept w10 w11 := hw11 ▸ (Kept.refl w10).alloc _
  have BU : Hid (Box w11 (w10.heap.size) 26 #[.slice Au x.elems.length cu, .slice Du x.limits.length du, .int .i64 x.repeats, .int .i64 x.bonus, .int .i64 x.keeps, .int .i64 x.fall]) := Lib.hid (hw11 ▸ Box.new w10 _ _ _ rfl)
  clear hw11
  have Kw11 := Kw10.trans kw11
  have szw11 := kw11.size
  replace HC := Lib.hid (HC.out.kept kw11)
  replace HA := Lib.hid (HA.out.kept kw11)
  replace HXC := Lib.hid (HXC.out.kept kw11)
  replace HUC := Lib.hid (HUC.out.kept kw11)
  replace BC := Lib.hid (BC.out.kept kw11)
  replace BA := Lib.hid (BA.out.kept kw11)
  replace BE := Lib.hid (BE.out.kept kw11)
  replace BX := Lib.hid (BX.out.kept kw11)
  clear kw11
  with_reducible refine (drawDropElement_any _ _ (H1.out.kept Kw11)).mono ?_
  rintro e w12 ⟨⟨nm, hnm, v, d, rfl, oc, _, _⟩, k12⟩
  have Kw12 := Kw11.trans k12
  have szw12 := k12.size
  replace HC := Lib.hid (HC.out.kept k12)
  replace HA := Lib.hid (HA.out.kept k12)
  replace HXC := Lib.hid (HXC.out.kept k12)
  replace HUC := Lib.hid (HUC.out.kept k12)
  replace BC := Lib.hid (BC.out.kept k12)
  replace BA := Lib.hid (BA.out.kept k12)
  replace BE := Lib.hid (BE.out.kept k12)
  replace BX := Lib.hid (BX.out.kept k12)
  replace BU := Lib.hid (BU.out.kept k12)
  clear k12
  have HNM := Lib.hid hnm
  clear hnm
  obtain ⟨evd, lvd, rfl, pd, qd, ndd⟩ := oc
  obtain ⟨Ad, cd, rfl, hnd, hmd, _⟩ := own_form pd.1
  obtain ⟨Dd, dd, rfl, _⟩ := own_form qd
  unfold maxLen at hmd
  have HD : Hid (CodeAt w12 (.agg #[.slice Ad d.elems.length cd, .slice Dd d.limits.length dd, .int .i64 d.repeats, .int .i64 d.bonus, .int .i64 d.keeps, .int .i64 d.fall]) d) := Lib.hid ⟨_, _, rfl, pd.elems, qd.ints⟩
  clear pd qd ndd
  obtain ⟨xBC, yBC⟩ := BC.out.six
  have lBC := BC.out.lt
  obtain ⟨xBA, yBA⟩ := BA.out.six
  have lBA := BA.out.lt
  obtain ⟨xBE, yBE⟩ := BE.out.four
  have lBE := BE.out.lt
  obtain ⟨xBX, yBX⟩ := BX.out.six
  have lBX := BX.out.lt
  obtain ⟨xBU, yBU⟩ := BU.out.six
  have lBU := BU.out.lt
  go_wp2_with fail
  clear xBC yBC lBC xBA yBA lBA xBE yBE lBE xBX yBX lBX xBU yBU lBU
  obtain ⟨w13, hw13⟩ : ∃ zz : World, zz = w12.alloc (.cells #[.slice Ad d.elems.length cd, .slice Dd d.limits.length dd, .int .i64 d.repeats, .int .i64 d.bonus, .int .i64 d.keeps, .int .i64 d.fall] 26) := ⟨_, rfl⟩
  rw [← hw13]
  have kw13 : Kept w12 w13 := hw13 ▸ (Kept.refl w12).alloc _
  have BD : Hid (Box w13 (w12.heap.size) 26 #[.slice Ad d.elems.length cd, .slice Dd d.limits.length dd, .int .i64 d.repeats, .int .i64 d.bonus, .int .i64 d.keeps, .int .i64 d.fall]) := Lib.hid (hw13 ▸ Box.new w12 _ _ _ rfl)
  clear hw13
  have Kw13 := Kw12.trans kw13
  have szw13 := kw13.size
  replace HC := Lib.hid (HC.out.kept kw13)
  replace HA := Lib.hid (HA.out.kept kw13)
  replace HXC := Lib.hid (HXC.out.kept kw13)
  replace HUC := Lib.hid (HUC.out.kept kw13)
  replace HD := Lib.hid (HD.out.kept kw13)
  replace BC := Lib.hid (BC.out.kept kw13)
  replace BA := Lib.hid (BA.out.kept kw13)
  replace BE := Lib.hid (BE.out.kept kw13)
  replace BX := Lib.hid (BX.out.kept kw13)
  replace BU := Lib.hid (BU.out.kept kw13)
  clear kw13
  with_reducible refine (dropElement_any _ d nm _ HD.out HNM.out).mono ?_
  rintro e w14 ⟨v, rfl, o14, k14⟩
  have Kw14 := Kw13.trans k14
  have szw14 := k14.size
  replace HC := Lib.hid (HC.out.kept k14)
  replace HA := Lib.hid (HA.out.kept k14)
  replace HXC := Lib.hid (HXC.out.kept k14)
  replace HUC := Lib.hid (HUC.out.kept k14)
  replace HD := Lib.hid (HD.out.kept k14)
  replace BC := Lib.hid (BC.out.kept k14)
  replace BA := Lib.hid (BA.out.kept k14)
  replace BE := Lib.hid (BE.out.kept k14)
  replace BX := Lib.hid (BX.out.kept k14)
  replace BU := Lib.hid (BU.out.kept k14)
  replace BD := Lib.hid (BD.out.kept k14)
  clear k14
  obtain ⟨z, hz⟩ : ∃ z, drV d nm = z := ⟨_, rfl⟩
  obtain ⟨three, hthree⟩ : ∃ z, drB d nm = z := ⟨_, rfl⟩
  rw [hz] at o14
  rw [hthree]
  have HZ := Lib.hid hz
  have HTH := Lib.hid hthree
  clear hz hthree
  obtain ⟨evz, lvz, rfl, pz, qz, ndz⟩ := o14
  obtain ⟨Az, cz, rfl, hnz, hmz, _⟩ := own_form pz.1
  obtain ⟨Dz, dz, rfl, _⟩ := own_form qz
  unfold maxLen at hmz
  have HZC : Hid (CodeAt w14 (.agg #[.slice Az z.elems.length cz, .slice Dz z.limits.length dz, .int .i64 z.repeats, .int .i64 z.bonus, .int .i64 z.keeps, .int .i64 z.fall]) z) := Lib.hid ⟨_, _, rfl, pz.elems, qz.ints⟩
  clear pz qz ndz
  obtain ⟨xBC, yBC⟩ := BC.out.six
  have lBC := BC.out.lt
  obtain ⟨xBA, yBA⟩ := BA.out.six
  have lBA := BA.out.lt
  obtain ⟨xBE, yBE⟩ := BE.out.four
  have lBE := BE.out.lt
  obtain ⟨xBX, yBX⟩ := BX.out.six
  have lBX := BX.out.lt
  obtain ⟨xBU, yBU⟩ := BU.out.six
  have lBU := BU.out.lt
  obtain ⟨xBD, yBD⟩ := BD.out.six
  have lBD := BD.out.lt
  go_wp2_with fail
  clear xBC yBC lBC xBA yBA lBA xBE yBE lBE xBX yBX lBX xBU yBU lBU xBD yBD lBD
  obtain ⟨w15, hw15⟩ : ∃ zz : World, zz = w14.alloc (.cells #[.slice Az z.elems.length cz, .slice Dz z.limits.length dz, .int .i64 z.repeats, .int .i64 z.bonus, .int .i64 z.keeps, .int .i64 z.fall] 26) := ⟨_, rfl⟩
  rw [← hw15]
  have kw15 : Kept w14 w15 := hw15 ▸ (Kept.refl w14).alloc _
  have BZ : Hid (Box w15 (w14.heap.size) 26 #[.slice Az z.elems.length cz, .slice Dz z.limits.length dz, .int .i64 z.repeats, .int .i64 z.bonus, .int .i64 z.keeps, .int .i64 z.fall]) := Lib.hid (hw15 ▸ Box.new w14 _ _ _ rfl)
  clear hw15
  have Kw15 := Kw14.trans kw15
  have szw15 := kw15.size
  replace HC := Lib.hid (HC.out.kept kw15)
  replace HA := Lib.hid (HA.out.kept kw15)
  replace HXC := Lib.hid (HXC.out.kept kw15)
  replace HUC := Lib.hid (HUC.out.kept kw15)
  replace HD := Lib.hid (HD.out.kept kw15)
  replace HZC := Lib.hid (HZC.out.kept kw15)
  replace BC := Lib.hid (BC.out.kept kw15)
  replace BA := Lib.hid (BA.out.kept kw15)
  replace BE := Lib.hid (BE.out.kept kw15)
  replace BX := Lib.hid (BX.out.kept kw15)
  replace BU := Lib.hid (BU.out.kept kw15)
  replace BD := Lib.hid (BD.out.kept kw15)
  clear kw15
  with_reducible refine (specDropElement_any _ d nm _ HD.out HNM.out).mono ?_
  rintro e w16 ⟨v, rfl, o16, k16⟩
  have Kw16 := Kw15.trans k16
  have szw16 := k16.size
  replace HC := Lib.hid (HC.out.kept k16)
  replace HA := Lib.hid (HA.out.kept k16)
  replace HXC := Lib.hid (HXC.out.kept k16)
  replace HUC := Lib.hid (HUC.out.kept k16)
  replace HD := Lib.hid (HD.out.kept k16)
  replace HZC := Lib.hid (HZC.out.kept k16)
  replace BC := Lib.hid (BC.out.kept k16)
  replace BA := Lib.hid (BA.out.kept k16)
  replace BE := Lib.hid (BE.out.kept k16)
  replace BX := Lib.hid (BX.out.kept k16)
  replace BU := Lib.hid (BU.out.kept k16)
  replace BD := Lib.hid (BD.out.kept k16)
  replace BZ := Lib.hid (BZ.out.kept k16)
  clear k16
  rw [HZ.out] at o16
  rw [HTH.out]
  obtain ⟨evt, lvt, rfl, pt, qt, ndt⟩ := o16
  obtain ⟨At, ct, rfl, hnt, hmt, _⟩ := own_form pt.1
  obtain ⟨Dt, dt, rfl, _⟩ := own_form qt
  unfold maxLen at hmt
  have HTC : Hid (CodeAt w16 (.agg #[.slice At z.elems.length ct, .slice Dt z.limits.length dt, .int .i64 z.repeats, .int .i64 z.bonus, .int .i64 z.keeps, .int .i64 z.fall]) z) := Lib.hid ⟨_, _, rfl, pt.elems, qt.ints⟩
  clear pt qt ndt
  obtain ⟨xBC, yBC⟩ := BC.out.six
  have lBC := BC.out.lt
  obtain ⟨xBA, yBA⟩ := BA.out.six
  have lBA := BA.out.lt
  obtain ⟨xBE, yBE⟩ := BE.out.four
  have lBE := BE.out.lt
  obtain ⟨xBX, yBX⟩ := BX.out.six
  have lBX := BX.out.lt
  obtain ⟨xBU, yBU⟩ := BU.out.six
  have lBU := BU.out.lt
  obtain ⟨xBD, yBD⟩ := BD.out.six
  have lBD := BD.out.lt
  obtain ⟨xBZ, yBZ⟩ := BZ.out.six
  have lBZ := BZ.out.lt
  go_wp2_with fail
  clear xBC yBC lBC xBA yBA lBA xBE yBE lBE xBX yBX lBX xBU yBU lBU xBD yBD lBD xBZ yBZ lBZ
  obtain ⟨w17, hw17⟩ : ∃ zz : World, zz = w16.alloc (.cells #[.slice At z.elems.length ct, .slice Dt z.limits.length dt, .int .i64 z.repeats, .int .i64 z.bonus, .int .i64 z.keeps, .int .i64 z.fall] 26) := ⟨_, rfl⟩
  rw [← hw17]
  have kw17 : Kept w16 w17 := hw17 ▸ (Kept.refl w16).alloc _
  have BTt : Hid (Box w17 (w16.heap.size) 26 #[.slice At z.elems.length ct, .slice Dt z.limits.length dt, .int .i64 z.repeats, .int .i64 z.bonus, .int .i64 z.keeps, .int .i64 z.fall]) := Lib.hid (hw17 ▸ Box.new w16 _ _ _ rfl)
  clear hw17
  have Kw17 := Kw16.trans kw17
  have szw17 := kw17.size
  replace HC := Lib.hid (HC.out.kept kw17)
  replace HA := Lib.hid (HA.out.kept kw17)
  replace HXC := Lib.hid (HXC.out.kept kw17)
  replace HUC := Lib.hid (HUC.out.kept kw17)
  replace HD := Lib.hid (HD.out.kept kw17)
  replace HZC := Lib.hid (HZC.out.kept kw17)
  replace HTC := Lib.hid (HTC.out.kept kw17)
  replace BC := Lib.hid (BC.out.kept kw17)
  replace BA := Lib.hid (BA.out.kept kw17)
  replace BE := Lib.hid (BE.out.kept kw17)
  replace BX := Lib.hid (BX.out.kept kw17)
  replace BU := Lib.hid (BU.out.kept kw17)
  replace BD := Lib.hid (BD.out.kept kw17)
  replace BZ := Lib.hid (BZ.out.kept kw17)
  clear kw17
  with_reducible refine (drawParseCode_any _ _ (H1.out.kept Kw17)).mono ?_
  rintro e w18 ⟨⟨pt, hpt, rfl⟩, k18⟩
  have Kw18 := Kw17.trans k18
  have szw18 := k18.size
  replace HC := Lib.hid (HC.out.kept k18)
  replace HA := Lib.hid (HA.out.kept k18)
  replace HXC := Lib.hid (HXC.out.kept k18)
  replace HUC := Lib.hid (HUC.out.kept k18)
  replace HD := Lib.hid (HD.out.kept k18)
  replace HZC := Lib.hid (HZC.out.kept k18)
  replace HTC := Lib.hid (HTC.out.kept k18)
  replace BC := Lib.hid (BC.out.kept k18)
  replace BA := Lib.hid (BA.out.kept k18)
  replace BE := Lib.hid (BE.out.kept k18)
  replace BX := Lib.hid (BX.out.kept k18)
  replace BU := Lib.hid (BU.out.kept k18)
  replace BD := Lib.hid (BD.out.kept k18)
  replace BZ := Lib.hid (BZ.out.kept k18)
  replace BTt := Lib.hid (BTt.out.kept k18)
  clear k18
  have HPT := Lib.hid hpt
  clear hpt
  obtain ⟨xBC, yBC⟩ := BC.out.six
  have lBC := BC.out.lt
  obtain ⟨xBA, yBA⟩ := BA.out.six
  have lBA := BA.out.lt
  obtain ⟨xBE, yBE⟩ := BE.out.four
  have lBE := BE.out.lt
  obtain ⟨xBX, yBX⟩ := BX.out.six
  have lBX := BX.out.lt
  obtain ⟨xBU, yBU⟩ := BU.out.six
  have lBU := BU.out.lt
  obtain ⟨xBD, yBD⟩ := BD.out.six
  have lBD := BD.out.lt
  obtain ⟨xBZ, yBZ⟩ := BZ.out.six
  have lBZ := BZ.out.lt
  obtain ⟨xBTt, yBTt⟩ := BTt.out.six
  have lBTt := BTt.out.lt
  go_wp2_with fail
  clear xBC yBC lBC xBA yBA lBA xBE yBE lBE xBX yBX lBX xBU yBU lBU xBD yBD lBD xBZ yBZ lBZ xBTt yBTt lBTt
  with_reducible refine (implParseCode_any pt _ (by have := HPT.out; omega) (HMX.out.kept Kw18)).mono ?_
  rintro e w19 ⟨v, pc, five, rfl, hpc, o19, k19⟩
  have Kw19 := Kw18.trans k19
  have szw19 := k19.size
  replace HC := Lib.hid (HC.out.kept k19)
  replace HA := Lib.hid (HA.out.kept k19)
  replace HXC := Lib.hid (HXC.out.kept k19)
  replace HUC := Lib.hid (HUC.out.kept k19)
  replace HD := Lib.hid (HD.out.kept k19)
  replace HZC := Lib.hid (HZC.out.kept k19)
  replace HTC := Lib.hid (HTC.out.kept k19)
  replace BC := Lib.hid (BC.out.kept k19)
  replace BA := Lib.hid (BA.out.kept k19)
  replace BE := Lib.hid (BE.out.kept k19)
  replace BX := Lib.hid (BX.out.kept k19)
  replace BU := Lib.hid (BU.out.kept k19)
  replace BD := Lib.hid (BD.out.kept k19)
  replace BZ := Lib.hid (BZ.out.kept k19)
  replace BTt := Lib.hid (BTt.out.kept k19)
  clear k19
  have HPC := Lib.hid hpc
  clear hpc
  obtain ⟨evp, lvp, rfl, pp, qp, ndp⟩ := o19
  obtain ⟨Ap, cp, rfl, hnp, hmp, _⟩ := own_form pp.1
  obtain ⟨Dp, dp, rfl, _⟩ := own_form qp
  unfold maxLen at hmp
  have HPA : Hid (CodeAt w19 (.agg #[.slice Ap pc.elems.length cp, .slice Dp pc.limits.length dp, .int .i64 pc.repeats, .int .i64 pc.bonus, .int .i64 pc.keeps, .int .i64 pc.fall]) pc) := Lib.hid ⟨_, _, rfl, pp.elems, qp.ints⟩
  clear pp qp ndp
  obtain ⟨xBC, yBC⟩ := BC.out.six
  have lBC := BC.out.lt
  obtain ⟨xBA, yBA⟩ := BA.out.six
  have lBA := BA.out.lt
  obtain ⟨xBE, yBE⟩ := BE.out.four
  have lBE := BE.out.lt
  obtain ⟨xBX, yBX⟩ := BX.out.six
  have lBX := BX.out.lt
  obtain ⟨xBU, yBU⟩ := BU.out.six
  have lBU := BU.out.lt
  obtain ⟨xBD, yBD⟩ := BD.out.six
  have lBD := BD.out.lt
  obtain ⟨xBZ, yBZ⟩ := BZ.out.six
  have lBZ := BZ.out.lt
  obtain ⟨xBTt, yBTt⟩ := BTt.out.six
  have lBTt := BTt.out.lt
  go_wp2_with fail
  clear xBC yBC lBC xBA yBA lBA xBE yBE lBE xBX yBX lBX xBU yBU lBU xBD yBD lBD xBZ yBZ lBZ xBTt yBTt lBTt
  obtain ⟨w20, hw20⟩ : ∃ zz : World, zz = w19.alloc (.cells #[.slice Ap pc.elems.length cp, .slice Dp pc.limits.length dp, .int .i64 pc.repeats, .int .i64 pc.bonus, .int .i64 pc.keeps, .int .i64 pc.fall] 26) := ⟨_, rfl⟩
  rw [← hw20]
  have kw20 : Kept w19 w20 := hw20 ▸ (Kept.refl w19).alloc _
  have BP : Hid (Box w20 (w19.heap.size) 26 #[.slice Ap pc.elems.length cp, .slice Dp pc.limits.length dp, .int .i64 pc.repeats, .int .i64 pc.bonus, .int .i64 pc.keeps, .int .i64 pc.fall]) := Lib.hid (hw20 ▸ Box.new w19 _ _ _ rfl)
  clear hw20
  have Kw20 := Kw19.trans kw20
  have szw20 := kw20.size
  replace HC := Lib.hid (HC.out.kept kw20)
  replace HA := Lib.hid (HA.out.kept kw20)
  replace HXC := Lib.hid (HXC.out.kept kw20)
  replace HUC := Lib.hid (HUC.out.kept kw20)
  replace HD := Lib.hid (HD.out.kept kw20)
  replace HZC := Lib.hid (HZC.out.kept kw20)
  replace HTC := Lib.hid (HTC.out.kept kw20)
  replace HPA := Lib.hid (HPA.out.kept kw20)
  replace BC := Lib.hid (BC.out.kept kw20)
  replace BA := Lib.hid (BA.out.kept kw20)
  replace BE := Lib.hid (BE.out.kept kw20)
  replace BX := Lib.hid (BX.out.kept kw20)
  replace BU := Lib.hid (BU.out.kept kw20)
  replace BD := Lib.hid (BD.out.kept kw20)
  replace BZ := Lib.hid (BZ.out.kept kw20)
  replace BTt := Lib.hid (BTt.out.kept kw20)
  clear kw20
  with_reducible refine (specParseCode_any pt _ (by have := HPT.out; omega)).mono ?_
  rintro e w21 ⟨v, pc', six, rfl, hpc', o21, k21⟩
  have Kw21 := Kw20.trans k21
  have szw21 := k21.size
  replace HC := Lib.hid (HC.out.kept k21)
  replace HA := Lib.hid (HA.out.kept k21)
  replace HXC := Lib.hid (HXC.out.kept k21)
  replace HUC := Lib.hid (HUC.out.kept k21)
  replace HD := Lib.hid (HD.out.kept k21)
  replace HZC := Lib.hid (HZC.out.kept k21)
  replace HTC := Lib.hid (HTC.out.kept k21)
  replace HPA := Lib.hid (HPA.out.kept k21)
  replace BC := Lib.hid (BC.out.kept k21)
  replace BA := Lib.hid (BA.out.kept k21)
  replace BE := Lib.hid (BE.out.kept k21)
  replace BX := Lib.hid (BX.out.kept k21)
  replace BU := Lib.hid (BU.out.kept k21)
  replace BD := Lib.hid (BD.out.kept k21)
  replace BZ := Lib.hid (BZ.out.kept k21)
  replace BTt := Lib.hid (BTt.out.kept k21)
  replace BP := Lib.hid (BP.out.kept k21)
  clear k21
  obtain ⟨eq1, eq2⟩ := IsPC.same HPC.out hpc' (fun c c' g g' e e' => code_inj g g' e e')
  subst eq1 eq2
  clear hpc'
  obtain ⟨evq, lvq, rfl, pq, qq, ndq⟩ := o21
  obtain ⟨Aq, cq, rfl, hnq, hmq, _⟩ := own_form pq.1
  obtain ⟨Dq, dq, rfl, _⟩ := own_form qq
  unfold maxLen at hmq
  have HQA : Hid (CodeAt w21 (.agg #[.slice Aq pc.elems.length cq, .slice Dq pc.limits.length dq, .int .i64 pc.repeats, .int .i64 pc.bonus, .int .i64 pc.keeps, .int .i64 pc.fall]) pc) := Lib.hid ⟨_, _, rfl, pq.elems, qq.ints⟩
  clear pq qq ndq
  obtain ⟨xBC, yBC⟩ := BC.out.six
  have lBC := BC.out.lt
  obtain ⟨xBA, yBA⟩ := BA.out.six
  have lBA := BA.out.lt
  obtain ⟨xBE, yBE⟩ := BE.out.four
  have lBE := BE.out.lt
  obtain ⟨xBX, yBX⟩ := BX.out.six
  have lBX := BX.out.lt
  obtain ⟨xBU, yBU⟩ := BU.out.six
  have lBU := BU.out.lt
  obtain ⟨xBD, yBD⟩ := BD.out.six
  have lBD := BD.out.lt
  obtain ⟨xBZ, yBZ⟩ := BZ.out.six
  have lBZ := BZ.out.lt
  obtain ⟨xBTt, yBTt⟩ := BTt.out.six
  have lBTt := BTt.out.lt
  obtain ⟨xBP, yBP⟩ := BP.out.six
  have lBP := BP.out.lt
  go_wp2_with fail
  clear xBC yBC lBC xBA yBA lBA xBE yBE lBE xBX yBX lBX xBU yBU lBU xBD yBD lBD xBZ yBZ lBZ xBTt yBTt lBTt xBP yBP lBP
  obtain ⟨w22, hw22⟩ : ∃ zz : World, zz = w21.alloc (.cells #[.slice Aq pc.elems.length cq, .slice Dq pc.limits.length dq, .int .i64 pc.repeats, .int .i64 pc.bonus, .int .i64 pc.keeps, .int .i64 pc.fall] 26) := ⟨_, rfl⟩
  rw [← hw22]
  have kw22 : Kept w21 w22 := hw22 ▸ (Kept.refl w21).alloc _
  have BQ : Hid (Box w22 (w21.heap.size) 26 #[.slice Aq pc.elems.length cq, .slice Dq pc.limits.length dq, .int .i64 pc.repeats, .int .i64 pc.bonus, .int .i64 pc.keeps, .int .i64 pc.fall]) := Lib.hid (hw22 ▸ Box.new w21 _ _ _ rfl)
  clear hw22
  have Kw22 := Kw21.trans kw22
  have szw22 := kw22.size
  replace HC := Lib.hid (HC.out.kept kw22)
  replace HA := Lib.hid (HA.out.kept kw22)
  replace HXC := Lib.hid (HXC.out.kept kw22)
  replace HUC := Lib.hid (HUC.out.kept kw22)
  replace HD := Lib.hid (HD.out.kept kw22)
  replace HZC := Lib.hid (HZC.out.kept kw22)
  replace HTC := Lib.hid (HTC.out.kept kw22)
  replace HPA := Lib.hid (HPA.out.kept kw22)
  replace HQA := Lib.hid (HQA.out.kept kw22)
  replace BC := Lib.hid (BC.out.kept kw22)
  replace BA := Lib.hid (BA.out.kept kw22)
  replace BE := Lib.hid (BE.out.kept kw22)
  replace BX := Lib.hid (BX.out.kept kw22)
  replace BU := Lib.hid (BU.out.kept kw22)
  replace BD := Lib.hid (BD.out.kept kw22)
  replace BZ := Lib.hid (BZ.out.kept kw22)
  replace BTt := Lib.hid (BTt.out.kept kw22)
  replace BP := Lib.hid (BP.out.kept kw22)
  clear kw22
  have e1 : (ok != ok) = false := by simp
  have e3 : (one != one) = false := by simp
  have e4 : (three != three) = false := by simp
  have e5 : (five != five) = false := by simp
  obtain ⟨xBC, yBC⟩ := BC.out.six
  have lBC := BC.out.lt
  obtain ⟨xBA, yBA⟩ := BA.out.six
  have lBA := BA.out.lt
  obtain ⟨xBE, yBE⟩ := BE.out.four
  have lBE := BE.out.lt
  obtain ⟨xBX, yBX⟩ := BX.out.six
  have lBX := BX.out.lt
  obtain ⟨xBU, yBU⟩ := BU.out.six
  have lBU := BU.out.lt
  obtain ⟨xBD, yBD⟩ := BD.out.six
  have lBD := BD.out.lt
  obtain ⟨xBZ, yBZ⟩ := BZ.out.six
  have lBZ := BZ.out.lt
  obtain ⟨xBTt, yBTt⟩ := BTt.out.six
  have lBTt := BTt.out.lt
  obtain ⟨xBP, yBP⟩ := BP.out.six
  have lBP := BP.out.lt
  obtain ⟨xBQ, yBQ⟩ := BQ.out.six
  have lBQ := BQ.out.lt
  go_wp2_with fail
  clear xBC yBC lBC xBA yBA lBA xBE yBE lBE xBX yBX lBX xBU yBU lBU xBD yBD lBD xBZ yBZ lBZ xBTt yBTt lBTt xBP yBP lBP xBQ yBQ lBQ
  with_reducible refine (qCode_any _ _ x _ HXC.out HUC.out).mono ?_
  rintro e w23 ⟨rfl, k23⟩
  have Kw23 := Kw22.trans k23
  have szw23 := k23.size
  replace HC := Lib.hid (HC.out.kept k23)
  replace HA := Lib.hid (HA.out.kept k23)
  replace HXC := Lib.hid (HXC.out.kept k23)
  replace HUC := Lib.hid (HUC.out.kept k23)
  replace HD := Lib.hid (HD.out.kept k23)
  replace HZC := Lib.hid (HZC.out.kept k23)
  replace HTC := Lib.hid (HTC.out.kept k23)
  replace HPA := Lib.hid (HPA.out.kept k23)
  replace HQA := Lib.hid (HQA.out.kept k23)
  replace BC := Lib.hid (BC.out.kept k23)
  replace BA := Lib.hid (BA.out.kept k23)
  replace BE := Lib.hid (BE.out.kept k23)
  replace BX := Lib.hid (BX.out.kept k23)
  replace BU := Lib.hid (BU.out.kept k23)
  replace BD := Lib.hid (BD.out.kept k23)
  replace BZ := Lib.hid (BZ.out.kept k23)
  replace BTt := Lib.hid (BTt.out.kept k23)
  replace BP := Lib.hid (BP.out.kept k23)
  replace BQ := Lib.hid (BQ.out.kept k23)
  clear k23
  obtain ⟨xBC, yBC⟩ := BC.out.six
  have lBC := BC.out.lt
  obtain ⟨xBA, yBA⟩ := BA.out.six
  have lBA := BA.out.lt
  obtain ⟨xBE, yBE⟩ := BE.out.four
  have lBE := BE.out.lt
  obtain ⟨xBX, yBX⟩ := BX.out.six
  have lBX := BX.out.lt
  obtain ⟨xBU, yBU⟩ := BU.out.six
  have lBU := BU.out.lt
  obtain ⟨xBD, yBD⟩ := BD.out.six
  have lBD := BD.out.lt
  obtain ⟨xBZ, yBZ⟩ := BZ.out.six
  have lBZ := BZ.out.lt
  obtain ⟨xBTt, yBTt⟩ := BTt.out.six
  have lBTt := BTt.out.lt
  obtain ⟨xBP, yBP⟩ := BP.out.six
  have lBP := BP.out.lt
  obtain ⟨xBQ, yBQ⟩ := BQ.out.six
  have lBQ := BQ.out.lt
  go_wp2_with fail
  clear xBC yBC lBC xBA yBA lBA xBE yBE lBE xBX yBX lBX xBU yBU lBU xBD yBD lBD xBZ yBZ lBZ xBTt yBTt lBTt xBP yBP lBP xBQ yBQ lBQ
  with_reducible refine (qCode_any _ _ z _ HZC.out HTC.out).mono ?_
  rintro e w24 ⟨rfl, k24⟩
  have Kw24 := Kw23.trans k24
  have szw24 := k24.size
  replace HC := Lib.hid (HC.out.kept k24)
  replace HA := Lib.hid (HA.out.kept k24)
  replace HXC := Lib.hid (HXC.out.kept k24)
  replace HUC := Lib.hid (HUC.out.kept k24)
  replace HD := Lib.hid (HD.out.kept k24)
  replace HZC := Lib.hid (HZC.out.kept k24)
  replace HTC := Lib.hid (HTC.out.kept k24)
  replace HPA := Lib.hid (HPA.out.kept k24)
  replace HQA := Lib.hid (HQA.out.kept k24)
  replace BC := Lib.hid (BC.out.kept k24)
  replace BA := Lib.hid (BA.out.kept k24)
  replace BE := Lib.hid (BE.out.kept k24)
  replace BX := Lib.hid (BX.out.kept k24)
  replace BU := Lib.hid (BU.out.kept k24)
  replace BD := Lib.hid (BD.out.kept k24)
  replace BZ := Lib.hid (BZ.out.kept k24)
  replace BTt := Lib.hid (BTt.out.kept k24)
  replace BP := Lib.hid (BP.out.kept k24)
  replace BQ := Lib.hid (BQ.out.kept k24)
  clear k24
  obtain ⟨xBC, yBC⟩ := BC.out.six
  have lBC := BC.out.lt
  obtain ⟨xBA, yBA⟩ := BA.out.six
  have lBA := BA.out.lt
  obtain ⟨xBE, yBE⟩ := BE.out.four
  have lBE := BE.out.lt
  obtain ⟨xBX, yBX⟩ := BX.out.six
  have lBX := BX.out.lt
  obtain ⟨xBU, yBU⟩ := BU.out.six
  have lBU := BU.out.lt
  obtain ⟨xBD, yBD⟩ := BD.out.six
  have lBD := BD.out.lt
  obtain ⟨xBZ, yBZ⟩ := BZ.out.six
  have lBZ := BZ.out.lt
  obtain ⟨xBTt, yBTt⟩ := BTt.out.six
  have lBTt := BTt.out.lt
  obtain ⟨xBP, yBP⟩ := BP.out.six
  have lBP := BP.out.lt
  obtain ⟨xBQ, yBQ⟩ := BQ.out.six
  have lBQ := BQ.out.lt
  go_wp2_with fail
  clear xBC yBC lBC xBA yBA lBA xBE yBE lBE xBX yBX lBX xBU yBU lBU xBD yBD lBD xBZ yBZ lBZ xBTt yBTt lBTt xBP yBP lBP xBQ yBQ lBQ
  with_reducible refine (qCode_any _ _ pc _ HPA.out HQA.out).mono ?_
  rintro e w25 ⟨rfl, k25⟩
  have Kw25 := Kw24.trans k25
  have szw25 := k25.size
  replace HC := Lib.hid (HC.out.kept k25)
  replace HA := Lib.hid (HA.out.kept k25)
  replace HXC := Lib.hid (HXC.out.kept k25)
  replace HUC := Lib.hid (HUC.out.kept k25)
  replace HD := Lib.hid (HD.out.kept k25)
  replace HZC := Lib.hid (HZC.out.kept k25)
  replace HTC := Lib.hid (HTC.out.kept k25)
  replace HPA := Lib.hid (HPA.out.kept k25)
  replace HQA := Lib.hid (HQA.out.kept k25)
  replace BC := Lib.hid (BC.out.kept k25)
  replace BA := Lib.hid (BA.out.kept k25)
  replace BE := Lib.hid (BE.out.kept k25)
  replace BX := Lib.hid (BX.out.kept k25)
  replace BU := Lib.hid (BU.out.kept k25)
  replace BD := Lib.hid (BD.out.kept k25)
  replace BZ := Lib.hid (BZ.out.kept k25)
  replace BTt := Lib.hid (BTt.out.kept k25)
  replace BP := Lib.hid (BP.out.kept k25)
  replace BQ := Lib.hid (BQ.out.kept k25)
  clear k25
  obtain ⟨xBC, yBC⟩ := BC.out.six
  have lBC := BC.out.lt
  obtain ⟨xBA, yBA⟩ := BA.out.six
  have lBA := BA.out.lt
  obtain ⟨xBE, yBE⟩ := BE.out.four
  have lBE := BE.out.lt
  obtain ⟨xBX, yBX⟩ := BX.out.six
  have lBX := BX.out.lt
  obtain ⟨xBU, yBU⟩ := BU.out.six
  have lBU := BU.out.lt
  obtain ⟨xBD, yBD⟩ := BD.out.six
  have lBD := BD.out.lt
  obtain ⟨xBZ, yBZ⟩ := BZ.out.six
  have lBZ := BZ.out.lt
  obtain ⟨xBTt, yBTt⟩ := BTt.out.six
  have lBTt := BTt.out.lt
  obtain ⟨xBP, yBP⟩ := BP.out.six
  have lBP := BP.out.lt
  obtain ⟨xBQ, yBQ⟩ := BQ.out.six
  have lBQ := BQ.out.lt
  go_wp2_with fail
  clear xBC yBC lBC xBA yBA lBA xBE yBE lBE xBX yBX lBX xBU yBU lBU xBD yBD lBD xBZ yBZ lBZ xBTt yBTt lBTt xBP yBP lBP xBQ yBQ lBQ
  with_reducible refine (isCode_any _ c _ HC.out).mono ?_
  rintro e w26 ⟨rfl, k26⟩
  have Kw26 := Kw25.trans k26
  have szw26 := k26.size
  replace HC := Lib.hid (HC.out.kept k26)
  replace HA := Lib.hid (HA.out.kept k26)
  replace HXC := Lib.hid (HXC.out.kept k26)
  replace HUC := Lib.hid (HUC.out.kept k26)
  replace HD := Lib.hid (HD.out.kept k26)
  replace HZC := Lib.hid (HZC.out.kept k26)
  replace HTC := Lib.hid (HTC.out.kept k26)
  replace HPA := Lib.hid (HPA.out.kept k26)
  replace HQA := Lib.hid (HQA.out.kept k26)
  replace BC := Lib.hid (BC.out.kept k26)
  replace BA := Lib.hid (BA.out.kept k26)
  replace BE := Lib.hid (BE.out.kept k26)
  replace BX := Lib.hid (BX.out.kept k26)
  replace BU := Lib.hid (BU.out.kept k26)
  replace BD := Lib.hid (BD.out.kept k26)
  replace BZ := Lib.hid (BZ.out.kept k26)
  replace BTt := Lib.hid (BTt.out.kept k26)
  replace BP := Lib.hid (BP.out.kept k26)
  replace BQ := Lib.hid (BQ.out.kept k26)
  clear k26
  rw [HOK.out]
  obtain ⟨xBC, yBC⟩ := BC.out.six
  have lBC := BC.out.lt
  obtain ⟨xBA, yBA⟩ := BA.out.six
  have lBA := BA.out.lt
  obtain ⟨xBE, yBE⟩ := BE.out.four
  have lBE := BE.out.lt
  obtain ⟨xBX, yBX⟩ := BX.out.six
  have lBX := BX.out.lt
  obtain ⟨xBU, yBU⟩ := BU.out.six
  have lBU := BU.out.lt
  obtain ⟨xBD, yBD⟩ := BD.out.six
  have lBD := BD.out.lt
  obtain ⟨xBZ, yBZ⟩ := BZ.out.six
  have lBZ := BZ.out.lt
  obtain ⟨xBTt, yBTt⟩ := BTt.out.six
  have lBTt := BTt.out.lt
  obtain ⟨xBP, yBP⟩ := BP.out.six
  have lBP := BP.out.lt
  obtain ⟨xBQ, yBQ⟩ := BQ.out.six
  have lBQ := BQ.out.lt
  go_upto_if 148 with (fail)
  clear xBC yBC lBC xBA yBA lBA xBE yBE lBE xBX yBX lBX xBU yBU lBU xBD yBD lBD xBZ yBZ lBZ xBTt yBTt lBTt xBP yBP lBP xBQ yBQ lBQ
  clear e1 e3 e4 e5
  go_cut [148] (fun _ wx => Kept w26 wx)
  case first =>
    as_aux_lemma =>
    clear HC BC HD HZC HTC HPA HQA BD BZ BTt BP BQ HZ HTH HPC HOK HS HPT HNM H0 H1 HTB HMX
    clear Kw25 Kw24 Kw23 Kw22 Kw21 Kw20 Kw19 Kw18 Kw17 Kw16 Kw15 Kw14 Kw13 Kw12 Kw11 Kw10 Kw9 Kw8 Kw7 Kw6 Kw5 Kw4 Kw3 Kw2 Kw1 K0
    cases one with
    | false =>
      go_wp2_with fail
      go_meet
      exact Kept.refl _
    | true =>
      obtain ⟨k, f1, f2, f3, f4, f5⟩ := added_back HON.out
      rw [HX.out] at f1 f2 f3 f4 f5
      have F1 := Lib.hid f1
      have F2 := Lib.hid f2
      have F3 := Lib.hid f3
      have F4 := Lib.hid f4
      have F5 := Lib.hid f5
      have hkx : (k : Int) < (x.elems.length : Int) := by have := (List.getElem?_eq_some_iff.1 f3).1; omega
      have KW := Kept.refl w26
      clear f1 f2 f3 f4 f5 HON HX
      obtain ⟨xBA, yBA⟩ := BA.out.six
      have lBA := BA.out.lt
      obtain ⟨xBE, yBE⟩ := BE.out.four
      have lBE := BE.out.lt
      obtain ⟨xBX, yBX⟩ := BX.out.six
      have lBX := BX.out.lt
      obtain ⟨xBU, yBU⟩ := BU.out.six
      have lBU := BU.out.lt
      go_wp2_with fail
      clear xBA yBA lBA xBE yBE lBE xBX yBX lBX xBU yBU lBU
      with_reducible refine (implFindElement_any _ x y.name _ HXC.out HY.out).mono ?_
      rintro e w27 ⟨rfl, k27⟩
      have Kw27 := KW.trans k27
      have szw27 := k27.size
      replace HA := Lib.hid (HA.out.kept k27)
      replace HXC := Lib.hid (HXC.out.kept k27)
      replace HUC := Lib.hid (HUC.out.kept k27)
      replace BA := Lib.hid (BA.out.kept k27)
      replace BE := Lib.hid (BE.out.kept k27)
      replace BX := Lib.hid (BX.out.kept k27)
      replace BU := Lib.hid (BU.out.kept k27)
      clear k27
      rw [F1.out, F2.out]
      obtain ⟨xBA, yBA⟩ := BA.out.six
      have lBA := BA.out.lt
      obtain ⟨xBE, yBE⟩ := BE.out.four
      have lBE := BE.out.lt
      obtain ⟨xBX, yBX⟩ := BX.out.six
      have lBX := BX.out.lt
      obtain ⟨xBU, yBU⟩ := BU.out.six
      have lBU := BU.out.lt
      go_wp2_with fail
      clear xBA yBA lBA xBE yBE lBE xBX yBX lBX xBU yBU lBU
      with_reducible refine (specFindElement_any _ x y.name _ HUC.out HY.out).mono ?_
      rintro e w28 ⟨rfl, k28⟩
      have Kw28 := Kw27.trans k28
      have szw28 := k28.size
      replace HA := Lib.hid (HA.out.kept k28)
      replace HXC := Lib.hid (HXC.out.kept k28)
      replace HUC := Lib.hid (HUC.out.kept k28)
      replace BA := Lib.hid (BA.out.kept k28)
      replace BE := Lib.hid (BE.out.kept k28)
      replace BX := Lib.hid (BX.out.kept k28)
      replace BU := Lib.hid (BU.out.kept k28)
      clear k28
      rw [F1.out, F2.out]
      obtain ⟨xBA, yBA⟩ := BA.out.six
      have lBA := BA.out.lt
      obtain ⟨xBE, yBE⟩ := BE.out.four
      have lBE := BE.out.lt
      obtain ⟨xBX, yBX⟩ := BX.out.six
      have lBX := BX.out.lt
      obtain ⟨xBU, yBU⟩ := BU.out.six
      have lBU := BU.out.lt
      go_wp2_with fail
      clear xBA yBA lBA xBE yBE lBE xBX yBX lBX xBU yBU lBU
      with_reducible refine (dropElement_any _ x y.name _ HXC.out HY.out).mono ?_
      rintro e w29 ⟨v, rfl, o29, k29⟩
      have Kw29 := Kw28.trans k29
      have szw29 := k29.size
      replace HA := Lib.hid (HA.out.kept k29)
      replace HXC := Lib.hid (HXC.out.kept k29)
      replace HUC := Lib.hid (HUC.out.kept k29)
      replace BA := Lib.hid (BA.out.kept k29)
      replace BE := Lib.hid (BE.out.kept k29)
      replace BX := Lib.hid (BX.out.kept k29)
      replace BU := Lib.hid (BU.out.kept k29)
      clear k29
      rw [F5.out] at o29
      rw [F4.out]
      obtain ⟨evb, lvb, rfl, pb, qb, ndb⟩ := o29
      obtain ⟨Ab, cb, rfl, hnb, hmb, _⟩ := own_form pb.1
      obtain ⟨Db, db, rfl, _⟩ := own_form qb
      unfold maxLen at hmb
      have HB : Hid (CodeAt w29 (.agg #[.slice Ab a.elems.length cb, .slice Db a.limits.length db, .int .i64 a.repeats, .int .i64 a.bonus, .int .i64 a.keeps, .int .i64 a.fall]) a) := Lib.hid ⟨_, _, rfl, pb.elems, qb.ints⟩
      clear pb qb ndb
      obtain ⟨xBA, yBA⟩ := BA.out.six
      have lBA := BA.out.lt
      obtain ⟨xBE, yBE⟩ := BE.out.four
      have lBE := BE.out.lt
      obtain ⟨xBX, yBX⟩ := BX.out.six
      have lBX := BX.out.lt
      obtain ⟨xBU, yBU⟩ := BU.out.six
      have lBU := BU.out.lt
      go_upto_region 21 with (fail)
      clear xBA yBA lBA xBE yBE lBE xBX yBX lBX xBU yBU lBU
      obtain ⟨w30, hw30⟩ : ∃ zz : World, zz = w29.alloc (.cells #[.slice Ab a.elems.length cb, .slice Db a.limits.length db, .int .i64 a.repeats, .int .i64 a.bonus, .int .i64 a.keeps, .int .i64 a.fall] 26) := ⟨_, rfl⟩
      rw [← hw30]
      have kw30 : Kept w29 w30 := hw30 ▸ (Kept.refl w29).alloc _
      have BB : Hid (Box w30 (w29.heap.size) 26 #[.slice Ab a.elems.length cb, .slice Db a.limits.length db, .int .i64 a.repeats, .int .i64 a.bonus, .int .i64 a.keeps, .int .i64 a.fall]) := Lib.hid (hw30 ▸ Box.new w29 _ _ _ rfl)
      clear hw30
      have Kw30 := Kw29.trans kw30
      have szw30 := kw30.size
      replace HA := Lib.hid (HA.out.kept kw30)
      replace HXC := Lib.hid (HXC.out.kept kw30)
      replace HUC := Lib.hid (HUC.out.kept kw30)
      replace HB := Lib.hid (HB.out.kept kw30)
      replace BA := Lib.hid (BA.out.kept kw30)
      replace BE := Lib.hid (BE.out.kept kw30)
      replace BX := Lib.hid (BX.out.kept kw30)
      replace BU := Lib.hid (BU.out.kept kw30)
      clear kw30
      obtain ⟨nv', mv', e', q1, q2⟩ := HUC.out
      injection e' with e'
      have e1 := congrArg Array.toList e'
      simp only [List.cons.injEq] at e1
      obtain ⟨rfl, rfl, _⟩ := e1
      obtain ⟨gb, go, yy, rfl, hgl, hyy, r0, r1, r2, r3⟩ := elems_at q1.1.addr (k := k) (by omega)
      rw [F3.out] at hyy
      injection hyy with hyy
      subst hyy
      have e2 : ((k : Int) != (k : Int)) = false := by simp
      clear e' q1 q2
      have Kd1 : Kept w30 w30.drew := (Kept.refl _).drew
      have y0 := After.cell (W := w30.drew) ((Kd1.cell (p := ⟨gb, go + k * 4, none⟩) hgl).trans r0) hgl
      have y1 := After.cell (W := w30.drew) ((Kd1.cell (p := ⟨gb, go + k * 4 + 1, none⟩) hgl).trans r1) hgl
      have y2 := After.cell (W := w30.drew) ((Kd1.cell (p := ⟨gb, go + k * 4 + 2, none⟩) hgl).trans r2) hgl
      have y3 := After.cell (W := w30.drew) ((Kd1.cell (p := ⟨gb, go + k * 4 + 3, none⟩) hgl).trans r3) hgl
      have BUd := Lib.hid (BU.out.kept Kd1)
      have BEd := Lib.hid (BE.out.kept Kd1)
      have BAd := Lib.hid (BA.out.kept Kd1)
      have BBd := Lib.hid (BB.out.kept Kd1)
      have HBd := Lib.hid (HB.out.kept Kd1)
      have HAd := Lib.hid (HA.out.kept Kd1)
      have x0 := fun t : After (w30.drew) => (BUd.out.kept t.kept).six.1
      have x1 := fun t : After (w30.drew) => (BEd.out.kept t.kept).four.1
      have x2 := fun t : After (w30.drew) => (BAd.out.kept t.kept).six.1
      have x3 := fun t : After (w30.drew) => (BBd.out.kept t.kept).six.1
      clear r0 r1 r2 r3
      refine region_after (by kernel_rfl) (by kernel_rfl) ?_
      repeat (go_big_quiet_step ((go_at_call 17; exact after_of (qCode_any _ _ a _ (HBd.out.kept (After.kept _)) (HAd.out.kept (After.kept _))))))
      refine wpQuiet_nil ?_
      intro wq hw'
      obtain ⟨⟨_, kq⟩, hw''⟩ := hw'
      subst hw''
      try dsimp only
      clear x0 x1 x2 x3 y0 y1 y2 y3
      go_wp2_with fail
      go_meet
      exact (Kw30.trans Kd1).trans kq
  case rest =>
    as_aux_lemma =>
    have kx : Kept w26 wc := hcut
    clear hcut
    have Kwc := Kw26.trans kx
    have szwc := kx.size
    replace HC := Lib.hid (HC.out.kept kx)
    replace HA := Lib.hid (HA.out.kept kx)
    replace HXC := Lib.hid (HXC.out.kept kx)
    replace HUC := Lib.hid (HUC.out.kept kx)
    replace HD := Lib.hid (HD.out.kept kx)
    replace HZC := Lib.hid (HZC.out.kept kx)
    replace HTC := Lib.hid (HTC.out.kept kx)
    replace HPA := Lib.hid (HPA.out.kept kx)
    replace HQA := Lib.hid (HQA.out.kept kx)
    replace BC := Lib.hid (BC.out.kept kx)
    replace BA := Lib.hid (BA.out.kept kx)
    replace BE := Lib.hid (BE.out.kept kx)
    replace BX := Lib.hid (BX.out.kept kx)
    replace BU := Lib.hid (BU.out.kept kx)
    replace BD := Lib.hid (BD.out.kept kx)
    replace BZ := Lib.hid (BZ.out.kept kx)
    replace BTt := Lib.hid (BTt.out.kept kx)
    replace BP := Lib.hid (BP.out.kept kx)
    replace BQ := Lib.hid (BQ.out.kept kx)
    clear kx
    obtain ⟨wB, rfl⟩ : ∃ zz : World, zz = wc := ⟨_, rfl⟩
    clear HA HXC HUC BA BE BX BU HX HON HPA HQA BP BQ HPC HPT HY
    obtain ⟨xBC, yBC⟩ := BC.out.six
    have lBC := BC.out.lt
    obtain ⟨xBD, yBD⟩ := BD.out.six
    have lBD := BD.out.lt
    obtain ⟨xBZ, yBZ⟩ := BZ.out.six
    have lBZ := BZ.out.lt
    obtain ⟨xBTt, yBTt⟩ := BTt.out.six
    have lBTt := BTt.out.lt
    go_upto_if 200 with (fail)
    clear xBC yBC lBC xBD yBD lBD xBZ yBZ lBZ xBTt yBTt lBTt
    go_cut [200] (fun _ wx => Kept wB wx)
    case first =>
      as_aux_lemma =>
      cases three with
      | false =>
        go_wp2_with fail
        go_meet
        exact Kept.refl _
      | true =>
        obtain ⟨f1, f2⟩ := dropped_gone HTH.out
        rw [HZ.out] at f1 f2
        have F1 := Lib.hid f1
        have hlw : IntKind.i64.wrap ((z.elems.length : Int) + 1) = (d.elems.length : Int) := by rw [IntWalk.i64_in _ (by omega)]; omega
        have hne : ((d.elems.length : Int) != (d.elems.length : Int)) = false := by simp
        clear f1 f2
        have KW := Kept.refl wB
        obtain ⟨xBC, yBC⟩ := BC.out.six
        have lBC := BC.out.lt
        obtain ⟨xBD, yBD⟩ := BD.out.six
        have lBD := BD.out.lt
        obtain ⟨xBZ, yBZ⟩ := BZ.out.six
        have lBZ := BZ.out.lt
        obtain ⟨xBTt, yBTt⟩ := BTt.out.six
        have lBTt := BTt.out.lt
        go_wp2_with fail
        clear xBC yBC lBC xBD yBD lBD xBZ yBZ lBZ xBTt yBTt lBTt
        with_reducible refine (implFindElement_any _ z nm _ HZC.out HNM.out).mono ?_
        rintro e w27 ⟨rfl, k27⟩
        have Kw27 := KW.trans k27
        have szw27 := k27.size
        replace HC := Lib.hid (HC.out.kept k27)
        replace HD := Lib.hid (HD.out.kept k27)
        replace HZC := Lib.hid (HZC.out.kept k27)
        replace HTC := Lib.hid (HTC.out.kept k27)
        replace BC := Lib.hid (BC.out.kept k27)
        replace BD := Lib.hid (BD.out.kept k27)
        replace BZ := Lib.hid (BZ.out.kept k27)
        replace BTt := Lib.hid (BTt.out.kept k27)
        clear k27
        rw [F1.out]
        obtain ⟨xBC, yBC⟩ := BC.out.six
        have lBC := BC.out.lt
        obtain ⟨xBD, yBD⟩ := BD.out.six
        have lBD := BD.out.lt
        obtain ⟨xBZ, yBZ⟩ := BZ.out.six
        have lBZ := BZ.out.lt
        obtain ⟨xBTt, yBTt⟩ := BTt.out.six
        have lBTt := BTt.out.lt
        go_wp2_with fail
        clear xBC yBC lBC xBD yBD lBD xBZ yBZ lBZ xBTt yBTt lBTt
        go_meet
        exact Kw27
    case rest =>
      as_aux_lemma =>
      have kx : Kept wB wc := hcut
      clear hcut
      have Kwc := Kwc.trans kx
      have szwc := kx.size
      replace HC := Lib.hid (HC.out.kept kx)
      replace HD := Lib.hid (HD.out.kept kx)
      replace HZC := Lib.hid (HZC.out.kept kx)
      replace HTC := Lib.hid (HTC.out.kept kx)
      replace BC := Lib.hid (BC.out.kept kx)
      replace BD := Lib.hid (BD.out.kept kx)
      replace BZ := Lib.hid (BZ.out.kept kx)
      replace BTt := Lib.hid (BTt.out.kept kx)
      clear kx
      obtain ⟨wD, rfl⟩ : ∃ zz : World, zz = wc := ⟨_, rfl⟩
      clear HD HZC HTC BD BZ BTt HZ HTH HNM
      cases ok with
      | false =>
        go_wp2_with fail
        go_ret
        exact ⟨rfl, Kwc⟩
      | true =>
        have hsv : s = cdT c := by rw [← HS.out]; exact ctV_yes HOK.out
        have HSS : Hid (s.size ≤ 1048576) := Lib.hid (by rw [hsv]; have := cdT_size HOK.out; omega)
        have HIS : Hid (IsPC s.data.toList c true) := Lib.hid (by rw [hsv]; exact IsPC.yes HOK.out rfl)
        clear hsv
        obtain ⟨xBC, yBC⟩ := BC.out.six
        have lBC := BC.out.lt
        go_wp2_with fail
        clear xBC yBC lBC
        with_reducible refine (implParseCode_any s _ HSS.out (HMX.out.kept Kwc)).mono ?_
        rintro e w27 ⟨v, pc', six, rfl, hpc', o27, k27⟩
        have Kw27 := Kwc.trans k27
        have szw27 := k27.size
        replace HC := Lib.hid (HC.out.kept k27)
        replace BC := Lib.hid (BC.out.kept k27)
        clear k27
        obtain ⟨eq1, eq2⟩ := IsPC.same HIS.out hpc' (fun c c' g g' e e' => code_inj g g' e e')
        subst eq1 eq2
        clear hpc'
        obtain ⟨evb, lvb, rfl, pb, qb, ndb⟩ := o27
        obtain ⟨Ab, cb, rfl, hnb, hmb, _⟩ := own_form pb.1
        obtain ⟨Db, db, rfl, _⟩ := own_form qb
        unfold maxLen at hmb
        have HB : Hid (CodeAt w27 (.agg #[.slice Ab c.elems.length cb, .slice Db c.limits.length db, .int .i64 c.repeats, .int .i64 c.bonus, .int .i64 c.keeps, .int .i64 c.fall]) c) := Lib.hid ⟨_, _, rfl, pb.elems, qb.ints⟩
        clear pb qb ndb
        obtain ⟨xBC, yBC⟩ := BC.out.six
        have lBC := BC.out.lt
        go_wp2_with fail
        clear xBC yBC lBC
        obtain ⟨w28, hw28⟩ : ∃ zz : World, zz = w27.alloc (.cells #[.slice Ab c.elems.length cb, .slice Db c.limits.length db, .int .i64 c.repeats, .int .i64 c.bonus, .int .i64 c.keeps, .int .i64 c.fall] 26) := ⟨_, rfl⟩
        rw [← hw28]
        have kw28 : Kept w27 w28 := hw28 ▸ (Kept.refl w27).alloc _
        have BB : Hid (Box w28 (w27.heap.size) 26 #[.slice Ab c.elems.length cb, .slice Db c.limits.length db, .int .i64 c.repeats, .int .i64 c.bonus, .int .i64 c.keeps, .int .i64 c.fall]) := Lib.hid (hw28 ▸ Box.new w27 _ _ _ rfl)
        clear hw28
        have Kw28 := Kw27.trans kw28
        have szw28 := kw28.size
        replace HC := Lib.hid (HC.out.kept kw28)
        replace HB := Lib.hid (HB.out.kept kw28)
        replace BC := Lib.hid (BC.out.kept kw28)
        clear kw28
        with_reducible refine (qCode_any _ _ c _ HB.out HC.out).mono ?_
        rintro e w29 ⟨rfl, k29⟩
        have Kw29 := Kw28.trans k29
        have szw29 := k29.size
        replace HC := Lib.hid (HC.out.kept k29)
        replace HB := Lib.hid (HB.out.kept k29)
        replace BC := Lib.hid (BC.out.kept k29)
        replace BB := Lib.hid (BB.out.kept k29)
        clear k29
        obtain ⟨xBC, yBC⟩ := BC.out.six
        have lBC := BC.out.lt
        obtain ⟨xBB, yBB⟩ := BB.out.six
        have lBB := BB.out.lt
        go_wp2_with fail
        clear xBC yBC lBC xBB yBB lBB
        go_ret
        exact ⟨rfl, Kw29⟩
end Go.Proofs.YtkekpolfdmmgeaaGreatDoor

/- Arguments opened: a slice of bytes. -/
namespace Go.Proofs.YtkekpolfdmmgeaaGreatDoor
set_option linter.unusedVariables false
set_option linter.unusedSimpArgs false
set_option maxRecDepth 100000
open Go.ChangeShapes Go.WideShapes Go.ChangeAt Go.RowKit

theorem blockB_lt {w : World} {a : Addr} {v : Value} (h : w.cell? a = some v) : a.block < w.heap.size := by
  rcases Nat.lt_or_ge a.block w.heap.size with hlt | hge
  · exact hlt
  · unfold World.cell? at h
    rw [Array.getElem?_eq_none hge] at h
    cases h
theorem addB_at {b o : Nat} (i : Nat) : (⟨b, o, none⟩ : Addr).add i = ⟨b, o + i, none⟩ := by
  unfold Addr.add
  split <;> simp_all
theorem spotB_of {w : World} {x : Addr} {u : Value} (h : w.cell? (x.add 0) = some u) : ∃ b o, x = ⟨b, o, none⟩ := by
  obtain ⟨b, o, s⟩ := x
  have hs : s = none := by simpa [Addr.add] using World.cell?_spot h
  exact ⟨b, o, by rw [hs]⟩
section
variable {H : Type} {enc : TypeId × Value → H} {W : World} {r : Reach} {b0 base : Nat} {spare : Nat → Bool} {held : Bool} {v : Value} {d : DataW H} {p : List MemPlace} {x : DataW H × List MemPlace}
theorem wf_u8 {n : Int} (h : (Lit.int .u8 n).wf = true) : 0 ≤ n ∧ n ≤ 255 := by
  simp [Lit.wf] at h
  have e1 : IntKind.u8.min = 0 := rfl
  have e2 : IntKind.u8.max = 255 := rfl
  omega
theorem open_B (hv : Value.okWide Tryz.prog W r b0 22 v) (h : DataW.Trod enc Tryz.prog W base spare held 22 v d p) : Byts W v := by
  obtain ⟨a0, len0, cap0, rfl⟩ := okWide_slice Tryz.underlying22 hv
  obtain ⟨fuel, hf⟩ := h
  rcases open_ints Tryz.underlying22 Tryz.underlying5 (by kernel_rfl) hf with ⟨hcs, _⟩ | ⟨ad, len, cap, zs, hcs, _, hl, hm, hz, _, hcell, hwz⟩
  · injection hcs with hcs _
    injection hcs with e1 e2 e3
    subst e1 e2 e3
    exact ⟨none, 0, 0, rfl, Nat.le_refl _, Nat.zero_le _, fun h => absurd h (by omega)⟩
  · injection hcs with hcs _
    injection hcs with e1 e2 e3
    subst e1 e2 e3
    refine ⟨_, _, _, rfl, hl, hm, fun hn => ?_⟩
    have hge : len0 ≤ zs.length := by rw [hz]; split <;> omega
    obtain ⟨b, o, rfl⟩ := spotB_of (hcell 0 (by omega))
    have h0 := hcell 0 (by omega)
    rw [addB_at] at h0
    refine ⟨b, o, rfl, blockB_lt h0, fun j hj => ?_⟩
    have hc := hcell j (by omega)
    rw [addB_at] at hc
    have hw := wf_u8 (hwz _ (List.getElem_mem (show j < zs.length by omega)))
    refine ⟨zs[j]'(by omega), hw.1, hw.2, ?_⟩
    rw [hc, List.getD_eq_getElem?_getD, List.getElem?_eq_getElem (by omega)]
    rfl
end
end Go.Proofs.YtkekpolfdmmgeaaGreatDoor
