/- Contracts of functions that the proof leans on. No condition. -/
import Derived.Test.YtlmaiblfgbobnaaM87c2049939
import Derived.ProofKit
import Derived.OpenShut
import Derived.ChangeOld
/- FnItemWorths: the law. -/
namespace Go.Proofs.Ytlmaiblfgbobnaa
set_option linter.unusedVariables false
set_option linter.unusedSimpArgs false
open Go.RowKit

theorem ew_is (n : Int) (b : Bool) (v : Value) (x : CodeD) (s : ByteArray) (m : Int) (w : World) (hb : ewOk x s m = b) (hn : ewV x s m = n) (h : CodeAt w v x) (hs : s.size ≤ maxLen) :
    Calls Try.prog 33 #[v, .string s, .int .i64 m] w fun e w' => e = .returned (.tuple #[.int .i64 n, .bool b]) ∧ Kept w w' := by rw [← hb, ← hn]; exact implElementWorth_any v x s m w h hs
set_option maxRecDepth 100000 in
set_option maxHeartbeats 40000000 in
theorem lawFnItemWorths_any (v0 v1 : Value) (w : World) (h0 : Byts w v0) (h1 : Byts w v1) :
    Calls Try.prog 4 #[v0, v1] w fun e w' => e = .returned (.bool true) ∧ Kept w w' := by
  have H0 := Lib.hid h0
  have H1 := Lib.hid h1
  obtain ⟨A0, n0, c0, rfl, hnc0, hcm0, _⟩ := h0
  obtain ⟨A1, n1, c1, rfl, hnc1, hcm1, _⟩ := h1
  unfold maxLen at hcm0 hcm1
  go_enter Try.func4, Try.ntmps4
  have K0 := Kept.refl w
  go_wp2_with fail
  with_reducible refine (big_any _ _ w H0.out H1.out).mono ?_
  rintro e wg ⟨⟨bb, rfl⟩, k0⟩
  have Kwg := K0.trans k0
  have szwg := k0.size
  clear k0
  cases bb
  case true =>
    go_wp2_with fail
    go_ret
    exact ⟨rfl, Kwg⟩
  go_wp2_with fail
  with_reducible refine (drawLateGain_any _ _ (H0.out.kept Kwg)).mono ?_
  rintro e w1 ⟨⟨cv, lv, c, its, cs, n, rfl, oc, ol, _, _, hil⟩, k1⟩
  have Kw1 := Kwg.trans k1
  have szw1 := k1.size
  clear k1
  obtain ⟨evc, lvc, rfl, pc, qc, ndc⟩ := oc
  obtain ⟨Ac, cc, rfl, hnc, hmc, _⟩ := own_form pc.1
  obtain ⟨Dc, dc, rfl, _⟩ := own_form qc
  unfold maxLen at hmc
  have HC : Hid (CodeAt w1 (.agg #[.slice Ac c.elems.length cc, .slice Dc c.limits.length dc, .int .i64 c.repeats, .int .i64 c.bonus, .int .i64 c.keeps, .int .i64 c.fall]) c) := Lib.hid ⟨_, _, rfl, pc.elems, qc.ints⟩
  clear pc qc ndc
  have HL : Hid (ItemsAt w1 lv its) := Lib.hid ol.items
  clear ol
  go_wp2_with fail
  obtain ⟨w2, hw2⟩ : ∃ zz : World, zz = w1.alloc (.cells #[.slice Ac c.elems.length cc, .slice Dc c.limits.length dc, .int .i64 c.repeats, .int .i64 c.bonus, .int .i64 c.keeps, .int .i64 c.fall] 26) := ⟨_, rfl⟩
  rw [← hw2]
  have kw2 : Kept w1 w2 := hw2 ▸ (Kept.refl w1).alloc _
  have BC : Hid (Box w2 (w1.heap.size) 26 #[.slice Ac c.elems.length cc, .slice Dc c.limits.length dc, .int .i64 c.repeats, .int .i64 c.bonus, .int .i64 c.keeps, .int .i64 c.fall]) := Lib.hid (hw2 ▸ Box.new w1 _ _ _ rfl)
  clear hw2
  have Kw2 := Kw1.trans kw2
  have szw2 := kw2.size
  replace HC := Lib.hid (HC.out.kept kw2)
  replace HL := Lib.hid (HL.out.kept kw2)
  clear kw2
  with_reducible refine (implLateGain_any _ _ c its n _ HC.out HL.out).mono ?_
  rintro e w3 ⟨rfl, k3⟩
  have Kw3 := Kw2.trans k3
  have szw3 := k3.size
  replace HC := Lib.hid (HC.out.kept k3)
  replace HL := Lib.hid (HL.out.kept k3)
  replace BC := Lib.hid (BC.out.kept k3)
  clear k3
  obtain ⟨xBC, yBC⟩ := BC.out.six
  have lBC := BC.out.lt
  go_wp2_with fail
  clear xBC yBC lBC
  with_reducible refine (specLateGain_any _ _ c its n _ HC.out HL.out).mono ?_
  rintro e w4 ⟨rfl, k4⟩
  have Kw4 := Kw3.trans k4
  have szw4 := k4.size
  replace HC := Lib.hid (HC.out.kept k4)
  replace HL := Lib.hid (HL.out.kept k4)
  replace BC := Lib.hid (BC.out.kept k4)
  clear k4
  have hga : 0 ≤ onI (hasB c its n) (gainV c its n.toNat) := onI_nonneg (fun h => gain_nonneg h)
  generalize onI (hasB c its n) (gainV c its n.toNat) = ga at *
  generalize hasB c its n = hb at *
  have e1 : (hb != hb) = false := by simp
  have e2 : (ga != ga) = false := by simp
  have hga' : decide (ga < 0) = false := decide_eq_false (by omega)
  obtain ⟨xBC, yBC⟩ := BC.out.six
  have lBC := BC.out.lt
  go_upto_region 6 with (fail)
  clear xBC yBC lBC
  go_cut [79] (fun s79 wx => s79 = .bool false ∧ Kept w4 wx)
  case first =>
    as_aux_lemma =>
    cases hb with
    | false =>
      go_wp2_with fail
      go_meet
      exact ⟨rfl, Kept.refl _⟩
    | true =>
      go_wp2_with fail
      go_meet
      exact ⟨by first | rfl | rw [hga'], Kept.refl _⟩
  case rest =>
    as_aux_lemma =>
    obtain ⟨rfl, kx⟩ := hcut
    have Kwc := Kw4.trans kx
    have szwc := kx.size
    replace HC := Lib.hid (HC.out.kept kx)
    replace HL := Lib.hid (HL.out.kept kx)
    replace BC := Lib.hid (BC.out.kept kx)
    clear kx
    clear e1 e2 hga hga' HC HL BC hil
    obtain ⟨wA, rfl⟩ : ∃ x : World, x = wc := ⟨_, rfl⟩
    clear Kw4 Kw3 Kw2 Kw1 Kwg K0
    clear szwg szw1 hnc hmc szw2 szw3 szw4
    clear szwc
    go_wp2_with fail
    with_reducible refine (drawFullBase_any _ _ (H1.out.kept Kwc)).mono ?_
    rintro e w5 ⟨⟨cv, tv, x, it, rfl, oc, ot, _, _, hn4, hm4⟩, k5⟩
    have Kw5 := Kwc.trans k5
    have szw5 := k5.size
    clear k5
    obtain ⟨evx, lvx, rfl, px, qx, ndx⟩ := oc
    obtain ⟨Ax, cx, rfl, hnx, hmx, _⟩ := own_form px.1
    obtain ⟨Dx, dx, rfl, _⟩ := own_form qx
    unfold maxLen at hmx
    have HX : Hid (CodeAt w5 (.agg #[.slice Ax x.elems.length cx, .slice Dx x.limits.length dx, .int .i64 x.repeats, .int .i64 x.bonus, .int .i64 x.keeps, .int .i64 x.fall]) x) := Lib.hid ⟨_, _, rfl, px.elems, qx.ints⟩
    clear px qx ndx
    obtain ⟨evt, lvt, rfl, pt, qt, ndt⟩ := ot
    obtain ⟨At, ct, rfl, hnt, hmt, _⟩ := own_form pt.1
    obtain ⟨Dt, dt, rfl, hxt, hyt, _⟩ := own_form qt
    unfold maxLen at hmt hyt
    have HT : Hid (ItemAt w5 (.agg #[.slice At it.names.length ct, .slice Dt it.marks.length dt, .bool it.late]) it) := Lib.hid ⟨_, _, rfl, pt.strs, qt.ints⟩
    clear pt qt ndt
    go_wp2_with fail
    obtain ⟨w6, hw6⟩ : ∃ zz : World, zz = w5.alloc (.cells #[.slice Ax x.elems.length cx, .slice Dx x.limits.length dx, .int .i64 x.repeats, .int .i64 x.bonus, .int .i64 x.keeps, .int .i64 x.fall] 26) := ⟨_, rfl⟩
    rw [← hw6]
    have kw6 : Kept w5 w6 := hw6 ▸ (Kept.refl w5).alloc _
    have BX : Hid (Box w6 (w5.heap.size) 26 #[.slice Ax x.elems.length cx, .slice Dx x.limits.length dx, .int .i64 x.repeats, .int .i64 x.bonus, .int .i64 x.keeps, .int .i64 x.fall]) := Lib.hid (hw6 ▸ Box.new w5 _ _ _ rfl)
    have hszw6 : w6.heap.size = w5.heap.size + 1 := by rw [hw6]; simp
    clear hw6
    have Kw6 := Kw5.trans kw6
    have szw6 := kw6.size
    replace HX := Lib.hid (HX.out.kept kw6)
    replace HT := Lib.hid (HT.out.kept kw6)
    clear kw6
    obtain ⟨w7, hw7⟩ : ∃ zz : World, zz = w6.alloc (.cells #[.slice At it.names.length ct, .slice Dt it.marks.length dt, .bool it.late] 52) := ⟨_, rfl⟩
    rw [← hw7]
    have kw7 : Kept w6 w7 := hw7 ▸ (Kept.refl w6).alloc _
    have BT : Hid (Box w7 (w5.heap.size + 1) 52 #[.slice At it.names.length ct, .slice Dt it.marks.length dt, .bool it.late]) := Lib.hid (hw7 ▸ Box.new w6 _ _ _ hszw6.symm)
    clear hszw6
    clear hw7
    have Kw7 := Kw6.trans kw7
    have szw7 := kw7.size
    replace HX := Lib.hid (HX.out.kept kw7)
    replace HT := Lib.hid (HT.out.kept kw7)
    replace BX := Lib.hid (BX.out.kept kw7)
    clear kw7
    with_reducible refine (implFullBase_any _ _ x it _ HX.out HT.out).mono ?_
    rintro e w8 ⟨rfl, k8⟩
    have Kw8 := Kw7.trans k8
    have szw8 := k8.size
    replace HX := Lib.hid (HX.out.kept k8)
    replace HT := Lib.hid (HT.out.kept k8)
    replace BX := Lib.hid (BX.out.kept k8)
    replace BT := Lib.hid (BT.out.kept k8)
    clear k8
    obtain ⟨xBX, yBX⟩ := BX.out.six
    have lBX := BX.out.lt
    obtain ⟨xBT, yBT⟩ := BT.out.three
    have lBT := BT.out.lt
    go_wp2_with fail
    clear xBX yBX lBX xBT yBT lBT
    with_reducible refine (specFullBase_any _ _ x it _ HX.out HT.out).mono ?_
    rintro e w9 ⟨rfl, k9⟩
    have Kw9 := Kw8.trans k9
    have szw9 := k9.size
    replace HX := Lib.hid (HX.out.kept k9)
    replace HT := Lib.hid (HT.out.kept k9)
    replace BX := Lib.hid (BX.out.kept k9)
    replace BT := Lib.hid (BT.out.kept k9)
    clear k9
    obtain ⟨xBX, yBX⟩ := BX.out.six
    have lBX := BX.out.lt
    obtain ⟨xBT, yBT⟩ := BT.out.three
    have lBT := BT.out.lt
    go_wp2_with fail
    clear xBX yBX lBX xBT yBT lBT
    with_reducible refine (implItemFamily_any _ _ x it _ HX.out HT.out).mono ?_
    rintro e w10 ⟨rfl, k10⟩
    have Kw10 := Kw9.trans k10
    have szw10 := k10.size
    replace HX := Lib.hid (HX.out.kept k10)
    replace HT := Lib.hid (HT.out.kept k10)
    replace BX := Lib.hid (BX.out.kept k10)
    replace BT := Lib.hid (BT.out.kept k10)
    clear k10
    obtain ⟨xBX, yBX⟩ := BX.out.six
    have lBX := BX.out.lt
    obtain ⟨xBT, yBT⟩ := BT.out.three
    have lBT := BT.out.lt
    go_wp2_with fail
    clear xBX yBX lBX xBT yBT lBT
    with_reducible refine (specItemFamily_any _ _ x it _ HX.out HT.out).mono ?_
    rintro e w11 ⟨rfl, k11⟩
    have Kw11 := Kw10.trans k11
    have szw11 := k11.size
    replace HX := Lib.hid (HX.out.kept k11)
    replace HT := Lib.hid (HT.out.kept k11)
    replace BX := Lib.hid (BX.out.kept k11)
    replace BT := Lib.hid (BT.out.kept k11)
    clear k11
    obtain ⟨ff, hff⟩ : ∃ z, onI (gdB x [it]) (fullV x it) = z := ⟨_, rfl⟩
    obtain ⟨mm, hmm⟩ : ∃ z, onI (gdB x [it]) (famV x it) = z := ⟨_, rfl⟩
    obtain ⟨gb, hgb⟩ : ∃ z, gdB x [it] = z := ⟨_, rfl⟩
    rw [hff, hmm, hgb]
    have HFF := Lib.hid hff
    have HGB := Lib.hid hgb
    clear hff hmm hgb
    have e1 : (gb != gb) = false := by simp
    have e2 : (ff != ff) = false := by simp
    have e3 : (mm != mm) = false := by simp
    obtain ⟨xBX, yBX⟩ := BX.out.six
    have lBX := BX.out.lt
    obtain ⟨xBT, yBT⟩ := BT.out.three
    have lBT := BT.out.lt
    go_upto_if 132 with (fail)
    clear xBX yBX lBX xBT yBT lBT
    clear e1 e2 e3
    go_cut [132] (fun _ wx => Kept w11 wx)
    case first =>
      as_aux_lemma =>
      cases gb with
      | false =>
        go_wp2_with fail
        go_meet
        exact Kept.refl _
      | true =>
        obtain ⟨nv', mv', e', q1, q2⟩ := HT.out
        injection e' with e'
        have e1 := congrArg Array.toList e'
        simp only [List.cons.injEq] at e1
        obtain ⟨rfl, rfl, _⟩ := e1
        have HN := Lib.hid q1.1.addr
        have HNB := Lib.hid q1.2
        have HM := Lib.hid q2.addr
        obtain ⟨_, hi, hk⟩ := gdB_true HGB.out
        have hx := (gdB_true HGB.out).1
        rw [itemsB_one] at hi
        rw [knB_one] at hk
        have hno := item_some hi
        obtain ⟨hn1, hn3, hml⟩ := hno
        have HML := Lib.hid hml
        have HI := Lib.hid hi
        have HK := Lib.hid hk
        have HCX := Lib.hid hx
        have HFV : Hid (fullV x it = ff) := Lib.hid (by rw [← HFF.out, HGB.out]; rfl)
        clear hml hi hk hx e' q1 q2
        obtain ⟨xBX, yBX⟩ := BX.out.six
        have lBX := BX.out.lt
        obtain ⟨xBT, yBT⟩ := BT.out.three
        have lBT := BT.out.lt
        go_wp2_with fail
        clear xBX yBX lBX xBT yBT lBT
        go_loopw [22, 136] (fun s i wr => ∃ j : Nat, j ≤ it.names.length ∧ i = .int .i64 j ∧ s = .int .i64 ((wsV x it).take j).sum ∧ Kept w11 wr) (fun _ i _ => it.names.length - (intOf i).toNat)
        case atStart => exact ⟨0, Nat.zero_le _, rfl, rfl, Kept.refl _⟩
        case round =>
          as_aux_lemma =>
          obtain ⟨j, hj, rfl, rfl, hkept⟩ := hrel
          replace BX := Lib.hid (BX.out.kept hkept)
          replace BT := Lib.hid (BT.out.kept hkept)
          have szr := hkept.size
          by_cases hlt : j < it.names.length
          · obtain ⟨b1, o1, z, rfl, hb1, hz, hc⟩ := strs_at (HN.out.kept hkept) hlt
            have hlt1 : (j : Int) < (it.names.length : Int) := by omega
            have hlt2 : (j : Int) < (it.marks.length : Int) := by rw [HML.out]; omega
            obtain ⟨b2, o2, m, rfl, hb2, hm, hc2⟩ := ints_at (HM.out.kept hkept) (k := j) (by rw [HML.out]; exact hlt)
            obtain ⟨q1, q2⟩ := sum_take_bd HCX.out HI.out HK.out j
            obtain ⟨q3, q4⟩ := worthAt_bd m HCX.out (knI_name HK.out hz)
            obtain ⟨r1, r2, r3, r4, r5, r6⟩ := ew_of HGB.out hz hm
            have hzs : z.size ≤ maxLen := HNB.out z (List.mem_of_getElem? hz)
            have HSN := Lib.hid (wsV_snoc x hz hm)
            have HZS := Lib.hid hzs
            clear hz hm hzs
            generalize hS : ((wsV x it).take j).sum = S at *
            rw [r4] at r5
            generalize hw : worthAt x z m = wv at *
            generalize hw0 : ewV x z 0 = w0 at *
            have HR1 := Lib.hid r1
            have HR2 := Lib.hid r2
            have HR3 := Lib.hid r3
            have HR4 := Lib.hid r4
            have HR5 := Lib.hid hw0
            have HR6 := Lib.hid r6
            have HSU : Hid (((wsV x it).take (j + 1)).sum = S + wv) := Lib.hid (by rw [HSN.out, isum_snoc, hS])
            have hwr : IntKind.i64.wrap (S + wv) = S + wv := IntWalk.i64_in _ (by omega)
            have hle : ¬ w0 < wv := by omega
            clear r1 r2 r3 r4 r5 r6 hS hw hw0 HSN
            obtain ⟨xX, yX⟩ := BX.out.six
            obtain ⟨xT, yT⟩ := BT.out.three
            have lX := BX.out.lt
            have lT := BT.out.lt
            go_wp2_with fail
            clear xX yX xT yT lX lT
            skip
            have y2 := After.cell (W := wr.drew) (((Kept.refl wr).drew.cell (p := ⟨b2, o2 + j, none⟩) hb2).trans hc2) hb2
            have Kd1 : Kept wr wr.drew := (Kept.refl _).drew
            replace BX := Lib.hid (BX.out.kept Kd1)
            replace BT := Lib.hid (BT.out.kept Kd1)
            have HCO := Lib.hid ((HX.out.kept hkept).kept Kd1)
            clear hc hc2
            have x0 := fun t : After (wr.drew) => (BX.out.kept t.kept).six.1
            have x1 := fun t : After (wr.drew) => (BT.out.kept t.kept).three.1
            refine region_after (by kernel_rfl) (by kernel_rfl) ?_
            repeat (go_big_quiet_step ((go_at_call 33; exact after_of (ew_is _ _ _ x z m _ HR1.out HR4.out (HCO.out.kept (After.kept _)) HZS.out))))
            refine wpQuiet_nil ?_
            intro wq hw'
            obtain ⟨⟨_, kq⟩, hw''⟩ := hw'
            subst hw''
            try dsimp only
            clear x0 x1
            skip
            replace BX := Lib.hid (BX.out.kept kq)
            replace BT := Lib.hid (BT.out.kept kq)
            have HCQ := Lib.hid (HCO.out.kept kq)
            have Kq2 := (hkept.drew).trans kq
            have szq := Kq2.size
            clear y2
            obtain ⟨xX, yX⟩ := BX.out.six
            have lX := BX.out.lt
            go_wp2_with fail
            clear xX yX lX
            with_reducible refine (ew_is _ _ _ x z 0 _ HR2.out HR5.out HCQ.out HZS.out).mono ?_
            rintro e w8 ⟨rfl, k8⟩
            replace BX := Lib.hid (BX.out.kept k8)
            replace HCQ := Lib.hid (HCQ.out.kept k8)
            have sz8 := k8.size
            obtain ⟨xX, yX⟩ := BX.out.six
            have lX := BX.out.lt
            go_wp2_with fail
            clear xX yX lX
            with_reducible refine (ew_is _ _ _ x z 3 _ HR3.out HR6.out HCQ.out HZS.out).mono ?_
            rintro e w9 ⟨rfl, k9⟩
            go_wp2_with fail
            go_roundw
            case rel => exact ⟨j + 1, by omega, by go_num, by rw [HSU.out], (Kq2.trans k8).trans k9⟩
            case measure => simp [intOf]; omega
          · obtain rfl : j = it.names.length := by omega
            have HS0 : Hid (((wsV x it).take it.names.length).sum = (wsV x it).sum) := Lib.hid (by rw [← wsV_length x HML.out, List.take_length])
            rw [HS0.out]
            obtain ⟨t1, t2⟩ := full_sum HGB.out
            rw [HFV.out] at t1 t2
            generalize hS : (wsV x it).sum = S at *
            clear hS HS0
            obtain ⟨xT, yT⟩ := BT.out.three
            have lT := BT.out.lt
            skip
            by_cases hl : it.late = true
            · have t3 : ¬ ff < S := by have := t1 hl; omega
              rw [hl] at xT
              clear t1 t2
              go_wp2_with fail
              go_meet
              exact hkept
            · simp only [Bool.not_eq_true] at hl
              have t3 : ff = S := t2 hl
              subst t3
              have t4 : (ff != ff) = false := by simp
              rw [hl] at xT
              clear t1 t2
              go_wp2_with fail
              go_meet
              exact hkept
    case rest =>
      as_aux_lemma =>
      have kx : Kept w11 wc := hcut
      clear hcut
      have Kwc := Kw11.trans kx
      have szwc := kx.size
      replace HX := Lib.hid (HX.out.kept kx)
      replace HT := Lib.hid (HT.out.kept kx)
      replace BX := Lib.hid (BX.out.kept kx)
      replace BT := Lib.hid (BT.out.kept kx)
      clear kx
      obtain ⟨wB, rfl⟩ : ∃ x : World, x = wc := ⟨_, rfl⟩
      clear HX HT BX BT HFF HGB
      clear Kw11 Kw10 Kw9 Kw8 Kw7 Kw6 Kw5
      clear szw5 hnx hmx hnt hmt hxt hyt szw6 szw7 szw8 szw9 szw10 szw11
      clear szwc
      go_wp2_with fail
      with_reducible refine (drawRepeatsOf_any _ _ (H1.out.kept Kwc)).mono ?_
      rintro e w12 ⟨⟨cv, lv, c, its, cs, n, rfl, oc, ol, _, _, hil⟩, k12⟩
      have Kw12 := Kwc.trans k12
      have szw12 := k12.size
      clear k12
      obtain ⟨evc, lvc, rfl, pc, qc, ndc⟩ := oc
      obtain ⟨Ac, cc, rfl, hnc, hmc, _⟩ := own_form pc.1
      obtain ⟨Dc, dc, rfl, _⟩ := own_form qc
      unfold maxLen at hmc
      have HC : Hid (CodeAt w12 (.agg #[.slice Ac c.elems.length cc, .slice Dc c.limits.length dc, .int .i64 c.repeats, .int .i64 c.bonus, .int .i64 c.keeps, .int .i64 c.fall]) c) := Lib.hid ⟨_, _, rfl, pc.elems, qc.ints⟩
      clear pc qc ndc
      have HL : Hid (ItemsAt w12 lv its) := Lib.hid ol.items
      clear ol
      go_wp2_with fail
      obtain ⟨w13, hw13⟩ : ∃ zz : World, zz = w12.alloc (.cells #[.slice Ac c.elems.length cc, .slice Dc c.limits.length dc, .int .i64 c.repeats, .int .i64 c.bonus, .int .i64 c.keeps, .int .i64 c.fall] 26) := ⟨_, rfl⟩
      rw [← hw13]
      have kw13 : Kept w12 w13 := hw13 ▸ (Kept.refl w12).alloc _
      have BC : Hid (Box w13 (w12.heap.size) 26 #[.slice Ac c.elems.length cc, .slice Dc c.limits.length dc, .int .i64 c.repeats, .int .i64 c.bonus, .int .i64 c.keeps, .int .i64 c.fall]) := Lib.hid (hw13 ▸ Box.new w12 _ _ _ rfl)
      clear hw13
      have Kw13 := Kw12.trans kw13
      have szw13 := kw13.size
      replace HC := Lib.hid (HC.out.kept kw13)
      replace HL := Lib.hid (HL.out.kept kw13)
      clear kw13
      with_reducible refine (implRepeatsOf_any _ _ c its n _ HC.out HL.out).mono ?_
      rintro e w14 ⟨rfl, k14⟩
      have Kw14 := Kw13.trans k14
      have szw14 := k14.size
      replace HC := Lib.hid (HC.out.kept k14)
      replace HL := Lib.hid (HL.out.kept k14)
      replace BC := Lib.hid (BC.out.kept k14)
      clear k14
      obtain ⟨xBC, yBC⟩ := BC.out.six
      have lBC := BC.out.lt
      go_wp2_with fail
      clear xBC yBC lBC
      with_reducible refine (specRepeatsOf_any _ _ c its n _ HC.out HL.out).mono ?_
      rintro e w15 ⟨rfl, k15⟩
      have Kw15 := Kw14.trans k15
      have szw15 := k15.size
      replace HC := Lib.hid (HC.out.kept k15)
      replace HL := Lib.hid (HL.out.kept k15)
      replace BC := Lib.hid (BC.out.kept k15)
      clear k15
      obtain ⟨xBC, yBC⟩ := BC.out.six
      have lBC := BC.out.lt
      go_wp2_with fail
      clear xBC yBC lBC
      with_reducible refine (implItemBase_any _ _ c its n _ HC.out HL.out).mono ?_
      rintro e w16 ⟨rfl, k16⟩
      have Kw16 := Kw15.trans k16
      have szw16 := k16.size
      replace HC := Lib.hid (HC.out.kept k16)
      replace HL := Lib.hid (HL.out.kept k16)
      replace BC := Lib.hid (BC.out.kept k16)
      clear k16
      obtain ⟨xBC, yBC⟩ := BC.out.six
      have lBC := BC.out.lt
      go_wp2_with fail
      clear xBC yBC lBC
      with_reducible refine (specItemBase_any _ _ c its n _ HC.out HL.out).mono ?_
      rintro e w17 ⟨rfl, k17⟩
      have Kw17 := Kw16.trans k17
      have szw17 := k17.size
      replace HC := Lib.hid (HC.out.kept k17)
      replace HL := Lib.hid (HL.out.kept k17)
      replace BC := Lib.hid (BC.out.kept k17)
      clear k17
      generalize onI (hasB c its n) (repV its n.toNat) = r at *
      generalize onI (hasB c its n) (baseV c its n.toNat) = b at *
      generalize hasB c its n = hb at *
      have e1 : (hb == hb) = true := by simp
      have e2 : (r == r) = true := by simp
      have e3 : (b == b) = true := by simp
      obtain ⟨xBC, yBC⟩ := BC.out.six
      have lBC := BC.out.lt
      go_wp2_with fail
      clear xBC yBC lBC
      go_ret
      exact ⟨rfl, Kw17⟩
end Go.Proofs.Ytlmaiblfgbobnaa

/- Arguments opened: a slice of bytes. -/
namespace Go.Proofs.Ytlmaiblfgbobnaa
set_option linter.unusedVariables false
set_option linter.unusedSimpArgs false
set_option maxRecDepth 100000
open Go.ChangeShapes Go.WideShapes Go.ChangeAt Go.RowKit

theorem blockB_lt {w : World} {a : Addr} {v : Value} (h : w.cell? a = some v) : a.block < w.heap.size := by
  rcases Nat.lt_or_ge a.block w.heap.size with hlt | hge
  · exact hlt
  · unfold World.cell? at h
    rw [Array.getElem?_eq_none hge] at h
    cases h
theorem addB_at {b o : Nat} (i : Nat) : (⟨b, o, none⟩ : Addr).add i = ⟨b, o + i, none⟩ := by
  unfold Addr.add
  split <;> simp_all
theorem spotB_of {w : World} {x : Addr} {u : Value} (h : w.cell? (x.add 0) = some u) : ∃ b o, x = ⟨b, o, none⟩ := by
  obtain ⟨b, o, s⟩ := x
  have hs : s = none := by simpa [Addr.add] using World.cell?_spot h
  exact ⟨b, o, by rw [hs]⟩
section
variable {H : Type} {enc : TypeId × Value → H} {W : World} {r : Reach} {b0 base : Nat} {spare : Nat → Bool} {held : Bool} {v : Value} {d : DataW H} {p : List MemPlace} {x : DataW H × List MemPlace}
theorem wf_u8 {n : Int} (h : (Lit.int .u8 n).wf = true) : 0 ≤ n ∧ n ≤ 255 := by
  simp [Lit.wf] at h
  have e1 : IntKind.u8.min = 0 := rfl
  have e2 : IntKind.u8.max = 255 := rfl
  omega
theorem open_B (hv : Value.okWide Try.prog W r b0 22 v) (h : DataW.Trod enc Try.prog W base spare held 22 v d p) : Byts W v := by
  obtain ⟨a0, len0, cap0, rfl⟩ := okWide_slice Try.underlying22 hv
  obtain ⟨fuel, hf⟩ := h
  rcases open_ints Try.underlying22 Try.underlying5 (by kernel_rfl) hf with ⟨hcs, _⟩ | ⟨ad, len, cap, zs, hcs, _, hl, hm, hz, _, hcell, hwz⟩
  · injection hcs with hcs _
    injection hcs with e1 e2 e3
    subst e1 e2 e3
    exact ⟨none, 0, 0, rfl, Nat.le_refl _, Nat.zero_le _, fun h => absurd h (by omega)⟩
  · injection hcs with hcs _
    injection hcs with e1 e2 e3
    subst e1 e2 e3
    refine ⟨_, _, _, rfl, hl, hm, fun hn => ?_⟩
    have hge : len0 ≤ zs.length := by rw [hz]; split <;> omega
    obtain ⟨b, o, rfl⟩ := spotB_of (hcell 0 (by omega))
    have h0 := hcell 0 (by omega)
    rw [addB_at] at h0
    refine ⟨b, o, rfl, blockB_lt h0, fun j hj => ?_⟩
    have hc := hcell j (by omega)
    rw [addB_at] at hc
    have hw := wf_u8 (hwz _ (List.getElem_mem (show j < zs.length by omega)))
    refine ⟨zs[j]'(by omega), hw.1, hw.2, ?_⟩
    rw [hc, List.getD_eq_getElem?_getD, List.getElem?_eq_getElem (by omega)]
    rfl
end
end Go.Proofs.Ytlmaiblfgbobnaa
