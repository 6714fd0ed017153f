/- Contracts of functions that the proof leans on. No condition. -/
import Derived.Test.YtkkdhmbkpebajaaDoorM280beca7b8
import Derived.ProofKit
import Derived.OpenShut
import Derived.ChangeOld
/- FnWrong: the law. -/
namespace Go.Proofs.YtkkdhmbkpebajaaDoor
set_option linter.unusedVariables false
set_option linter.unusedSimpArgs false
open Go.RowKit

set_option maxRecDepth 100000 in
set_option maxHeartbeats 40000000 in
theorem lawFnWrong_any (v0 v1 : Value) (w : World) (h0 : Byts w v0) (h1 : Byts w v1) (hs : HasSigns w) (hm : HasMax w) :
    Calls Tryd.prog 3 #[v0, v1] w fun e w' => e = .returned (.bool true) ∧ Kept w w' := by
  have H0 := Lib.hid h0
  have H1 := Lib.hid h1
  have HSG := Lib.hid hs
  have HMX := Lib.hid hm
  clear hs hm
  obtain ⟨A0, n0, c0, rfl, hnc0, hcm0, _⟩ := h0
  obtain ⟨A1, n1, c1, rfl, hnc1, hcm1, _⟩ := h1
  unfold maxLen at hcm0 hcm1
  go_enter Tryd.func3, Tryd.ntmps3
  have K0 := Kept.refl w
  go_wp2_with fail
  with_reducible refine (big_any _ _ w H0.out H1.out).mono ?_
  rintro e wg ⟨⟨bb, rfl⟩, k0⟩
  have Kwg := K0.trans k0
  have szwg := k0.size
  clear k0
  cases bb
  case true =>
    go_wp2_with fail
    go_ret
    exact ⟨rfl, Kwg⟩
  go_wp2_with fail
  with_reducible refine (drawFirstWrong_any _ _ (H0.out.kept Kwg)).mono ?_
  rintro e w1 ⟨⟨s, hs, rfl⟩, k1⟩
  have Kw1 := Kwg.trans k1
  have szw1 := k1.size
  clear k1
  have hs1 : s.size ≤ 1048576 := by omega
  have C1 := Lib.hid (fun w0 => specFirstWrong_any s w0 hs1)
  have C2 := Lib.hid (fun w0 h1 h2 => implFirstWrong_any s w0 hs1 h1 h2)
  obtain ⟨⟨a, b, ok⟩, hv⟩ : ∃ v, fwV s = v := ⟨_, rfl⟩
  unfold fwE at C1 C2
  rw [hv] at C1 C2
  dsimp only at C1 C2
  have HV := Lib.hid hv
  clear hv
  go_wp2_with fail
  with_reducible refine (C2.out _ (HSG.out.kept Kw1) (HMX.out.kept Kw1)).mono ?_
  rintro e w2 ⟨rfl, k2⟩
  have Kw2 := Kw1.trans k2
  have szw2 := k2.size
  clear k2
  go_wp2_with fail
  with_reducible refine (C1.out _).mono ?_
  rintro e w3 ⟨rfl, k3⟩
  have Kw3 := Kw2.trans k3
  have szw3 := k3.size
  clear k3
  clear C1 C2
  go_wp2_with fail
  with_reducible refine (implParseItems_any s _ hs1 (HSG.out.kept Kw3) (HMX.out.kept Kw3)).mono ?_
  rintro e w4 ⟨vl, S4, rfl, o4, k4⟩
  have Kw4 := Kw3.trans k4
  have szw4 := k4.size
  clear k4
  have HL : Hid (ItemsAt w4 vl (psL s)) := Lib.hid o4.items
  clear o4
  go_wp2_with fail
  with_reducible refine (specParseItems_any s _ hs1).mono ?_
  rintro e w5 ⟨vm, T5, rfl, o5, k5⟩
  have Kw5 := Kw4.trans k5
  have szw5 := k5.size
  replace HL := Lib.hid (HL.out.kept k5)
  clear k5
  have HM : Hid (ItemsAt w5 vm (psL s)) := Lib.hid o5.items
  clear o5
  obtain ⟨one, hone⟩ : ∃ z, psB s = z := ⟨_, rfl⟩
  rw [hone]
  have HON := Lib.hid hone
  clear hone
  have e1 : (ok != ok) = false := by simp
  have e2 : (a != a) = false := by simp
  have e3 : (b != b) = false := by simp
  have e4 : (one != one) = false := by simp
  go_upto_region 8 with (fail)
  go_cut [88] (fun s88 wx => s88 = .bool false ∧ Kept w5 wx)
  case first =>
    go_wp2_with fail
    with_reducible refine (pSameItems_any _ _ (psL s) _ HL.out HM.out).mono ?_
    rintro e wp ⟨rfl, kp⟩
    cases ok with
    | false =>
      go_wp2_with fail
      go_meet
      exact ⟨rfl, kp⟩
    | true =>
      have hno := (wrong_at (s := s) (by rw [HV.out])).1
      rw [HON.out] at hno
      subst hno
      go_wp2_with fail
      go_meet
      exact ⟨rfl, kp⟩
  case rest =>
    obtain ⟨rfl, kx⟩ := hcut
    have Kwc := Kw5.trans kx
    have szwc := kx.size
    replace HL := Lib.hid (HL.out.kept kx)
    replace HM := Lib.hid (HM.out.kept kx)
    clear kx
    obtain ⟨wB, rfl⟩ : ∃ zz : World, zz = wc := ⟨_, rfl⟩
    clear HL HM HON e1 e2 e3 e4
    go_upto_if 89 with (fail)
    go_cut [89] (fun _ wx => Kept wB wx)
    case first =>
      cases ok with
      | false =>
        go_wp2_with fail
        go_meet
        exact Kept.refl _
      | true =>
        obtain ⟨_, hs2, pp, qq, mm, hpq, hfv, hlt, hcp, hback⟩ := wrong_at (s := s) (by rw [HV.out])
        rw [HV.out] at hfv
        simp only [Prod.mk.injEq, and_true] at hfv
        obtain ⟨rfl, rfl⟩ := hfv
        have HLT := Lib.hid hlt
        have HCP := Lib.hid hcp
        have HBK := Lib.hid hback
        have hmp : mm ≤ pp := by have := cntNl_le s pp; omega
        have hSX : Hid (HasSigns wB) := Lib.hid (HSG.out.kept Kwc)
        have hMM : Hid (HasMax wB) := Lib.hid (HMX.out.kept Kwc)
        have q1 : ¬ (1 : Int) + (mm : Int) < 1 := by omega
        have q2 : ¬ (1 : Int) + (qq : Int) < 1 := by omega
        clear hlt hcp hback HV
        go_wp2_with fail
        go_loopw [16, 17] (fun s16 s17 wr => ∃ j : Nat, j ≤ pp ∧ s16 = .int .i64 j ∧ s17 = .int .i64 (1 + (cntNl s j : Int)) ∧ Kept wB wr) (fun s16 _ _ => pp - (RowKit.intOf s16).toNat)
        case atStart => exact ⟨0, Nat.zero_le _, rfl, rfl, Kept.refl _⟩
        case round =>
          obtain ⟨j, hj, rfl, rfl, hkept⟩ := hrel
          have hcl := cntNl_le s j
          by_cases hjp : j < pp
          · have hjs : j < s.size := by omega
            have hjs' : (j : Int) < (s.size : Int) := by omega
            have hn := HLT.out j hjp
            have hn' : (1 : Int) + (cntNl s j : Int) < 1 + (mm : Int) := by omega
            by_cases hc : s[j].toNat = 10
            · have HY := Lib.hid (cntNl_yes hjs hc)
              have t10 : ((s[j].toNat : Int) == 10) = true := byte_yes (k := 10) hc
              clear hc
              go_wp2_with fail
              go_roundw
              case rel => exact ⟨j + 1, by omega, by go_num, by rw [HY.out]; (first | done | (congr 1 <;> omega)), hkept⟩
              case measure => simp [RowKit.intOf]; omega
            · have HY := Lib.hid (cntNl_no hjs hc)
              have t10 : ((s[j].toNat : Int) == 10) = false := byte_no (k := 10) hc
              clear hc
              go_wp2_with fail
              go_roundw
              case rel => exact ⟨j + 1, by omega, by go_num, by rw [HY.out], hkept⟩
              case measure => simp [RowKit.intOf]; omega
          · obtain rfl : j = pp := by omega
            have hcj : (cntNl s j : Int) = (mm : Int) := by have := HCP.out; omega
            have hn' : ¬ (1 : Int) + (mm : Int) < 1 + (mm : Int) := by omega
            rw [hcj]
            have w1 : IntKind.i64.wrap ((j : Int) + (1 + (qq : Int))) = (j : Int) + (1 + (qq : Int)) := IntWalk.i64_in _ (by omega)
            have w2 : IntKind.i64.wrap ((j : Int) + (1 + (qq : Int)) - 1) = ((j + qq : Nat) : Int) := by rw [IntWalk.i64_in _ (by omega)]; omega
            have u1 : ((1 : Int) + (mm : Int) != 1 + (mm : Int)) = false := by simp
            have u2 : ¬ (s.size : Int) < ((j + qq : Nat) : Int) := by omega
            have u3 : ((j + qq : Nat) : Int) ≤ (s.size : Int) := by omega
            by_cases hss : j < s.size
            · have hss' : (j : Int) < (s.size : Int) := by omega
              go_wp2_with fail
              have hx1 : (s.extract 0 (j + qq)).size ≤ 1048576 := by rw [ByteArray.size_extract]; omega
              have C2 := Lib.hid (fun w0 h1 h2 => implFirstWrong_any (s.extract 0 (j + qq)) w0 hx1 h1 h2)
              obtain ⟨⟨xa, xb, xo⟩, hv⟩ : ∃ v, fwV (s.extract 0 (j + qq)) = v := ⟨_, rfl⟩
              unfold fwE at C2
              have hb := HBK.out
              rw [hv] at C2 hb
              dsimp only at C2 hb
              clear hv
              refine (C2.out _ (hSX.out.kept hkept) (hMM.out.kept hkept)).mono ?_
              rintro e wf ⟨rfl, kf⟩
              cases xo with
              | false =>
                go_wp2_with fail
                go_meet
                exact hkept.trans kf
              | true =>
                have hb := hb rfl
                simp only [Prod.mk.injEq, and_true] at hb
                obtain ⟨rfl, rfl⟩ := hb
                have v1 : ((1 : Int) + (qq : Int) != 1 + (qq : Int)) = false := by simp
                go_wp2_with fail
                go_meet
                exact hkept.trans kf
            · have hss' : ¬ (j : Int) < (s.size : Int) := by omega
              go_wp2_with fail
              have hx1 : (s.extract 0 (j + qq)).size ≤ 1048576 := by rw [ByteArray.size_extract]; omega
              have C2 := Lib.hid (fun w0 h1 h2 => implFirstWrong_any (s.extract 0 (j + qq)) w0 hx1 h1 h2)
              obtain ⟨⟨xa, xb, xo⟩, hv⟩ : ∃ v, fwV (s.extract 0 (j + qq)) = v := ⟨_, rfl⟩
              unfold fwE at C2
              have hb := HBK.out
              rw [hv] at C2 hb
              dsimp only at C2 hb
              clear hv
              refine (C2.out _ (hSX.out.kept hkept) (hMM.out.kept hkept)).mono ?_
              rintro e wf ⟨rfl, kf⟩
              cases xo with
              | false =>
                go_wp2_with fail
                go_meet
                exact hkept.trans kf
              | true =>
                have hb := hb rfl
                simp only [Prod.mk.injEq, and_true] at hb
                obtain ⟨rfl, rfl⟩ := hb
                have v1 : ((1 : Int) + (qq : Int) != 1 + (qq : Int)) = false := by simp
                go_wp2_with fail
                go_meet
                exact hkept.trans kf
    case rest =>
      have ky : Kept wB wc := hcut
      clear hcut
      have Kwc := Kwc.trans ky
      have szwc := ky.size
      clear ky
      obtain ⟨wD, rfl⟩ : ∃ zz : World, zz = wc := ⟨_, rfl⟩
      clear HV
      go_wp2_with fail
      with_reducible refine (drawParseItem_any _ _ (H1.out.kept Kwc)).mono ?_
      rintro e w6 ⟨⟨t, ht, rfl⟩, k6⟩
      have Kw6 := Kwc.trans k6
      have szw6 := k6.size
      clear k6
      have ht1 : t.size ≤ 1048576 := by omega
      go_wp2_with fail
      with_reducible refine (implParseItem_any t _ ht1 (HSG.out.kept Kw6) (HMX.out.kept Kw6)).mono ?_
      rintro e w7 ⟨vb, rfl, o7, k7⟩
      have Kw7 := Kw6.trans k7
      have szw7 := k7.size
      clear k7
      obtain ⟨it, hit⟩ : ∃ z, piV t = z := ⟨_, rfl⟩
      obtain ⟨three, hthree⟩ : ∃ z, piB t = z := ⟨_, rfl⟩
      rw [hit] at o7
      rw [hthree]
      have HIT := Lib.hid hit
      have HTH := Lib.hid hthree
      clear hit hthree
      obtain ⟨evb, lvb, rfl, pb, qb, ndb⟩ := o7
      obtain ⟨Ab, cb, rfl, hnb, hmb, _⟩ := own_form pb.1
      obtain ⟨Db, db, rfl, hxb, hyb, _⟩ := own_form qb
      unfold maxLen at hmb hyb
      have HB : Hid (ItemAt w7 (.agg #[.slice Ab it.names.length cb, .slice Db it.marks.length db, .bool it.late]) it) := Lib.hid ⟨_, _, rfl, pb.strs, qb.ints⟩
      clear pb qb ndb
      go_wp2_with fail
      obtain ⟨w8, hw8⟩ : ∃ zz : World, zz = w7.alloc (.cells #[.slice Ab it.names.length cb, .slice Db it.marks.length db, .bool it.late] 34) := ⟨_, rfl⟩
      rw [← hw8]
      have kw8 : Kept w7 w8 := hw8 ▸ (Kept.refl w7).alloc _
      have BB : Hid (Box w8 (w7.heap.size) 34 #[.slice Ab it.names.length cb, .slice Db it.marks.length db, .bool it.late]) := Lib.hid (hw8 ▸ Box.new w7 _ _ _ rfl)
      clear hw8
      have Kw8 := Kw7.trans kw8
      have szw8 := kw8.size
      replace HB := Lib.hid (HB.out.kept kw8)
      clear kw8
      with_reducible refine (specParseItem_any t _ ht1).mono ?_
      rintro e w9 ⟨vc, rfl, o9, k9⟩
      have Kw9 := Kw8.trans k9
      have szw9 := k9.size
      replace HB := Lib.hid (HB.out.kept k9)
      replace BB := Lib.hid (BB.out.kept k9)
      clear k9
      rw [HIT.out] at o9
      rw [HTH.out]
      obtain ⟨evc, lvc, rfl, pc, qc, ndc⟩ := o9
      obtain ⟨Ac, cc, rfl, hnc, hmc, _⟩ := own_form pc.1
      obtain ⟨Dc, dc, rfl, hxc, hyc, _⟩ := own_form qc
      unfold maxLen at hmc hyc
      have HC : Hid (ItemAt w9 (.agg #[.slice Ac it.names.length cc, .slice Dc it.marks.length dc, .bool it.late]) it) := Lib.hid ⟨_, _, rfl, pc.strs, qc.ints⟩
      clear pc qc ndc
      obtain ⟨xBB, yBB⟩ := BB.out.three
      have lBB := BB.out.lt
      go_wp2_with fail
      clear xBB yBB lBB
      obtain ⟨w10, hw10⟩ : ∃ zz : World, zz = w9.alloc (.cells #[.slice Ac it.names.length cc, .slice Dc it.marks.length dc, .bool it.late] 34) := ⟨_, rfl⟩
      rw [← hw10]
      have kw10 : Kept w9 w10 := hw10 ▸ (Kept.refl w9).alloc _
      have BC : Hid (Box w10 (w9.heap.size) 34 #[.slice Ac it.names.length cc, .slice Dc it.marks.length dc, .bool it.late]) := Lib.hid (hw10 ▸ Box.new w9 _ _ _ rfl)
      clear hw10
      have Kw10 := Kw9.trans kw10
      have szw10 := kw10.size
      replace HB := Lib.hid (HB.out.kept kw10)
      replace HC := Lib.hid (HC.out.kept kw10)
      replace BB := Lib.hid (BB.out.kept kw10)
      clear kw10
      with_reducible refine (drawParseItems_any _ _ (H1.out.kept Kw10)).mono ?_
      rintro e w11 ⟨⟨u, hu, rfl⟩, k11⟩
      have Kw11 := Kw10.trans k11
      have szw11 := k11.size
      replace HB := Lib.hid (HB.out.kept k11)
      replace HC := Lib.hid (HC.out.kept k11)
      replace BB := Lib.hid (BB.out.kept k11)
      replace BC := Lib.hid (BC.out.kept k11)
      clear k11
      have hu1 : u.size ≤ 1048576 := by omega
      obtain ⟨xBB, yBB⟩ := BB.out.three
      have lBB := BB.out.lt
      obtain ⟨xBC, yBC⟩ := BC.out.three
      have lBC := BC.out.lt
      go_wp2_with fail
      clear xBB yBB lBB xBC yBC lBC
      with_reducible refine (implParseItems_any u _ hu1 (HSG.out.kept Kw11) (HMX.out.kept Kw11)).mono ?_
      rintro e w12 ⟨vp, S12, rfl, o12, k12⟩
      have Kw12 := Kw11.trans k12
      have szw12 := k12.size
      replace HB := Lib.hid (HB.out.kept k12)
      replace HC := Lib.hid (HC.out.kept k12)
      replace BB := Lib.hid (BB.out.kept k12)
      replace BC := Lib.hid (BC.out.kept k12)
      clear k12
      have HP : Hid (ItemsAt w12 vp (psL u)) := Lib.hid o12.items
      clear o12
      obtain ⟨xBB, yBB⟩ := BB.out.three
      have lBB := BB.out.lt
      obtain ⟨xBC, yBC⟩ := BC.out.three
      have lBC := BC.out.lt
      go_wp2_with fail
      clear xBB yBB lBB xBC yBC lBC
      with_reducible refine (specParseItems_any u _ hu1).mono ?_
      rintro e w13 ⟨vq, T13, rfl, o13, k13⟩
      have Kw13 := Kw12.trans k13
      have szw13 := k13.size
      replace HB := Lib.hid (HB.out.kept k13)
      replace HC := Lib.hid (HC.out.kept k13)
      replace HP := Lib.hid (HP.out.kept k13)
      replace BB := Lib.hid (BB.out.kept k13)
      replace BC := Lib.hid (BC.out.kept k13)
      clear k13
      have HQ : Hid (ItemsAt w13 vq (psL u)) := Lib.hid o13.items
      clear o13
      generalize psB u = five
      have e1 : (three == three) = true := by simp
      have e2 : (five == five) = true := by simp
      obtain ⟨xBB, yBB⟩ := BB.out.three
      have lBB := BB.out.lt
      obtain ⟨xBC, yBC⟩ := BC.out.three
      have lBC := BC.out.lt
      go_wp2_with fail
      clear xBB yBB lBB xBC yBC lBC
      clear BB BC
      obtain ⟨w14, hw14⟩ : ∃ zz : World, zz = w13.alloc (.cells #[.slice Ab it.names.length cb, .slice Db it.marks.length db, .bool it.late] 34) := ⟨_, rfl⟩
      rw [← hw14]
      have kw14 : Kept w13 w14 := hw14 ▸ (Kept.refl w13).alloc _
      have BP : Hid (Box w14 (w13.heap.size) 34 #[.slice Ab it.names.length cb, .slice Db it.marks.length db, .bool it.late]) := Lib.hid (hw14 ▸ Box.new w13 _ _ _ rfl)
      have hszw14 : w14.heap.size = w13.heap.size + 1 := by rw [hw14]; simp
      clear hw14
      have Kw14 := Kw13.trans kw14
      have szw14 := kw14.size
      replace HB := Lib.hid (HB.out.kept kw14)
      replace HC := Lib.hid (HC.out.kept kw14)
      replace HP := Lib.hid (HP.out.kept kw14)
      replace HQ := Lib.hid (HQ.out.kept kw14)
      clear kw14
      obtain ⟨w15, hw15⟩ : ∃ zz : World, zz = w14.alloc (.cells #[.slice Ac it.names.length cc, .slice Dc it.marks.length dc, .bool it.late] 34) := ⟨_, rfl⟩
      rw [← hw15]
      have kw15 : Kept w14 w15 := hw15 ▸ (Kept.refl w14).alloc _
      have BQ : Hid (Box w15 (w13.heap.size + 1) 34 #[.slice Ac it.names.length cc, .slice Dc it.marks.length dc, .bool it.late]) := Lib.hid (hw15 ▸ Box.new w14 _ _ _ hszw14.symm)
      clear hszw14
      clear hw15
      have Kw15 := Kw14.trans kw15
      have szw15 := kw15.size
      replace HB := Lib.hid (HB.out.kept kw15)
      replace HC := Lib.hid (HC.out.kept kw15)
      replace HP := Lib.hid (HP.out.kept kw15)
      replace HQ := Lib.hid (HQ.out.kept kw15)
      replace BP := Lib.hid (BP.out.kept kw15)
      clear kw15
      with_reducible refine (pSameItems_any _ _ [it] _ (items_one1 BP.out HB.out) (items_one1 BQ.out HC.out)).mono ?_
      rintro e w16 ⟨rfl, k16⟩
      have Kw16 := Kw15.trans k16
      have szw16 := k16.size
      replace HB := Lib.hid (HB.out.kept k16)
      replace HC := Lib.hid (HC.out.kept k16)
      replace HP := Lib.hid (HP.out.kept k16)
      replace HQ := Lib.hid (HQ.out.kept k16)
      replace BP := Lib.hid (BP.out.kept k16)
      replace BQ := Lib.hid (BQ.out.kept k16)
      clear k16
      go_wp2_with fail
      with_reducible refine (pSameItems_any _ _ (psL u) _ HP.out HQ.out).mono ?_
      rintro e w17 ⟨rfl, k17⟩
      have Kw17 := Kw16.trans k17
      have szw17 := k17.size
      replace HB := Lib.hid (HB.out.kept k17)
      replace HC := Lib.hid (HC.out.kept k17)
      replace HP := Lib.hid (HP.out.kept k17)
      replace HQ := Lib.hid (HQ.out.kept k17)
      clear k17
      go_wp2_with fail
      go_ret
      exact ⟨rfl, Kw17⟩
end Go.Proofs.YtkkdhmbkpebajaaDoor

/- Arguments opened: a slice of bytes. -/
namespace Go.Proofs.YtkkdhmbkpebajaaDoor
set_option linter.unusedVariables false
set_option linter.unusedSimpArgs false
set_option maxRecDepth 100000
open Go.ChangeShapes Go.WideShapes Go.ChangeAt Go.RowKit

theorem blockB_lt {w : World} {a : Addr} {v : Value} (h : w.cell? a = some v) : a.block < w.heap.size := by
  rcases Nat.lt_or_ge a.block w.heap.size with hlt | hge
  · exact hlt
  · unfold World.cell? at h
    rw [Array.getElem?_eq_none hge] at h
    cases h
theorem addB_at {b o : Nat} (i : Nat) : (⟨b, o, none⟩ : Addr).add i = ⟨b, o + i, none⟩ := by
  unfold Addr.add
  split <;> simp_all
theorem spotB_of {w : World} {x : Addr} {u : Value} (h : w.cell? (x.add 0) = some u) : ∃ b o, x = ⟨b, o, none⟩ := by
  obtain ⟨b, o, s⟩ := x
  have hs : s = none := by simpa [Addr.add] using World.cell?_spot h
  exact ⟨b, o, by rw [hs]⟩
section
variable {H : Type} {enc : TypeId × Value → H} {W : World} {r : Reach} {b0 base : Nat} {spare : Nat → Bool} {held : Bool} {v : Value} {d : DataW H} {p : List MemPlace} {x : DataW H × List MemPlace}
theorem wf_u8 {n : Int} (h : (Lit.int .u8 n).wf = true) : 0 ≤ n ∧ n ≤ 255 := by
  simp [Lit.wf] at h
  have e1 : IntKind.u8.min = 0 := rfl
  have e2 : IntKind.u8.max = 255 := rfl
  omega
theorem open_B (hv : Value.okWide Tryd.prog W r b0 22 v) (h : DataW.Trod enc Tryd.prog W base spare held 22 v d p) : Byts W v := by
  obtain ⟨a0, len0, cap0, rfl⟩ := okWide_slice Tryd.underlying22 hv
  obtain ⟨fuel, hf⟩ := h
  rcases open_ints Tryd.underlying22 Tryd.underlying5 (by kernel_rfl) hf with ⟨hcs, _⟩ | ⟨ad, len, cap, zs, hcs, _, hl, hm, hz, _, hcell, hwz⟩
  · injection hcs with hcs _
    injection hcs with e1 e2 e3
    subst e1 e2 e3
    exact ⟨none, 0, 0, rfl, Nat.le_refl _, Nat.zero_le _, fun h => absurd h (by omega)⟩
  · injection hcs with hcs _
    injection hcs with e1 e2 e3
    subst e1 e2 e3
    refine ⟨_, _, _, rfl, hl, hm, fun hn => ?_⟩
    have hge : len0 ≤ zs.length := by rw [hz]; split <;> omega
    obtain ⟨b, o, rfl⟩ := spotB_of (hcell 0 (by omega))
    have h0 := hcell 0 (by omega)
    rw [addB_at] at h0
    refine ⟨b, o, rfl, blockB_lt h0, fun j hj => ?_⟩
    have hc := hcell j (by omega)
    rw [addB_at] at hc
    have hw := wf_u8 (hwz _ (List.getElem_mem (show j < zs.length by omega)))
    refine ⟨zs[j]'(by omega), hw.1, hw.2, ?_⟩
    rw [hc, List.getD_eq_getElem?_getD, List.getElem?_eq_getElem (by omega)]
    rfl
end
end Go.Proofs.YtkkdhmbkpebajaaDoor
