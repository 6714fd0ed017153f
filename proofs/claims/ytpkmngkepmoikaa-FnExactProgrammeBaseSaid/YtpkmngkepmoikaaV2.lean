/- Which codes are valid, the reference's reading. -/
import Derived.Test.YtpkmngkepmoikaaV
import Derived.Test.YtpkmngkepmoikaaZ
namespace Go.Proofs.Ytpkmngkepmoikaa
set_option linter.unusedVariables false
set_option linter.unusedSimpArgs false
open Go.RowKit

set_option maxHeartbeats 1000000 in
theorem cdElement_any (v : Value) (x : ElemD) (w : World) (h : ElemAt w v x) :
    Calls Try.prog 65 #[v] w fun e w' => e = .returned (.bool (elemB x)) ∧ Kept w w' := by
  obtain ⟨rfl, hs⟩ := h
  by_cases e1 : nameB x.name = true <;> by_cases e2 : inB x.family 0 4 = true <;> by_cases e3 : inB x.level 0 4 = true
  all_goals
    try simp only [Bool.not_eq_true] at e1
    try simp only [Bool.not_eq_true] at e2
    try simp only [Bool.not_eq_true] at e3
    go_enter Try.func65, Try.ntmps65
    go_wp2_with (first | (go_at_call 91; refine (cdName_any _ _ hs).mono ?_; rintro e w' ⟨rfl, rfl⟩) | (go_at_call 66; refine (l1In_any _ _ _ _).mono ?_; rintro e w' ⟨rfl, rfl⟩))
    go_ret
    exact ⟨ret_bool (by unfold elemB; simp only [e1, e2, e3, Bool.true_and, Bool.and_true, Bool.false_and, Bool.and_false]), (Kept.refl _).alloc _⟩
theorem cdElement_is (b : Bool) (v : Value) (x : ElemD) (w : World) (h : ElemAt w v x) (hb : elemB x = b) :
    Calls Try.prog 65 #[v] w fun e w' => e = .returned (.bool b) ∧ Kept w w' := hb ▸ cdElement_any v x w h
theorem codeB_parts (x : CodeD) : codeB x = (inB x.elems.length 1 24 && (x.limits.length == 5) && x.limits.all (inB · 0 9) && inB x.repeats 1 3 && inB x.bonus 0 20 && inB x.keeps 50 100 && inB x.fall 0 500 && elemsB x.elems) := by
  unfold codeB headB restB
  simp only [Bool.and_assoc]
set_option maxRecDepth 100000 in
set_option maxHeartbeats 2000000 in
theorem cdGood_any (v : Value) (x : CodeD) (w : World) (h : CodeAt w v x) :
    Calls Try.prog 35 #[v] w fun e w' => e = .returned (.bool (codeB x)) ∧ Kept w w' := by
  obtain ⟨nv, mv, rfl, q1, q2⟩ := h
  obtain ⟨A, c, rfl, hnc, hcm, hl⟩ := q1.1.out
  obtain ⟨A2, c2, rfl, hnc2, hcm2, _⟩ := q2.out
  unfold maxLen at hcm hcm2
  have HL := Lib.hid hl
  have HS := Lib.hid q1.2
  have H2 := Lib.hid q2
  clear q1 q2 hl
  go_enter Try.func35, Try.ntmps35
  go_wp2_with fail
  have B0 := Box.new w w.heap.size 32 #[.slice A x.elems.length c, .slice A2 x.limits.length c2, .int .i64 x.repeats, .int .i64 x.bonus, .int .i64 x.keeps, .int .i64 x.fall] rfl
  have K0 : Kept w (w.alloc (.cells #[.slice A x.elems.length c, .slice A2 x.limits.length c2, .int .i64 x.repeats, .int .i64 x.bonus, .int .i64 x.keeps, .int .i64 x.fall] 32)) := (Kept.refl w).alloc _
  generalize w.alloc (.cells #[.slice A x.elems.length c, .slice A2 x.limits.length c2, .int .i64 x.repeats, .int .i64 x.bonus, .int .i64 x.keeps, .int .i64 x.fall] 32) = w0 at *
  go_loopw [8] (fun i wr => ∃ k : Nat, k ≤ x.elems.length ∧ i = .int .i64 k ∧ (List.range k).all (stepB x.elems) = true ∧ Kept w0 wr) (fun i _ => x.elems.length - (intOf i).toNat)
  case atStart => exact ⟨0, Nat.zero_le _, rfl, rfl, Kept.refl _⟩
  case round =>
    obtain ⟨k, hk, rfl, ha, hkept⟩ := hrel
    have HB := Lib.hid ha
    clear ha
    by_cases hlt : k < x.elems.length
    · obtain ⟨b, o, y, rfl, hb, h2, q0, q1, q2, q3⟩ := elems_at (HL.out.kept (K0.trans hkept)) hlt
      have hys := HS.out y (List.mem_of_getElem? h2)
      have HZ := Lib.hid h2
      clear h2
      have KA : Kept wr (wr.alloc (.cells #[.string y.name, .int .i64 y.family, .int .i64 y.level, .int .i64 y.base] 36)) := (Kept.refl wr).alloc _
      have BY := Box.new wr wr.heap.size 36 #[.string y.name, .int .i64 y.family, .int .i64 y.level, .int .i64 y.base] rfl
      go_wp2_with fail
      replace BY : Box (wr.alloc (.cells #[.string y.name, .int .i64 y.family, .int .i64 y.level, .int .i64 y.base] 36)).drew wr.heap.size 36 #[.string y.name, .int .i64 y.family, .int .i64 y.level, .int .i64 y.base] := BY
      have KD := KA.drew
      replace B0 := B0.kept (hkept.trans KD)
      clear q0 q1 q2 q3
      have bc := fun s : After (wr.alloc (.cells #[.string y.name, .int .i64 y.family, .int .i64 y.level, .int .i64 y.base] 36)).drew => (BY.kept s.kept).four.1
      have kc := fun s : After (wr.alloc (.cells #[.string y.name, .int .i64 y.family, .int .i64 y.level, .int .i64 y.base] 36)).drew => (B0.kept s.kept).six.1.1
      by_cases he : elemB y = true
      case neg =>
        simp only [Bool.not_eq_true] at he
        have HE := Lib.hid (codeB_elems (range_not hlt (stepB_elem HZ.out he)))
        refine region_after (by kernel_rfl) (by kernel_rfl) ?_
        repeat (go_big_quiet_step ((go_at_call 65; exact after_of (cdElement_is false _ y _ (ElemAt.mk y _ hys) he))))
        refine wpQuiet_nil ?_
        intro wq hw'
        obtain ⟨⟨_, kq⟩, hw''⟩ := hw'
        subst hw''
        try dsimp only
        go_wp2_with fail
        go_ret
        exact ⟨ret_bool HE.out.symm, ((K0.trans hkept).trans KD).trans kq⟩
      have HE := Lib.hid he
      by_cases hk0 : k = 0
      · have HK := Lib.hid hk0
        have hd : decide ((0 : Int) < (k : Int)) = false := by simp; omega
        have hd2 : decide (0 < k) = false := by simp; omega
        clear hk0
        refine region_after (by kernel_rfl) (by kernel_rfl) ?_
        repeat (go_big_quiet_step ((go_at_call 65; exact after_of (cdElement_is true _ y _ (ElemAt.mk y _ hys) HE.out))))
        refine wpQuiet_nil ?_
        intro wq hw'
        obtain ⟨⟨_, kq⟩, hw''⟩ := hw'
        subst hw''
        try dsimp only
        go_wp2_with fail
        go_roundw
        case rel => exact ⟨k + 1, by omega, by go_num, range_snoc HB.out (by have h := HZ.out; rw [HK.out] at h ⊢; rw [stepB_zero h]; exact HE.out), (hkept.trans KD).trans kq⟩
        case measure => simp [intOf]; omega
      · obtain ⟨j, hj⟩ : ∃ j, k = j + 1 := ⟨k - 1, by omega⟩
        obtain ⟨b', o', p, eA, hb', h2', q0', q1', q2', q3'⟩ := elems_at (HL.out.kept ((K0.trans hkept).trans KD)) (k := j) (by omega)
        injection eA with eA
        injection eA with eA1 eA2 eA3
        subst eA1 eA2
        have f3 : (j : Int) < (x.elems.length : Int) := by omega
        have f4 : (0 : Int) < (k : Int) := by omega
        have f5 : 0 < k := by omega
        have f1 : ((k : Int) - 1) = (j : Int) := by omega
        have f2 : IntKind.i64.wrap ((k : Int) - 1) = (j : Int) := by rw [f1]; exact IntWalk.i64_in _ (by omega)
        have HST := Lib.hid (show stepB x.elems k = (elemB y && Op.bytesLess p.name.toList y.name.toList) from by have h := HZ.out; rw [hj] at h ⊢; exact stepB_succ h h2')
        have pc := After.cell q0' hb'
        clear h2' eA3 hj hk0 q0' q1' q2' q3'
        by_cases hless : Op.bytesLess p.name.toList y.name.toList = true
        · refine region_after (by kernel_rfl) (by kernel_rfl) ?_
          repeat (go_big_quiet_step ((go_at_call 65; exact after_of (cdElement_is true _ y _ (ElemAt.mk y _ hys) HE.out))))
          refine wpQuiet_nil ?_
          intro wq hw'
          obtain ⟨⟨_, kq⟩, hw''⟩ := hw'
          subst hw''
          try dsimp only
          go_wp2_with fail
          go_roundw
          case rel => exact ⟨k + 1, by omega, by go_num, range_snoc HB.out (by rw [HST.out, HE.out, hless]; rfl), (hkept.trans KD).trans kq⟩
          case measure => simp [intOf]; omega
        · simp only [Bool.not_eq_true] at hless
          have HF := Lib.hid (codeB_elems (range_not hlt (show stepB x.elems k = false by rw [HST.out, HE.out, hless]; rfl)))
          refine region_after (by kernel_rfl) (by kernel_rfl) ?_
          repeat (go_big_quiet_step ((go_at_call 65; exact after_of (cdElement_is true _ y _ (ElemAt.mk y _ hys) HE.out))))
          refine wpQuiet_nil ?_
          intro wq hw'
          obtain ⟨⟨_, kq⟩, hw''⟩ := hw'
          subst hw''
          try dsimp only
          go_wp2_with fail
          go_ret
          exact ⟨ret_bool HF.out.symm, ((K0.trans hkept).trans KD).trans kq⟩
    · obtain rfl : k = x.elems.length := by omega
      have HEB := Lib.hid (show codeB x = (inB x.elems.length 1 24 && (x.limits.length == 5) && x.limits.all (inB · 0 9) && inB x.repeats 1 3 && inB x.bonus 0 20 && inB x.keeps 50 100 && inB x.fall 0 500) from by
        rw [codeB_parts, show elemsB x.elems = true from HB.out, Bool.and_true])
      obtain ⟨x0, y0⟩ := (B0.kept hkept).six
      have hk2 := K0.trans hkept
      by_cases g1 : inB x.elems.length 1 24 = true
      case neg =>
        simp only [Bool.not_eq_true] at g1
        go_wp2_with (go_at_call 66; refine (l1In_any _ _ _ _).mono ?_; rintro e w' ⟨rfl, rfl⟩)
        go_ret
        exact ⟨ret_bool (by rw [HEB.out, g1]; rfl), hk2⟩
      by_cases g2' : x.limits.length = 5
      case neg =>
        have g2 : ((x.limits.length : Int) == 5) = false := beq_eq_false_iff_ne.2 (by omega)
        have G2 := Lib.hid (show (x.limits.length == 5) = false from beq_eq_false_iff_ne.2 g2')
        clear g2'
        go_wp2_with (go_at_call 66; refine (l1In_any _ _ _ _).mono ?_; rintro e w' ⟨rfl, rfl⟩)
        go_ret
        exact ⟨ret_bool (by rw [HEB.out, g1, G2.out]; rfl), hk2⟩
      have g2 : ((x.limits.length : Int) == 5) = true := by simp [g2']
      have G2 := Lib.hid (show (x.limits.length == 5) = true from by simp [g2'])
      clear g2'
      by_cases g3 : x.limits.all (inB · 0 9) = true
      case neg =>
        simp only [Bool.not_eq_true] at g3
        go_wp2_with (first | (go_at_call 66; refine (l1In_any _ _ _ _).mono ?_; rintro e w' ⟨rfl, rfl⟩) | (go_at_call 67; refine (l1All_any _ _ _ _ _ (H2.out.kept hk2)).mono ?_; rintro e w' ⟨rfl, rfl⟩))
        go_ret
        exact ⟨ret_bool (by rw [HEB.out, g1, G2.out, g3]; rfl), hk2⟩
      by_cases g4 : inB x.repeats 1 3 = true
      case neg =>
        simp only [Bool.not_eq_true] at g4
        go_wp2_with (first | (go_at_call 66; refine (l1In_any _ _ _ _).mono ?_; rintro e w' ⟨rfl, rfl⟩) | (go_at_call 67; refine (l1All_any _ _ _ _ _ (H2.out.kept hk2)).mono ?_; rintro e w' ⟨rfl, rfl⟩))
        go_ret
        exact ⟨ret_bool (by rw [HEB.out, g1, G2.out, g3, g4]; rfl), hk2⟩
      by_cases g5 : inB x.bonus 0 20 = true
      case neg =>
        simp only [Bool.not_eq_true] at g5
        go_wp2_with (first | (go_at_call 66; refine (l1In_any _ _ _ _).mono ?_; rintro e w' ⟨rfl, rfl⟩) | (go_at_call 67; refine (l1All_any _ _ _ _ _ (H2.out.kept hk2)).mono ?_; rintro e w' ⟨rfl, rfl⟩))
        go_ret
        exact ⟨ret_bool (by rw [HEB.out, g1, G2.out, g3, g4, g5]; rfl), hk2⟩
      by_cases g6 : inB x.keeps 50 100 = true
      case neg =>
        simp only [Bool.not_eq_true] at g6
        go_wp2_with (first | (go_at_call 66; refine (l1In_any _ _ _ _).mono ?_; rintro e w' ⟨rfl, rfl⟩) | (go_at_call 67; refine (l1All_any _ _ _ _ _ (H2.out.kept hk2)).mono ?_; rintro e w' ⟨rfl, rfl⟩))
        go_ret
        exact ⟨ret_bool (by rw [HEB.out, g1, G2.out, g3, g4, g5, g6]; rfl), hk2⟩
      go_wp2_with (first | (go_at_call 66; refine (l1In_any _ _ _ _).mono ?_; rintro e w' ⟨rfl, rfl⟩) | (go_at_call 67; refine (l1All_any _ _ _ _ _ (H2.out.kept hk2)).mono ?_; rintro e w' ⟨rfl, rfl⟩))
      go_ret
      exact ⟨ret_bool (by rw [HEB.out, g1, G2.out, g3, g4, g5, g6]; rfl), hk2⟩
end Go.Proofs.Ytpkmngkepmoikaa
