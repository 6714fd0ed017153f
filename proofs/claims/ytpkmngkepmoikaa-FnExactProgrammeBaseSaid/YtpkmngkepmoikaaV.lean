/- Which codes are valid. -/
import Derived.Test.YtpkmngkepmoikaaH
import Derived.Deep.QuietTactic
import Derived.BigQuiet
import Derived.Deep.RegionHeld3
namespace Go.Proofs.Ytpkmngkepmoikaa
set_option linter.unusedVariables false
set_option linter.unusedSimpArgs false
open Go.RowKit

def elemB (x : ElemD) : Bool := nameB x.name && inB x.family 0 4 && inB x.level 0 4 && inB x.base 1 2000
def stepB (es : List ElemD) (k : Nat) : Bool :=
  match es[k]? with
  | none => true
  | some x => elemB x && (k == 0 || match es[k - 1]? with | none => false | some p => Op.bytesLess p.name.toList x.name.toList)
def headB (c : CodeD) : Bool := inB c.elems.length 1 24 && (c.limits.length == 5) && c.limits.all (inB · 0 9)
def restB (c : CodeD) : Bool := inB c.repeats 1 3 && inB c.bonus 0 20 && inB c.keeps 50 100 && inB c.fall 0 500
def elemsB (es : List ElemD) : Bool := (List.range es.length).all (stepB es)
def codeB (c : CodeD) : Bool := headB c && restB c && elemsB c.elems
theorem range_snoc {p : Nat → Bool} {k : Nat} (h : (List.range k).all p = true) (hk : p k = true) : (List.range (k + 1)).all p = true := by
  rw [List.range_succ, List.all_append, h]
  simp [hk]
theorem range_not {p : Nat → Bool} {k n : Nat} (h : k < n) (hk : p k = false) : (List.range n).all p = false := by
  rw [List.all_eq_false]
  exact ⟨k, by simpa using h, by simp [hk]⟩
theorem stepB_zero {es : List ElemD} {x : ElemD} (h : es[0]? = some x) : stepB es 0 = elemB x := by
  unfold stepB
  rw [h]
  simp
theorem stepB_succ {es : List ElemD} {k : Nat} {x p : ElemD} (h : es[k + 1]? = some x) (hp : es[k]? = some p) : stepB es (k + 1) = (elemB x && Op.bytesLess p.name.toList x.name.toList) := by
  unfold stepB
  rw [h]
  simp [hp]
theorem stepB_elem {es : List ElemD} {k : Nat} {x : ElemD} (h : es[k]? = some x) (hx : elemB x = false) : stepB es k = false := by
  unfold stepB
  rw [h]
  simp [hx]
theorem codeB_head {c : CodeD} (h : headB c = false) : codeB c = false := by unfold codeB; rw [h]; rfl
theorem codeB_rest {c : CodeD} (h : restB c = false) : codeB c = false := by unfold codeB; rw [h, Bool.and_false]; rfl
theorem codeB_elems {c : CodeD} (h : elemsB c.elems = false) : codeB c = false := by unfold codeB; rw [h, Bool.and_false]
theorem isFamily_any (n : Int) (w : World) :
    Calls Try.prog 72 #[.int .i64 n] w fun e w' => e = .returned (.bool (inB n 0 4)) ∧ w = w' := by
  go_enter Try.func72, Try.ntmps72
  go_wp2_with (go_at_call 69; refine (within_any _ _ _ _).mono ?_; rintro e w' ⟨rfl, rfl⟩)
  go_ret
  exact ⟨rfl, rfl⟩
set_option maxRecDepth 100000 in
set_option maxHeartbeats 2000000 in
theorem isCode_any (v : Value) (x : CodeD) (w : World) (h : CodeAt w v x) :
    Calls Try.prog 39 #[v] w fun e w' => e = .returned (.bool (codeB x)) ∧ Kept w w' := by
  obtain ⟨nv, mv, rfl, q1, q2⟩ := h
  obtain ⟨A, c, rfl, hnc, hcm, hl⟩ := q1.1.out
  obtain ⟨A2, c2, rfl, hnc2, hcm2, _⟩ := q2.out
  unfold maxLen at hcm hcm2
  have HL := Lib.hid hl
  have HS := Lib.hid q1.2
  have H2 := Lib.hid q2
  clear q1 q2 hl
  go_enter Try.func39, Try.ntmps39
  by_cases g1 : inB x.elems.length 1 24 = true
  case neg =>
    simp only [Bool.not_eq_true] at g1
    go_wp2_with (go_at_call 69; refine (within_any _ _ _ _).mono ?_; rintro e w' ⟨rfl, rfl⟩)
    go_ret
    exact ⟨ret_bool (codeB_head (by unfold headB; rw [g1]; rfl)).symm, (Kept.refl _).alloc _⟩
  by_cases g2' : x.limits.length = 5
  case neg =>
    have g2 : ((x.limits.length : Int) != 5) = true := bne_iff_ne.2 (by omega)
    go_wp2_with (go_at_call 69; refine (within_any _ _ _ _).mono ?_; rintro e w' ⟨rfl, rfl⟩)
    go_ret
    exact ⟨ret_bool (codeB_head (by unfold headB; rw [g1]; simp [g2'])).symm, (Kept.refl _).alloc _⟩
  have g2 : ((x.limits.length : Int) != 5) = false := by simp [g2']
  have G2 := Lib.hid g2'
  clear g2'
  by_cases g3 : x.limits.all (inB · 0 9) = true
  case neg =>
    simp only [Bool.not_eq_true] at g3
    go_wp2_with (first | (go_at_call 69; refine (within_any _ _ _ _).mono ?_; rintro e w' ⟨rfl, rfl⟩) | (go_at_call 70; refine (allWithin_any _ _ _ _ _ (H2.out.kept ((Kept.refl w).alloc _))).mono ?_; rintro e w' ⟨rfl, rfl⟩))
    go_ret
    exact ⟨ret_bool (codeB_head (by unfold headB; rw [g1, g3]; simp [G2.out])).symm, (Kept.refl _).alloc _⟩
  have HH := Lib.hid (show headB x = true from by unfold headB; rw [g1, g3]; simp [G2.out])
  by_cases g4 : inB x.repeats 1 3 = true
  case neg =>
    simp only [Bool.not_eq_true] at g4
    go_wp2_with (first | (go_at_call 69; refine (within_any _ _ _ _).mono ?_; rintro e w' ⟨rfl, rfl⟩) | (go_at_call 70; refine (allWithin_any _ _ _ _ _ (H2.out.kept ((Kept.refl w).alloc _))).mono ?_; rintro e w' ⟨rfl, rfl⟩))
    go_ret
    exact ⟨ret_bool (codeB_rest (by unfold restB; rw [g4]; rfl)).symm, (Kept.refl _).alloc _⟩
  by_cases g5 : inB x.bonus 0 20 = true
  case neg =>
    simp only [Bool.not_eq_true] at g5
    go_wp2_with (first | (go_at_call 69; refine (within_any _ _ _ _).mono ?_; rintro e w' ⟨rfl, rfl⟩) | (go_at_call 70; refine (allWithin_any _ _ _ _ _ (H2.out.kept ((Kept.refl w).alloc _))).mono ?_; rintro e w' ⟨rfl, rfl⟩))
    go_ret
    exact ⟨ret_bool (codeB_rest (by unfold restB; rw [g4, g5]; rfl)).symm, (Kept.refl _).alloc _⟩
  by_cases g6 : inB x.keeps 50 100 = true
  case neg =>
    simp only [Bool.not_eq_true] at g6
    go_wp2_with (first | (go_at_call 69; refine (within_any _ _ _ _).mono ?_; rintro e w' ⟨rfl, rfl⟩) | (go_at_call 70; refine (allWithin_any _ _ _ _ _ (H2.out.kept ((Kept.refl w).alloc _))).mono ?_; rintro e w' ⟨rfl, rfl⟩))
    go_ret
    exact ⟨ret_bool (codeB_rest (by unfold restB; rw [g4, g5, g6]; rfl)).symm, (Kept.refl _).alloc _⟩
  by_cases g7 : inB x.fall 0 500 = true
  case neg =>
    simp only [Bool.not_eq_true] at g7
    go_wp2_with (first | (go_at_call 69; refine (within_any _ _ _ _).mono ?_; rintro e w' ⟨rfl, rfl⟩) | (go_at_call 70; refine (allWithin_any _ _ _ _ _ (H2.out.kept ((Kept.refl w).alloc _))).mono ?_; rintro e w' ⟨rfl, rfl⟩))
    go_ret
    exact ⟨ret_bool (codeB_rest (by unfold restB; rw [g4, g5, g6, g7]; rfl)).symm, (Kept.refl _).alloc _⟩
  have HR : Hid (restB x = true) := by unfold restB; rw [g4, g5, g6, g7]; rfl
  go_wp2_with (first | (go_at_call 69; refine (within_any _ _ _ _).mono ?_; rintro e w' ⟨rfl, rfl⟩) | (go_at_call 70; refine (allWithin_any _ _ _ _ _ (H2.out.kept ((Kept.refl w).alloc _))).mono ?_; rintro e w' ⟨rfl, rfl⟩))
  clear g1 g2 g3 g4 g5 g6 g7
  have B0 := Box.new w w.heap.size 32 #[.slice A x.elems.length c, .slice A2 x.limits.length c2, .int .i64 x.repeats, .int .i64 x.bonus, .int .i64 x.keeps, .int .i64 x.fall] rfl
  have K0 : Kept w (w.alloc (.cells #[.slice A x.elems.length c, .slice A2 x.limits.length c2, .int .i64 x.repeats, .int .i64 x.bonus, .int .i64 x.keeps, .int .i64 x.fall] 32)) := (Kept.refl w).alloc _
  generalize w.alloc (.cells #[.slice A x.elems.length c, .slice A2 x.limits.length c2, .int .i64 x.repeats, .int .i64 x.bonus, .int .i64 x.keeps, .int .i64 x.fall] 32) = w0 at *
  go_loopw [47] (fun i wr => ∃ k : Nat, k ≤ x.elems.length ∧ i = .int .i64 k ∧ (List.range k).all (stepB x.elems) = true ∧ Kept w0 wr) (fun i _ => x.elems.length - (intOf i).toNat)
  case atStart => exact ⟨0, Nat.zero_le _, rfl, rfl, Kept.refl _⟩
  case round =>
    obtain ⟨k, hk, rfl, ha, hkept⟩ := hrel
    have HB := Lib.hid ha
    clear ha
    by_cases hlt : k < x.elems.length
    · obtain ⟨b, o, y, rfl, hb, h2, q0, q1, q2, q3⟩ := elems_at (HL.out.kept (K0.trans hkept)) hlt
      have hys := HS.out y (List.mem_of_getElem? h2)
      have HZ := Lib.hid h2
      clear h2
      by_cases he : elemB y = true
      case neg =>
        simp only [Bool.not_eq_true] at he
        have HE : Hid (codeB x = false) := codeB_elems (range_not hlt (stepB_elem HZ.out he))
        unfold elemB at he
        by_cases e1 : nameB y.name = true <;> by_cases e2 : inB y.family 0 4 = true <;> by_cases e3 : inB y.level 0 4 = true <;> by_cases e4 : inB y.base 1 2000 = true
        · simp [e1, e2, e3, e4] at he
        all_goals
          simp only [Bool.not_eq_true] at e1 e2 e3 e4
          clear he
          go_wp2_with (first | (go_at_call 71; refine (isElementName_any _ _ hys).mono ?_; rintro e w' ⟨rfl, rfl⟩) | (go_at_call 72; refine (isFamily_any _ _).mono ?_; rintro e w' ⟨rfl, rfl⟩) | (go_at_call 69; refine (within_any _ _ _ _).mono ?_; rintro e w' ⟨rfl, rfl⟩))
          go_ret
          exact ⟨ret_bool HE.out.symm, (K0.trans hkept).alloc _⟩
      have he' := he
      unfold elemB at he'
      simp only [Bool.and_eq_true] at he'
      obtain ⟨⟨⟨e1, e2⟩, e3⟩, e4⟩ := he'
      have HE := Lib.hid he
      clear he
      have KA : Kept wr (wr.alloc (.cells #[.string y.name, .int .i64 y.family, .int .i64 y.level, .int .i64 y.base] 36)) := (Kept.refl wr).alloc _
      obtain ⟨x0, y0⟩ := (B0.kept (hkept.trans KA)).six
      by_cases hk0 : k = 0
      · have HK := Lib.hid hk0
        have hd : decide ((0 : Int) < (k : Int)) = false := by simp; omega
        have hd2 : decide (0 < k) = false := by simp; omega
        clear hk0
        go_wp2_with (first | (go_at_call 71; refine (isElementName_any _ _ hys).mono ?_; rintro e w' ⟨rfl, rfl⟩) | (go_at_call 72; refine (isFamily_any _ _).mono ?_; rintro e w' ⟨rfl, rfl⟩) | (go_at_call 69; refine (within_any _ _ _ _).mono ?_; rintro e w' ⟨rfl, rfl⟩))
        go_quiet (fail)
        go_wp2_with fail
        go_roundw
        case rel => exact ⟨k + 1, by omega, by go_num, range_snoc HB.out (by have h := HZ.out; rw [HK.out] at h ⊢; rw [stepB_zero h]; exact HE.out), (hkept.trans KA).drewN _⟩
        case measure => simp [intOf]; omega
      · obtain ⟨j, hj⟩ : ∃ j, k = j + 1 := ⟨k - 1, by omega⟩
        obtain ⟨b', o', p, eA, hb', h2', q0', q1', q2', q3'⟩ := elems_at (HL.out.kept ((K0.trans hkept).trans KA)) (k := j) (by omega)
        injection eA with eA
        injection eA with eA1 eA2 eA3
        subst eA1 eA2
        have HP := Lib.hid h2'
        have HJ := Lib.hid hj
        have f3 : (j : Int) < (x.elems.length : Int) := by omega
        have f4 : (0 : Int) < (k : Int) := by omega
        have f5 : 0 < k := by omega
        have f1 : ((k : Int) - 1) = (j : Int) := by omega
        have f2 : IntKind.i64.wrap ((k : Int) - 1) = (j : Int) := by rw [f1]; exact IntWalk.i64_in _ (by omega)
        have HST : Hid (stepB x.elems k = (elemB y && Op.bytesLess p.name.toList y.name.toList)) := by have h := HZ.out; rw [hj] at h ⊢; exact stepB_succ h h2'
        clear h2' eA3 hj hk0
        by_cases hless : Op.bytesLess p.name.toList y.name.toList = true
        · go_wp2_with (first | (go_at_call 71; refine (isElementName_any _ _ hys).mono ?_; rintro e w' ⟨rfl, rfl⟩) | (go_at_call 72; refine (isFamily_any _ _).mono ?_; rintro e w' ⟨rfl, rfl⟩) | (go_at_call 69; refine (within_any _ _ _ _).mono ?_; rintro e w' ⟨rfl, rfl⟩))
          go_quiet (fail)
          go_wp2_with fail
          go_roundw
          case rel => exact ⟨k + 1, by omega, by go_num, range_snoc HB.out (by rw [HST.out, HE.out, hless]; rfl), (hkept.trans KA).drewN _⟩
          case measure => simp [intOf]; omega
        · simp only [Bool.not_eq_true] at hless
          have HF : Hid (codeB x = false) := codeB_elems (range_not hlt (by rw [HST.out, HE.out, hless]; rfl))
          go_wp2_with (first | (go_at_call 71; refine (isElementName_any _ _ hys).mono ?_; rintro e w' ⟨rfl, rfl⟩) | (go_at_call 72; refine (isFamily_any _ _).mono ?_; rintro e w' ⟨rfl, rfl⟩) | (go_at_call 69; refine (within_any _ _ _ _).mono ?_; rintro e w' ⟨rfl, rfl⟩))
          go_quiet (fail)
          go_wp2_with fail
          go_ret
          exact ⟨ret_bool HF.out.symm, ((K0.trans hkept).trans KA).drewN _⟩
    · obtain rfl : k = x.elems.length := by omega
      go_wp2_with fail
      go_ret
      exact ⟨ret_bool (by unfold codeB elemsB; rw [HH.out, HR.out, HB.out]; rfl), K0.trans hkept⟩
end Go.Proofs.Ytpkmngkepmoikaa
