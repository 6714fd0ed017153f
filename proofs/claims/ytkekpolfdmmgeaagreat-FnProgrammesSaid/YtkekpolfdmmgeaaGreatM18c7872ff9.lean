/- Contracts of functions that the proof leans on. No condition. -/
import Derived.Test.YtkekpolfdmmgeaaGreatM16cb4615c6
import Derived.Deep.DeepCutAuto
import Derived.Deep.RegionHeld3
import Derived.StillTailTactics
/- Which codes are valid, the reference's reading. -/
namespace Go.Proofs.YtkekpolfdmmgeaaGreat
set_option linter.unusedVariables false
set_option linter.unusedSimpArgs false
open Go.RowKit

set_option maxHeartbeats 1000000 in
theorem cdElement_any (v : Value) (x : ElemD) (w : World) (h : ElemAt w v x) :
    Calls Tryz.prog 89 #[v] w fun e w' => e = .returned (.bool (elemB x)) ∧ Kept w w' := by
  obtain ⟨rfl, hs⟩ := h
  by_cases e1 : nameB x.name = true <;> by_cases e2 : inB x.family 0 4 = true <;> by_cases e3 : inB x.level 0 4 = true
  all_goals
    try simp only [Bool.not_eq_true] at e1
    try simp only [Bool.not_eq_true] at e2
    try simp only [Bool.not_eq_true] at e3
    go_enter Tryz.func89, Tryz.ntmps89
    go_wp2_with (first | (go_at_call 43; refine (cdName_any _ _ hs).mono ?_; rintro e w' ⟨rfl, rfl⟩) | (go_at_call 32; refine (l1In_any _ _ _ _).mono ?_; rintro e w' ⟨rfl, rfl⟩))
    go_ret
    exact ⟨ret_bool (by unfold elemB; simp only [e1, e2, e3, Bool.true_and, Bool.and_true, Bool.false_and, Bool.and_false]), (Kept.refl _).alloc _⟩
theorem cdElement_is (b : Bool) (v : Value) (x : ElemD) (w : World) (h : ElemAt w v x) (hb : elemB x = b) :
    Calls Tryz.prog 89 #[v] w fun e w' => e = .returned (.bool b) ∧ Kept w w' := hb ▸ cdElement_any v x w h
theorem codeB_parts (x : CodeD) : codeB x = (inB x.elems.length 1 24 && (x.limits.length == 5) && x.limits.all (inB · 0 9) && inB x.repeats 1 3 && inB x.bonus 0 20 && inB x.keeps 50 100 && inB x.fall 0 500 && elemsB x.elems) := by
  unfold codeB headB restB
  simp only [Bool.and_assoc]
set_option maxRecDepth 100000 in
set_option maxHeartbeats 2000000 in
theorem cdGood_any (v : Value) (x : CodeD) (w : World) (h : CodeAt w v x) :
    Calls Tryz.prog 77 #[v] w fun e w' => e = .returned (.bool (codeB x)) ∧ Kept w w' := by
  obtain ⟨nv, mv, rfl, q1, q2⟩ := h
  obtain ⟨A, c, rfl, hnc, hcm, hl⟩ := q1.1.out
  obtain ⟨A2, c2, rfl, hnc2, hcm2, _⟩ := q2.out
  unfold maxLen at hcm hcm2
  have HL := Lib.hid hl
  have HS := Lib.hid q1.2
  have H2 := Lib.hid q2
  clear q1 q2 hl
  go_enter Tryz.func77, Tryz.ntmps77
  go_wp2_with fail
  have B0 := Box.new w w.heap.size 26 #[.slice A x.elems.length c, .slice A2 x.limits.length c2, .int .i64 x.repeats, .int .i64 x.bonus, .int .i64 x.keeps, .int .i64 x.fall] rfl
  have K0 : Kept w (w.alloc (.cells #[.slice A x.elems.length c, .slice A2 x.limits.length c2, .int .i64 x.repeats, .int .i64 x.bonus, .int .i64 x.keeps, .int .i64 x.fall] 26)) := (Kept.refl w).alloc _
  generalize w.alloc (.cells #[.slice A x.elems.length c, .slice A2 x.limits.length c2, .int .i64 x.repeats, .int .i64 x.bonus, .int .i64 x.keeps, .int .i64 x.fall] 26) = w0 at *
  go_loopw [8] (fun i wr => ∃ k : Nat, k ≤ x.elems.length ∧ i = .int .i64 k ∧ (List.range k).all (stepB x.elems) = true ∧ Kept w0 wr) (fun i _ => x.elems.length - (intOf i).toNat)
  case atStart => exact ⟨0, Nat.zero_le _, rfl, rfl, Kept.refl _⟩
  case round =>
    obtain ⟨k, hk, rfl, ha, hkept⟩ := hrel
    have HB := Lib.hid ha
    clear ha
    by_cases hlt : k < x.elems.length
    · obtain ⟨b, o, y, rfl, hb, h2, q0, q1, q2, q3⟩ := elems_at (HL.out.kept (K0.trans hkept)) hlt
      have hys := HS.out y (List.mem_of_getElem? h2)
      have HZ := Lib.hid h2
      clear h2
      have KA : Kept wr (wr.alloc (.cells #[.string y.name, .int .i64 y.family, .int .i64 y.level, .int .i64 y.base] 60)) := (Kept.refl wr).alloc _
      have BY := Box.new wr wr.heap.size 60 #[.string y.name, .int .i64 y.family, .int .i64 y.level, .int .i64 y.base] rfl
      go_wp2_with fail
      replace BY : Box (wr.alloc (.cells #[.string y.name, .int .i64 y.family, .int .i64 y.level, .int .i64 y.base] 60)).drew wr.heap.size 60 #[.string y.name, .int .i64 y.family, .int .i64 y.level, .int .i64 y.base] := BY
      have KD := KA.drew
      replace B0 := B0.kept (hkept.trans KD)
      clear q0 q1 q2 q3
      have bc := fun s : After (wr.alloc (.cells #[.string y.name, .int .i64 y.family, .int .i64 y.level, .int .i64 y.base] 60)).drew => (BY.kept s.kept).four.1
      have kc := fun s : After (wr.alloc (.cells #[.string y.name, .int .i64 y.family, .int .i64 y.level, .int .i64 y.base] 60)).drew => (B0.kept s.kept).six.1.1
      by_cases he : elemB y = true
      case neg =>
        simp only [Bool.not_eq_true] at he
        have HE := Lib.hid (codeB_elems (range_not hlt (stepB_elem HZ.out he)))
        refine region_after (by kernel_rfl) (by kernel_rfl) ?_
        repeat (go_big_quiet_step ((go_at_call 89; exact after_of (cdElement_is false _ y _ (ElemAt.mk y _ hys) he))))
        refine wpQuiet_nil ?_
        intro wq hw'
        obtain ⟨⟨_, kq⟩, hw''⟩ := hw'
        subst hw''
        try dsimp only
        go_wp2_with fail
        go_ret
        exact ⟨ret_bool HE.out.symm, ((K0.trans hkept).trans KD).trans kq⟩
      have HE := Lib.hid he
      by_cases hk0 : k = 0
      · have HK := Lib.hid hk0
        have hd : decide ((0 : Int) < (k : Int)) = false := by simp; omega
        have hd2 : decide (0 < k) = false := by simp; omega
        clear hk0
        refine region_after (by kernel_rfl) (by kernel_rfl) ?_
        repeat (go_big_quiet_step ((go_at_call 89; exact after_of (cdElement_is true _ y _ (ElemAt.mk y _ hys) HE.out))))
        refine wpQuiet_nil ?_
        intro wq hw'
        obtain ⟨⟨_, kq⟩, hw''⟩ := hw'
        subst hw''
        try dsimp only
        go_wp2_with fail
        go_roundw
        case rel => exact ⟨k + 1, by omega, by go_num, range_snoc HB.out (by have h := HZ.out; rw [HK.out] at h ⊢; rw [stepB_zero h]; exact HE.out), (hkept.trans KD).trans kq⟩
        case measure => simp [intOf]; omega
      · obtain ⟨j, hj⟩ : ∃ j, k = j + 1 := ⟨k - 1, by omega⟩
        obtain ⟨b', o', p, eA, hb', h2', q0', q1', q2', q3'⟩ := elems_at (HL.out.kept ((K0.trans hkept).trans KD)) (k := j) (by omega)
        injection eA with eA
        injection eA with eA1 eA2 eA3
        subst eA1 eA2
        have f3 : (j : Int) < (x.elems.length : Int) := by omega
        have f4 : (0 : Int) < (k : Int) := by omega
        have f5 : 0 < k := by omega
        have f1 : ((k : Int) - 1) = (j : Int) := by omega
        have f2 : IntKind.i64.wrap ((k : Int) - 1) = (j : Int) := by rw [f1]; exact IntWalk.i64_in _ (by omega)
        have HST := Lib.hid (show stepB x.elems k = (elemB y && Op.bytesLess p.name.toList y.name.toList) from by have h := HZ.out; rw [hj] at h ⊢; exact stepB_succ h h2')
        have pc := After.cell q0' hb'
        clear h2' eA3 hj hk0 q0' q1' q2' q3'
        by_cases hless : Op.bytesLess p.name.toList y.name.toList = true
        · refine region_after (by kernel_rfl) (by kernel_rfl) ?_
          repeat (go_big_quiet_step ((go_at_call 89; exact after_of (cdElement_is true _ y _ (ElemAt.mk y _ hys) HE.out))))
          refine wpQuiet_nil ?_
          intro wq hw'
          obtain ⟨⟨_, kq⟩, hw''⟩ := hw'
          subst hw''
          try dsimp only
          go_wp2_with fail
          go_roundw
          case rel => exact ⟨k + 1, by omega, by go_num, range_snoc HB.out (by rw [HST.out, HE.out, hless]; rfl), (hkept.trans KD).trans kq⟩
          case measure => simp [intOf]; omega
        · simp only [Bool.not_eq_true] at hless
          have HF := Lib.hid (codeB_elems (range_not hlt (show stepB x.elems k = false by rw [HST.out, HE.out, hless]; rfl)))
          refine region_after (by kernel_rfl) (by kernel_rfl) ?_
          repeat (go_big_quiet_step ((go_at_call 89; exact after_of (cdElement_is true _ y _ (ElemAt.mk y _ hys) HE.out))))
          refine wpQuiet_nil ?_
          intro wq hw'
          obtain ⟨⟨_, kq⟩, hw''⟩ := hw'
          subst hw''
          try dsimp only
          go_wp2_with fail
          go_ret
          exact ⟨ret_bool HF.out.symm, ((K0.trans hkept).trans KD).trans kq⟩
    · obtain rfl : k = x.elems.length := by omega
      have HEB := Lib.hid (show codeB x = (inB x.elems.length 1 24 && (x.limits.length == 5) && x.limits.all (inB · 0 9) && inB x.repeats 1 3 && inB x.bonus 0 20 && inB x.keeps 50 100 && inB x.fall 0 500) from by
        rw [codeB_parts, show elemsB x.elems = true from HB.out, Bool.and_true])
      obtain ⟨x0, y0⟩ := (B0.kept hkept).six
      have hk2 := K0.trans hkept
      by_cases g1 : inB x.elems.length 1 24 = true
      case neg =>
        simp only [Bool.not_eq_true] at g1
        go_wp2_with (go_at_call 32; refine (l1In_any _ _ _ _).mono ?_; rintro e w' ⟨rfl, rfl⟩)
        go_ret
        exact ⟨ret_bool (by rw [HEB.out, g1]; rfl), hk2⟩
      by_cases g2' : x.limits.length = 5
      case neg =>
        have g2 : ((x.limits.length : Int) == 5) = false := beq_eq_false_iff_ne.2 (by omega)
        have G2 := Lib.hid (show (x.limits.length == 5) = false from beq_eq_false_iff_ne.2 g2')
        clear g2'
        go_wp2_with (go_at_call 32; refine (l1In_any _ _ _ _).mono ?_; rintro e w' ⟨rfl, rfl⟩)
        go_ret
        exact ⟨ret_bool (by rw [HEB.out, g1, G2.out]; rfl), hk2⟩
      have g2 : ((x.limits.length : Int) == 5) = true := by simp [g2']
      have G2 := Lib.hid (show (x.limits.length == 5) = true from by simp [g2'])
      clear g2'
      by_cases g3 : x.limits.all (inB · 0 9) = true
      case neg =>
        simp only [Bool.not_eq_true] at g3
        go_wp2_with (first | (go_at_call 32; refine (l1In_any _ _ _ _).mono ?_; rintro e w' ⟨rfl, rfl⟩) | (go_at_call 66; refine (l1All_any _ _ _ _ _ (H2.out.kept hk2)).mono ?_; rintro e w' ⟨rfl, rfl⟩))
        go_ret
        exact ⟨ret_bool (by rw [HEB.out, g1, G2.out, g3]; rfl), hk2⟩
      by_cases g4 : inB x.repeats 1 3 = true
      case neg =>
        simp only [Bool.not_eq_true] at g4
        go_wp2_with (first | (go_at_call 32; refine (l1In_any _ _ _ _).mono ?_; rintro e w' ⟨rfl, rfl⟩) | (go_at_call 66; refine (l1All_any _ _ _ _ _ (H2.out.kept hk2)).mono ?_; rintro e w' ⟨rfl, rfl⟩))
        go_ret
        exact ⟨ret_bool (by rw [HEB.out, g1, G2.out, g3, g4]; rfl), hk2⟩
      by_cases g5 : inB x.bonus 0 20 = true
      case neg =>
        simp only [Bool.not_eq_true] at g5
        go_wp2_with (first | (go_at_call 32; refine (l1In_any _ _ _ _).mono ?_; rintro e w' ⟨rfl, rfl⟩) | (go_at_call 66; refine (l1All_any _ _ _ _ _ (H2.out.kept hk2)).mono ?_; rintro e w' ⟨rfl, rfl⟩))
        go_ret
        exact ⟨ret_bool (by rw [HEB.out, g1, G2.out, g3, g4, g5]; rfl), hk2⟩
      by_cases g6 : inB x.keeps 50 100 = true
      case neg =>
        simp only [Bool.not_eq_true] at g6
        go_wp2_with (first | (go_at_call 32; refine (l1In_any _ _ _ _).mono ?_; rintro e w' ⟨rfl, rfl⟩) | (go_at_call 66; refine (l1All_any _ _ _ _ _ (H2.out.kept hk2)).mono ?_; rintro e w' ⟨rfl, rfl⟩))
        go_ret
        exact ⟨ret_bool (by rw [HEB.out, g1, G2.out, g3, g4, g5, g6]; rfl), hk2⟩
      go_wp2_with (first | (go_at_call 32; refine (l1In_any _ _ _ _).mono ?_; rintro e w' ⟨rfl, rfl⟩) | (go_at_call 66; refine (l1All_any _ _ _ _ _ (H2.out.kept hk2)).mono ?_; rintro e w' ⟨rfl, rfl⟩))
      go_ret
      exact ⟨ret_bool (by rw [HEB.out, g1, G2.out, g3, g4, g5, g6]; rfl), hk2⟩
end Go.Proofs.YtkekpolfdmmgeaaGreat

/- Codes copied; elements and codes compared. -/
namespace Go.Proofs.YtkekpolfdmmgeaaGreat
set_option linter.unusedVariables false
set_option linter.unusedSimpArgs false
open Go.RowKit

end Go.Proofs.YtkekpolfdmmgeaaGreat

/- Codes copied. -/
namespace Go.Proofs.YtkekpolfdmmgeaaGreat
set_option linter.unusedVariables false
set_option linter.unusedSimpArgs false
open Go.RowKit

end Go.Proofs.YtkekpolfdmmgeaaGreat

/- Codes: GreatestBase. -/
namespace Go.Proofs.YtkekpolfdmmgeaaGreat
set_option linter.unusedVariables false
set_option linter.unusedSimpArgs false
open Go.RowKit

def askedB (x : CodeD) (f : Int) : Bool := codeB x && inB f 0 4
def mostB (es : List ElemD) (f : Int) : Int := es.foldl (fun m y => if y.family = f then max m y.base else m) 0
def gbV (x : CodeD) (f : Int) : Int := if askedB x f then mostB x.elems f else 0
theorem ret_ib {a a' : Int} {b b' : Bool} (h1 : a = a') (h2 : b = b') : Ending.returned (.tuple #[.int .i64 a, .bool b]) = .returned (.tuple #[.int .i64 a', .bool b']) := by rw [h1, h2]
theorem gbV_no {x : CodeD} {f : Int} (h : askedB x f = false) : gbV x f = 0 := by unfold gbV; rw [h]; rfl
theorem mostB_snoc {es : List ElemD} {k : Nat} {y : ElemD} (f : Int) (h : es[k]? = some y) : mostB (es.take (k + 1)) f = if y.family = f then max (mostB (es.take k) f) y.base else mostB (es.take k) f := by
  unfold mostB
  rw [take_snoc h, List.foldl_append]
  rfl
end Go.Proofs.YtkekpolfdmmgeaaGreat

/- Codes: the element with a name. -/
namespace Go.Proofs.YtkekpolfdmmgeaaGreat
set_option linter.unusedVariables false
set_option linter.unusedSimpArgs false
open Go.RowKit

def hitB (s : ByteArray) (y : ElemD) : Bool := y.name.toList == s.toList
def findV (es : List ElemD) (s : ByteArray) : Int := match es.findIdx? (hitB s) with | some k => (k : Int) | none => -1
theorem findV_hit {es : List ElemD} {s : ByteArray} {k : Nat} {y : ElemD} (h : es[k]? = some y) (hy : hitB s y = true) (hb : ∀ j z, j < k → es[j]? = some z → hitB s z = false) : findV es s = k := by
  obtain ⟨hk, rfl⟩ := List.getElem?_eq_some_iff.1 h
  have : es.findIdx? (hitB s) = some k := List.findIdx?_eq_some_iff_getElem.2 ⟨hk, hy, fun j hj => by
    rw [hb j es[j] hj (List.getElem?_eq_getElem (by omega))]
    exact Bool.false_ne_true⟩
  unfold findV
  rw [this]
theorem findV_none {es : List ElemD} {s : ByteArray} (hb : ∀ j z, j < es.length → es[j]? = some z → hitB s z = false) : findV es s = -1 := by
  have : es.findIdx? (hitB s) = none := List.findIdx?_eq_none_iff.2 fun z hz => by
    obtain ⟨j, hj⟩ := List.getElem?_of_mem hz
    exact hb j z (List.getElem?_eq_some_iff.1 hj).1 hj
  unfold findV
  rw [this]
theorem findV_cases (es : List ElemD) (s : ByteArray) : findV es s = -1 ∨ ∃ (k : Nat) (y : ElemD), findV es s = k ∧ es[k]? = some y ∧ hitB s y = true := by
  unfold findV
  cases h : es.findIdx? (hitB s) with
  | none => exact .inl rfl
  | some k =>
    obtain ⟨hk, hy, _⟩ := List.findIdx?_eq_some_iff_getElem.1 h
    exact .inr ⟨k, es[k], rfl, List.getElem?_eq_getElem hk, hy⟩
def feOk (x : CodeD) (s : ByteArray) : Bool := codeB x && decide (0 ≤ findV x.elems s)
def feV (x : CodeD) (s : ByteArray) : Int := if feOk x s then findV x.elems s else 0
theorem feV_no {x : CodeD} {s : ByteArray} (h : feOk x s = false) : feV x s = 0 := by unfold feV; rw [h]; rfl
theorem feV_yes {x : CodeD} {s : ByteArray} (h : feOk x s = true) : feV x s = findV x.elems s := if_pos h
theorem none_snoc {es : List ElemD} {s : ByteArray} {k : Nat} {y : ElemD} (h : es[k]? = some y) (hy : hitB s y = false) (hb : ∀ j z, j < k → es[j]? = some z → hitB s z = false) : ∀ j z, j < k + 1 → es[j]? = some z → hitB s z = false := by
  intro j z hj hz
  rcases Nat.lt_or_eq_of_le (Nat.le_of_lt_succ hj) with h1 | rfl
  · exact hb j z h1 hz
  · rw [h] at hz
    injection hz with hz
    subst hz
    exact hy
set_option maxHeartbeats 1000000 in
theorem cdFind_any (v : Value) (x : CodeD) (s : ByteArray) (w : World) (h : CodeAt w v x) :
    Calls Tryz.prog 104 #[v, .string s] w fun e w' => e = .returned (.int .i64 (findV x.elems s)) ∧ Kept w w' := by
  have h0 := h
  obtain ⟨nv, mv, rfl, q1, q2⟩ := h
  obtain ⟨A, c, rfl, hnc, hcm, hl⟩ := q1.1.out
  obtain ⟨A2, c2, rfl, _, _, _⟩ := q2.out
  unfold maxLen at hcm
  have HL := Lib.hid hl
  have HS := Lib.hid q1.2
  have H0 := Lib.hid h0
  clear h0 q1 q2 hl
  have B0 := Box.new w w.heap.size 26 #[.slice A x.elems.length c, .slice A2 x.limits.length c2, .int .i64 x.repeats, .int .i64 x.bonus, .int .i64 x.keeps, .int .i64 x.fall] rfl
  have K0 : Kept w (w.alloc (.cells #[.slice A x.elems.length c, .slice A2 x.limits.length c2, .int .i64 x.repeats, .int .i64 x.bonus, .int .i64 x.keeps, .int .i64 x.fall] 26)) := (Kept.refl w).alloc _
  go_enter Tryz.func104, Tryz.ntmps104
  go_wp2_with fail
  generalize w.alloc (.cells #[.slice A x.elems.length c, .slice A2 x.limits.length c2, .int .i64 x.repeats, .int .i64 x.bonus, .int .i64 x.keeps, .int .i64 x.fall] 26) = w0 at *
  go_loopw [10] (fun i wr => ∃ k : Nat, k ≤ x.elems.length ∧ i = .int .i64 k ∧ (∀ j z, j < k → x.elems[j]? = some z → hitB s z = false) ∧ Kept w0 wr) (fun i _ => x.elems.length - (intOf i).toNat)
  case atStart => exact ⟨0, Nat.zero_le _, rfl, (fun j _ hj => absurd hj (Nat.not_lt_zero j)), Kept.refl _⟩
  case round =>
    obtain ⟨k, hk, rfl, ha, hkept⟩ := hrel
    have HB := Lib.hid ha
    clear ha
    by_cases hlt : k < x.elems.length
    · obtain ⟨b, o, y, rfl, hb', h2, q0, q1, q2, q3⟩ := elems_at (HL.out.kept (K0.trans hkept)) hlt
      have HZ := Lib.hid h2
      clear h2
      by_cases hf : hitB s y = true
      · have HF := Lib.hid hf
        unfold hitB at hf
        go_wp2_with fail
        go_ret
        exact ⟨ret_int (findV_hit HZ.out HF.out HB.out).symm, (K0.trans hkept).alloc _⟩
      · simp only [Bool.not_eq_true] at hf
        have HF := Lib.hid hf
        unfold hitB at hf
        go_wp2_with fail
        go_roundw
        case rel => exact ⟨k + 1, by omega, by go_num, none_snoc HZ.out HF.out HB.out, hkept.alloc _⟩
        case measure => simp [intOf]; omega
    · obtain rfl : k = x.elems.length := by omega
      go_wp2_with fail
      go_ret
      exact ⟨ret_int (findV_none HB.out).symm, K0.trans hkept⟩
theorem hit_any (v : Value) (y : ElemD) (s : ByteArray) (p : Addr) (w : World) (h : ElemAt w v y) (hp : p.block < w.heap.size) (hc : w.cell? p = some (.string s)) :
    Calls Tryz.prog 102 #[v, .pointer (some p)] w fun e w' => e = .returned (.bool (hitB s y)) ∧ Kept w w' := by
  obtain ⟨rfl, hs⟩ := h
  have K0 : Kept w (w.alloc (.cells #[.string y.name, .int .i64 y.family, .int .i64 y.level, .int .i64 y.base] 60)) := (Kept.refl w).alloc _
  have hc' := (K0.cell hp).trans hc
  go_enter Tryz.func102, Tryz.ntmps102
  go_wp2_with fail
  go_ret
  exact ⟨rfl, K0⟩
set_option maxHeartbeats 1000000 in
theorem indexFunc_any (v : Value) (es : List ElemD) (s : ByteArray) (p : Addr) (w : World) (h : Elems w v es) (hp : p.block < w.heap.size) (hc : w.cell? p = some (.string s)) :
    Calls Tryz.prog 101 #[v, .func (.func 102) #[] #[.pointer (some p)]] w fun e w' => e = .returned (.int .i64 (findV es s)) ∧ Kept w w' := by
  obtain ⟨A, c, rfl, hnc, hcm, hl⟩ := h.1.out
  unfold maxLen at hcm
  have HL := Lib.hid hl
  have HS := Lib.hid h.2
  have HC := Lib.hid hc
  clear h hl hc
  go_enter Tryz.func101, Tryz.ntmps101
  go_wp2_with fail
  go_loopw [8] (fun i wr => ∃ k : Nat, k ≤ es.length ∧ i = .int .i64 k ∧ (∀ j z, j < k → es[j]? = some z → hitB s z = false) ∧ Kept w wr) (fun i _ => es.length - (intOf i).toNat)
  case atStart => exact ⟨0, Nat.zero_le _, rfl, (fun j _ hj => absurd hj (Nat.not_lt_zero j)), Kept.refl _⟩
  case round =>
    obtain ⟨k, hk, rfl, ha, hkept⟩ := hrel
    have HB := Lib.hid ha
    clear ha
    by_cases hlt : k < es.length
    · obtain ⟨b, o, y, rfl, hb', h2, q0, q1, q2, q3⟩ := elems_at (HL.out.kept hkept) hlt
      have hys := HS.out y (List.mem_of_getElem? h2)
      have HZ := Lib.hid h2
      have hp' : p.block < wr.heap.size := Nat.lt_of_lt_of_le hp hkept.size
      have HCW := Lib.hid ((hkept.cell hp).trans HC.out)
      clear h2
      go_wp2_with fail
      refine (hit_any _ y s p _ (ElemAt.mk y _ hys) hp' HCW.out).mono ?_
      rintro e w1 ⟨rfl, k1⟩
      by_cases hf : hitB s y = true
      · rw [hf]
        go_wp2_with fail
        go_ret
        exact ⟨ret_int (findV_hit HZ.out hf HB.out).symm, hkept.trans k1⟩
      · simp only [Bool.not_eq_true] at hf
        rw [hf]
        go_wp2_with fail
        go_roundw
        case rel => exact ⟨k + 1, by omega, by go_num, none_snoc HZ.out hf HB.out, hkept.trans k1⟩
        case measure => simp [intOf]; omega
    · obtain rfl : k = es.length := by omega
      go_wp2_with fail
      go_ret
      exact ⟨ret_int (findV_none HB.out).symm, hkept⟩
theorem findElement_any (v : Value) (x : CodeD) (s : ByteArray) (w : World) (h : CodeAt w v x) :
    Calls Tryz.prog 96 #[v, .string s] w fun e w' => e = .returned (.int .i64 (findV x.elems s)) ∧ Kept w w' := by
  obtain ⟨nv, mv, rfl, q1, q2⟩ := h
  have HE := Lib.hid q1
  obtain ⟨A, c, rfl, hnc, hcm, hl⟩ := q1.1.out
  obtain ⟨A2, c2, rfl, _, _, _⟩ := q2.out
  have K0 : Kept w ((w.alloc (.cells #[.slice A x.elems.length c, .slice A2 x.limits.length c2, .int .i64 x.repeats, .int .i64 x.bonus, .int .i64 x.keeps, .int .i64 x.fall] 26)).alloc (.cells #[.string s] 9)) := ((Kept.refl w).alloc _).alloc _
  clear q1 q2 hl
  go_enter Tryz.func96, Tryz.ntmps96
  go_wp2_with fail
  refine (indexFunc_any _ x.elems s _ _ (HE.out.kept K0) (by simp) (by simp [go_sem])).mono ?_
  rintro e w1 ⟨rfl, k1⟩
  go_wp2_with fail
  go_ret
  exact ⟨rfl, K0.trans k1⟩
end Go.Proofs.YtkekpolfdmmgeaaGreat

/- Codes: ElementWorth. -/
namespace Go.Proofs.YtkekpolfdmmgeaaGreat
set_option linter.unusedVariables false
set_option linter.unusedSimpArgs false
open Go.RowKit

theorem codeB_elem {x : CodeD} {k : Nat} {y : ElemD} (h : codeB x = true) (hy : x.elems[k]? = some y) : elemB y = true := by
  unfold codeB elemsB at h
  simp only [Bool.and_eq_true] at h
  have h1 := List.all_eq_true.1 h.2 k (by have := (List.getElem?_eq_some_iff.1 hy).1; simpa using this)
  unfold stepB at h1
  rw [hy] at h1
  simp only [Bool.and_eq_true] at h1
  exact h1.1
theorem elemB_parts {y : ElemD} (h : elemB y = true) : (0 ≤ y.family ∧ y.family ≤ 4) ∧ (0 ≤ y.level ∧ y.level ≤ 4) ∧ 1 ≤ y.base ∧ y.base ≤ 2000 := by
  unfold elemB at h
  simp only [Bool.and_eq_true] at h
  exact ⟨inB_true h.1.1.2, inB_true h.1.2, inB_true h.2⟩
theorem codeB_rests {x : CodeD} (h : codeB x = true) : (1 ≤ x.repeats ∧ x.repeats ≤ 3) ∧ (0 ≤ x.bonus ∧ x.bonus ≤ 20) ∧ (50 ≤ x.keeps ∧ x.keeps ≤ 100) ∧ 0 ≤ x.fall ∧ x.fall ≤ 500 := by
  unfold codeB restB at h
  simp only [Bool.and_eq_true] at h
  exact ⟨inB_true h.1.2.1.1.1, inB_true h.1.2.1.1.2, inB_true h.1.2.1.2, inB_true h.1.2.2⟩
theorem codeB_heads {x : CodeD} (h : codeB x = true) : (1 ≤ x.elems.length ∧ x.elems.length ≤ 24) ∧ x.limits.length = 5 := by
  unfold codeB headB at h
  simp only [Bool.and_eq_true] at h
  have := inB_true h.1.1.1.1
  exact ⟨⟨by omega, by omega⟩, by simpa using h.1.1.1.2⟩
def worthN (keeps base m : Int) : Int := if m = 1 then base * keeps / 100 else if m = 2 then base * 9 / 10 else if m = 3 then 0 else base
theorem worthN_nonneg {keeps base : Int} (m : Int) (h1 : 0 ≤ keeps) (h2 : 0 ≤ base) : 0 ≤ worthN keeps base m := by
  have := Int.mul_nonneg h2 h1
  unfold worthN
  split
  · exact Int.ediv_nonneg this (by omega)
  · split
    · exact Int.ediv_nonneg (by omega) (by omega)
    · split <;> omega
def worthAt (x : CodeD) (s : ByteArray) (m : Int) : Int := if 0 ≤ findV x.elems s then match x.elems[(findV x.elems s).toNat]? with | some y => worthN x.keeps y.base m | none => -1 else -1
theorem worthAt_none {x : CodeD} {s : ByteArray} (m : Int) (h : findV x.elems s = -1) : worthAt x s m = -1 := by unfold worthAt; rw [h]; rfl
theorem worthAt_hit {x : CodeD} {s : ByteArray} {k : Nat} {y : ElemD} (m : Int) (h : findV x.elems s = k) (hy : x.elems[k]? = some y) : worthAt x s m = worthN x.keeps y.base m := by
  unfold worthAt
  rw [h, if_pos (by omega), Int.toNat_natCast, hy]
def ewOk (x : CodeD) (s : ByteArray) (m : Int) : Bool := feOk x s && inB m 0 3
def ewV (x : CodeD) (s : ByteArray) (m : Int) : Int := if ewOk x s m then worthAt x s m else 0
theorem ewV_no {x : CodeD} {s : ByteArray} {m : Int} (h : ewOk x s m = false) : ewV x s m = 0 := by unfold ewV; rw [h]; rfl
theorem ewV_yes {x : CodeD} {s : ByteArray} {m : Int} (h : ewOk x s m = true) : ewV x s m = worthAt x s m := if_pos h
theorem feOk_hit {x : CodeD} {s : ByteArray} {k : Nat} (hc : codeB x = true) (h : findV x.elems s = k) : feOk x s = true := by
  unfold feOk
  rw [hc, h, Bool.true_and]
  exact decide_eq_true (by omega)
theorem feOk_none {x : CodeD} {s : ByteArray} (h : findV x.elems s = -1) : feOk x s = false := by
  unfold feOk
  rw [h]
  exact Bool.and_false _
end Go.Proofs.YtkekpolfdmmgeaaGreat

/- Strings in slices; items and lists of items in memory. -/
namespace Go.Proofs.YtkekpolfdmmgeaaGreat
set_option linter.unusedVariables false
set_option linter.unusedSimpArgs false
open Go.RowKit

def Strs (w : World) (v : Value) (zs : List ByteArray) : Prop := Seq w v zs.length (zs.map Value.string) ∧ ∀ z ∈ zs, z.size ≤ maxLen
def OwnS (w : World) (base : Nat) (v : Value) (zs : List ByteArray) : Prop := w.ownsRow base 9 1 v zs.length (zs.map Value.string) ∧ ∀ z ∈ zs, z.size ≤ maxLen
theorem Strs.kept {w w' : World} {v : Value} {zs : List ByteArray} (h : Strs w v zs) (hk : Kept w w') : Strs w' v zs := ⟨Seq.kept h.1 hk, h.2⟩
theorem OwnS.strs {w : World} {base : Nat} {v : Value} {zs : List ByteArray} (h : OwnS w base v zs) : Strs w v zs := ⟨Seq.of_own h.1, h.2⟩
theorem OwnS.kept {w w' : World} {base : Nat} {v : Value} {zs : List ByteArray} (h : OwnS w base v zs) (hk : Kept w w') : OwnS w' base v zs := ⟨own_kept h.1 hk, h.2⟩
theorem OwnS.only {w w' : World} {base : Nat} {v : Value} {zs : List ByteArray} {S : List Nat} (h : OwnS w base v zs) (ho : Only S w w') (hd : ∀ b ∈ fp v, b ∉ S) : OwnS w' base v zs := ⟨own_only h.1 ho hd, h.2⟩
theorem strs_at {w : World} {A : Option Addr} {zs : List ByteArray} (h : SeqA w A zs.length (zs.map Value.string)) {k : Nat} (hk : k < zs.length) :
    ∃ b o z, A = some ⟨b, o, none⟩ ∧ b < w.heap.size ∧ zs[k]? = some z ∧ w.cell? ⟨b, o + k, none⟩ = some (.string z) := by
  have hz : zs[k]? = some zs[k] := List.getElem?_eq_getElem hk
  obtain ⟨b, o, e, hb, hc⟩ := h.at_ (j := k) (u := .string zs[k]) (by omega) (by rw [List.getElem?_map, hz]; rfl)
  exact ⟨b, o, _, e, hb, hz, hc⟩
theorem info_str : (Tryz.prog.info? 9).map (fun i => (i.zero, i.size, i.bytes)) = some (some (.string ByteArray.empty), 1, 16) := by kernel_rfl
end Go.Proofs.YtkekpolfdmmgeaaGreat

/- Items in memory. -/
namespace Go.Proofs.YtkekpolfdmmgeaaGreat
set_option linter.unusedVariables false
set_option linter.unusedSimpArgs false
open Go.RowKit

structure ItemD where
  names : List ByteArray
  marks : List Int
  late : Bool
def ItemAt (w : World) (v : Value) (it : ItemD) : Prop := ∃ nv mv, v = .agg #[nv, mv, .bool it.late] ∧ Strs w nv it.names ∧ Ints w mv it.marks
theorem fpA_item (a b : Value) (c : Bool) : fpA (.agg #[a, b, .bool c]) = fp a ++ fp b := by
  simp [fpA, fp, Value.ownBlock]
def OwnT (w : World) (base : Nat) (v : Value) (it : ItemD) : Prop :=
  ∃ nv mv, v = .agg #[nv, mv, .bool it.late] ∧ OwnS w base nv it.names ∧ OwnI w base mv it.marks ∧ (fpA v).Nodup
theorem ItemAt.kept {w w' : World} {v : Value} {it : ItemD} (h : ItemAt w v it) (hk : Kept w w') : ItemAt w' v it := by
  obtain ⟨nv, mv, e, h1, h2⟩ := h
  exact ⟨nv, mv, e, h1.kept hk, h2.kept hk⟩
theorem OwnT.item {w : World} {base : Nat} {v : Value} {it : ItemD} (h : OwnT w base v it) : ItemAt w v it := by
  obtain ⟨nv, mv, e, h1, h2, _⟩ := h
  exact ⟨nv, mv, e, h1.strs, h2.ints⟩
theorem info_item : (Tryz.prog.info? 30).map (fun i => (i.zero, i.size, i.bytes)) = some (some (.agg #[.slice none 0 0, .slice none 0 0, .bool false]), 3, 56) := by kernel_rfl

/-- the three cells of an item -/
def row3 (p : (Value × Value) × ItemD) : List Value := [p.1.1, p.1.2, .bool p.2.late]
def ItemsA (w : World) (A : Option Addr) (its : List ItemD) (cs : List (Value × Value)) : Prop :=
  cs.length = its.length ∧ SeqA w A its.length ((cs.zip its).flatMap row3) ∧ ∀ (k : Nat) (nv mv : Value) (it : ItemD), cs[k]? = some (nv, mv) → its[k]? = some it → Strs w nv it.names ∧ Ints w mv it.marks
def ItemsAt (w : World) (v : Value) (its : List ItemD) : Prop :=
  ∃ cs : List (Value × Value), cs.length = its.length ∧ Seq w v its.length ((cs.zip its).flatMap row3) ∧ ∀ (k : Nat) (nv mv : Value) (it : ItemD), cs[k]? = some (nv, mv) → its[k]? = some it → Strs w nv it.names ∧ Ints w mv it.marks
theorem ItemsAt.kept {w w' : World} {v : Value} {its : List ItemD} (h : ItemsAt w v its) (hk : Kept w w') : ItemsAt w' v its := by
  obtain ⟨cs, e, h1, h2⟩ := h
  exact ⟨cs, e, h1.kept hk, fun k nv mv it q1 q2 => ⟨(h2 k nv mv it q1 q2).1.kept hk, (h2 k nv mv it q1 q2).2.kept hk⟩⟩
theorem ItemsA.kept {w w' : World} {A : Option Addr} {its : List ItemD} {cs : List (Value × Value)} (h : ItemsA w A its cs) (hk : Kept w w') : ItemsA w' A its cs :=
  ⟨h.1, h.2.1.kept hk, fun k nv mv it q1 q2 => ⟨(h.2.2 k nv mv it q1 q2).1.kept hk, (h.2.2 k nv mv it q1 q2).2.kept hk⟩⟩
theorem ItemsAt.out {w : World} {v : Value} {its : List ItemD} (h : ItemsAt w v its) : ∃ A c cs, v = .slice A its.length c ∧ its.length ≤ c ∧ c ≤ maxLen ∧ ItemsA w A its cs := by
  obtain ⟨cs, e, h1, h2⟩ := h
  obtain ⟨A, c, rfl, hnc, hcm, hsa⟩ := h1.out
  exact ⟨A, c, cs, rfl, hnc, hcm, e, hsa, h2⟩
/-- an item of a list, its three cells -/
theorem items_at {w : World} {A : Option Addr} {its : List ItemD} {cs : List (Value × Value)} (hA : ItemsA w A its cs) {k : Nat} (hk : k < its.length) :
    ∃ b o A1 c1 A2 c2 it, A = some ⟨b, o, none⟩ ∧ b < w.heap.size ∧ its[k]? = some it ∧ cs[k]? = some (.slice A1 it.names.length c1, .slice A2 it.marks.length c2) ∧ ItemAt w (.agg #[.slice A1 it.names.length c1, .slice A2 it.marks.length c2, .bool it.late]) it ∧
      w.cell? ⟨b, o + k * 3, none⟩ = some (.slice A1 it.names.length c1) ∧ w.cell? ⟨b, o + k * 3 + 1, none⟩ = some (.slice A2 it.marks.length c2) ∧ w.cell? ⟨b, o + k * 3 + 2, none⟩ = some (.bool it.late) := by
  obtain ⟨hl, h, hc⟩ := hA
  obtain ⟨b, o, e, hb, hcell⟩ := h (by omega)
  have h1 : its[k]? = some its[k] := List.getElem?_eq_getElem hk
  obtain ⟨nv, mv, h2⟩ : ∃ nv mv, cs[k]? = some (nv, mv) := ⟨_, _, List.getElem?_eq_getElem (by omega)⟩
  have h3 := hc k nv mv its[k] h2 h1
  have hz : (cs.zip its)[k]? = some ((nv, mv), its[k]) := by rw [List.getElem?_zip_eq_some]; exact ⟨h2, h1⟩
  have hf := flat_get row3 3 (fun _ => rfl) (cs.zip its) k
  have q0 := hcell (k * 3) nv (by have := hf 0 (by omega); rw [Nat.add_zero, hz] at this; exact this)
  have q1 := hcell (k * 3 + 1) mv (by have := hf 1 (by omega); rw [hz] at this; exact this)
  have q2 := hcell (k * 3 + 2) (.bool its[k].late) (by have := hf 2 (by omega); rw [hz] at this; exact this)
  rw [← Nat.add_assoc] at q1 q2
  have hit : ItemAt w (.agg #[nv, mv, .bool its[k].late]) its[k] := ⟨_, _, rfl, h3.1, h3.2⟩
  obtain ⟨A1, c1, rfl, _⟩ := h3.1.1.out
  obtain ⟨A2, c2, rfl, _⟩ := h3.2.out
  exact ⟨b, o, A1, c1, A2, c2, its[k], e, hb, h1, h2, hit, q0, q1, q2⟩


/-! ### sizes -/
def strsSize (zs : List ByteArray) : Nat := zs.length + (zs.map ByteArray.size).sum
def ItemD.size (it : ItemD) : Nat := strsSize it.names + it.marks.length
def itemsSize (its : List ItemD) : Nat := its.length + (its.map ItemD.size).sum
theorem item_size_le {its : List ItemD} {k : Nat} {it : ItemD} (h : its[k]? = some it) : it.size ≤ itemsSize its := by
  have := mem_le_sum (its.map ItemD.size) it.size (List.mem_map_of_mem (List.mem_of_getElem? h))
  unfold itemsSize
  omega
theorem item_parts (it : ItemD) : it.names.length ≤ it.size ∧ it.marks.length ≤ it.size := by
  unfold ItemD.size strsSize
  omega
/-! ### lists of items that the call owns -/
theorem OwnS.far {w w' : World} {base base' : Nat} {v : Value} {zs : List ByteArray} {S : List Nat} (h : OwnS w base v zs) (ho : Only S w w') (hS : ∀ b ∈ S, b < base) (hb : base' ≤ base) : OwnS w' base' v zs := ⟨own_far h.1 ho hS hb, h.2⟩
def fpL (cs : List (Value × Value)) : List Nat := cs.flatMap fun p => fp p.1 ++ fp p.2
theorem fpL_snoc (cs : List (Value × Value)) (a b : Value) : fpL (cs ++ [(a, b)]) = fpL cs ++ (fp a ++ fp b) := by simp [fpL]
def OwnL (w : World) (base : Nat) (v : Value) (its : List ItemD) (S : List Nat) : Prop :=
  ∃ cs : List (Value × Value), cs.length = its.length ∧ w.ownsRow base 30 3 v its.length ((cs.zip its).flatMap row3) ∧
    (∀ (k : Nat) (nv mv : Value) (it : ItemD), cs[k]? = some (nv, mv) → its[k]? = some it → OwnS w base nv it.names ∧ OwnI w base mv it.marks) ∧ S = fp v ++ fpL cs ∧ S.Nodup ∧ ∀ b ∈ S, base ≤ b ∧ b < w.heap.size
theorem OwnL.items {w : World} {base : Nat} {v : Value} {its : List ItemD} {S : List Nat} (h : OwnL w base v its S) : ItemsAt w v its := by
  obtain ⟨cs, h1, h2, h3, _⟩ := h
  exact ⟨cs, h1, Seq.of_own h2, fun k nv mv it q1 q2 => ⟨(h3 k nv mv it q1 q2).1.strs, (h3 k nv mv it q1 q2).2.ints⟩⟩
theorem mem_fpL {cs : List (Value × Value)} {k : Nat} {nv mv : Value} (h : cs[k]? = some (nv, mv)) {b : Nat} (hb : b ∈ fp nv ∨ b ∈ fp mv) : b ∈ fpL cs := by
  unfold fpL
  rw [List.mem_flatMap]
  exact ⟨(nv, mv), List.mem_of_getElem? h, by simpa using hb⟩
theorem OwnL.only {w w' : World} {base : Nat} {v : Value} {its : List ItemD} {S T : List Nat} (h : OwnL w base v its S) (ho : Only T w w') (hd : ∀ b ∈ S, b ∉ T) : OwnL w' base v its S := by
  obtain ⟨cs, h1, h2, h3, rfl, h5, h6⟩ := h
  refine ⟨cs, h1, own_only h2 ho (fun b hb => hd b (List.mem_append_left _ hb)), fun k nv mv it q1 q2 => ⟨(h3 k nv mv it q1 q2).1.only ho (fun b hb => hd b (List.mem_append_right _ (mem_fpL q1 (.inl hb)))), (h3 k nv mv it q1 q2).2.only ho (fun b hb => hd b (List.mem_append_right _ (mem_fpL q1 (.inr hb))))⟩, rfl, h5, fun b hb => ⟨(h6 b hb).1, Nat.lt_of_lt_of_le (h6 b hb).2 ho.size⟩⟩
theorem OwnL.kept {w w' : World} {base : Nat} {v : Value} {its : List ItemD} {S : List Nat} (h : OwnL w base v its S) (hk : Kept w w') : OwnL w' base v its S := h.only (hk.only []) (fun _ _ => List.not_mem_nil)
theorem set3_take {xs ys : List Value} {k n : Nat} {a b c : Value} (hl : xs.length = n * 3) (hk : k < n) (ht : xs.take (k * 3) = ys) :
    (((xs.set (k * 3) a).set (k * 3 + 1) b).set (k * 3 + 2) c).take ((k + 1) * 3) = ys ++ [a, b, c] := by
  have h1 : k * 3 + 2 < xs.length := by omega
  rw [show (k + 1) * 3 = k * 3 + 2 + 1 from by omega]
  rw [take_snoc (x := c) (by rw [List.getElem?_set_self (by simp; omega)]), List.take_set_of_le (Nat.le_refl _)]
  rw [take_snoc (x := b) (by rw [List.getElem?_set_self (by simp; omega)]), List.take_set_of_le (Nat.le_refl _)]
  rw [take_snoc (x := a) (by rw [List.getElem?_set_self (by omega)]), List.take_set_of_le (Nat.le_refl _), ht]
  simp
theorem zip_snoc {cs : List (Value × Value)} {its : List ItemD} {p : Value × Value} {it : ItemD} (h : its[cs.length]? = some it) : (cs ++ [p]).zip its = cs.zip its ++ [(p, it)] := by
  induction cs generalizing its with
  | nil =>
    cases its with
    | nil => simp at h
    | cons x l => simp at h; simp [h]
  | cons q cs ih =>
    cases its with
    | nil => simp at h
    | cons x l =>
      simp at h
      simp [ih h]
theorem getElem?_snoc {α : Type} {l : List α} {x y : α} {k : Nat} (h : (l ++ [x])[k]? = some y) : (l[k]? = some y) ∨ (k = l.length ∧ x = y) := by
  rcases Nat.lt_trichotomy k l.length with h1 | h1 | h1
  · rw [List.getElem?_append_left h1] at h
    exact .inl h
  · subst h1
    simp at h
    exact .inr ⟨rfl, h⟩
  · rw [List.getElem?_eq_none (by simp; omega)] at h
    cases h
end Go.Proofs.YtkekpolfdmmgeaaGreat

/- Lists of items compared; which items are valid. -/
namespace Go.Proofs.YtkekpolfdmmgeaaGreat
set_option linter.unusedVariables false
set_option linter.unusedSimpArgs false
open Go.RowKit

/-! ### which items are valid -/
def itemB (it : ItemD) : Bool := it.names.all nameB && inB it.names.length 1 3 && (it.marks.length == it.names.length) && it.marks.all (inB · 0 3)
def itemsB (its : List ItemD) : Bool := its.all itemB && decide (its.length ≤ 14)
set_option maxHeartbeats 1000000 in
theorem isItem_any (v : Value) (it : ItemD) (w : World) (h : ItemAt w v it) :
    Calls Tryz.prog 26 #[v] w fun e w' => e = .returned (.bool (itemB it)) ∧ Kept w w' := by
  obtain ⟨nv, mv, rfl, q1, q2⟩ := h
  obtain ⟨A, c, rfl, hnc, hcm, hl⟩ := q1.1.out
  obtain ⟨A2, c2, rfl, hnc2, hcm2, _⟩ := q2.out
  unfold maxLen at hcm hcm2
  have HL := Lib.hid hl
  have HS := Lib.hid q1.2
  have H2 := Lib.hid q2
  clear q1 q2 hl
  go_enter Tryz.func26, Tryz.ntmps26
  go_wp2_with fail
  go_loop [8] (fun i => ∃ k : Nat, k ≤ it.names.length ∧ i = .int .i64 k ∧ (it.names.take k).all nameB = true) (fun i => it.names.length - (intOf i).toNat)
  case atStart => exact ⟨0, Nat.zero_le _, rfl, rfl⟩
  case round =>
    obtain ⟨k, hk, rfl, ha⟩ := hrel
    have HA := Lib.hid ha
    clear ha
    by_cases hlt : k < it.names.length
    · obtain ⟨b, o, z, rfl, hb, hz, hc⟩ := strs_at (HL.out.kept ((Kept.refl w).alloc (.cells #[.slice A it.names.length c, .slice A2 it.marks.length c2, .bool it.late] 30))) hlt
      have hzs := HS.out z (List.mem_of_getElem? hz)
      have HZ := Lib.hid hz
      clear hz
      by_cases hn : nameB z = true
      · go_wp2_with (go_at_call 40; refine (isName_any _ _ hzs).mono ?_; rintro e w' ⟨rfl, rfl⟩)
        go_round
        case rel => exact ⟨k + 1, by omega, by go_num, all_snoc HZ.out HA.out hn⟩
        case measure => simp [intOf]; omega
      · simp only [Bool.not_eq_true] at hn
        go_wp2_with (go_at_call 40; refine (isName_any _ _ hzs).mono ?_; rintro e w' ⟨rfl, rfl⟩)
        go_ret
        exact ⟨ret_bool (by unfold itemB; rw [all_not HZ.out hn]; rfl), (Kept.refl _).alloc _⟩
    · have hall := all_full (p := nameB) (by omega) HA.out
      have HALL := Lib.hid hall
      clear hall
      by_cases h3 : inB it.names.length 1 3 = true <;> by_cases h4 : it.marks.length = it.names.length
      all_goals
        try simp only [Bool.not_eq_true] at h3
        have H4 := Lib.hid h4
        first
          | (have h5 : ((it.marks.length : Int) == (it.names.length : Int)) = true := by simp [h4])
          | (have h5 : ((it.marks.length : Int) == (it.names.length : Int)) = false := beq_eq_false_iff_ne.2 (by omega))
        clear h4
        go_wp2_with (first | (go_at_call 27; refine (within_any _ _ _ _).mono ?_; rintro e w' ⟨rfl, rfl⟩) | (go_at_call 60; refine (allWithin_any _ _ _ _ _ (H2.out.kept ((Kept.refl w).alloc _))).mono ?_; rintro e w' ⟨rfl, rfl⟩))
        go_ret
        exact ⟨ret_bool (by unfold itemB; rw [HALL.out, h3]; simp [H4.out]), (Kept.refl _).alloc _⟩
set_option maxHeartbeats 1000000 in
theorem itGood_any (v : Value) (it : ItemD) (w : World) (h : ItemAt w v it) :
    Calls Tryz.prog 31 #[v] w fun e w' => e = .returned (.bool (itemB it)) ∧ Kept w w' := by
  obtain ⟨nv, mv, rfl, q1, q2⟩ := h
  obtain ⟨A, c, rfl, hnc, hcm, hl⟩ := q1.1.out
  obtain ⟨A2, c2, rfl, hnc2, hcm2, _⟩ := q2.out
  unfold maxLen at hcm hcm2
  have HL := Lib.hid hl
  have HS := Lib.hid q1.2
  have H2 := Lib.hid q2
  clear q1 q2 hl
  go_enter Tryz.func31, Tryz.ntmps31
  go_wp2_with fail
  go_loop [8] (fun i => ∃ k : Nat, k ≤ it.names.length ∧ i = .int .i64 k ∧ (it.names.take k).all nameB = true) (fun i => it.names.length - (intOf i).toNat)
  case atStart => exact ⟨0, Nat.zero_le _, rfl, rfl⟩
  case round =>
    obtain ⟨k, hk, rfl, ha⟩ := hrel
    have HA := Lib.hid ha
    clear ha
    by_cases hlt : k < it.names.length
    · obtain ⟨b, o, z, rfl, hb, hz, hc⟩ := strs_at (HL.out.kept ((Kept.refl w).alloc (.cells #[.slice A it.names.length c, .slice A2 it.marks.length c2, .bool it.late] 30))) hlt
      have hzs := HS.out z (List.mem_of_getElem? hz)
      have HZ := Lib.hid hz
      clear hz
      by_cases hn : nameB z = true
      · go_wp2_with (go_at_call 65; refine (itName_any _ _ hzs).mono ?_; rintro e w' ⟨rfl, rfl⟩)
        go_round
        case rel => exact ⟨k + 1, by omega, by go_num, all_snoc HZ.out HA.out hn⟩
        case measure => simp [intOf]; omega
      · simp only [Bool.not_eq_true] at hn
        go_wp2_with (go_at_call 65; refine (itName_any _ _ hzs).mono ?_; rintro e w' ⟨rfl, rfl⟩)
        go_ret
        exact ⟨ret_bool (by unfold itemB; rw [all_not HZ.out hn]; rfl), (Kept.refl _).alloc _⟩
    · have hall := all_full (p := nameB) (by omega) HA.out
      have HALL := Lib.hid hall
      clear hall
      by_cases h3 : inB it.names.length 1 3 = true <;> by_cases h4 : it.marks.length = it.names.length
      all_goals
        try simp only [Bool.not_eq_true] at h3
        have H4 := Lib.hid h4
        first
          | (have h5 : ((it.marks.length : Int) == (it.names.length : Int)) = true := by simp [h4])
          | (have h5 : ((it.marks.length : Int) == (it.names.length : Int)) = false := beq_eq_false_iff_ne.2 (by omega))
        clear h4
        go_wp2_with (first | (go_at_call 32; refine (l1In_any _ _ _ _).mono ?_; rintro e w' ⟨rfl, rfl⟩) | (go_at_call 66; refine (l1All_any _ _ _ _ _ (H2.out.kept ((Kept.refl w).alloc _))).mono ?_; rintro e w' ⟨rfl, rfl⟩))
        go_ret
        exact ⟨ret_bool (by unfold itemB; rw [HALL.out, h3]; simp [H4.out]), (Kept.refl _).alloc _⟩
set_option maxHeartbeats 1000000 in
theorem areItems_any (v : Value) (its : List ItemD) (w : World) (h : ItemsAt w v its) :
    Calls Tryz.prog 39 #[v] w fun e w' => e = .returned (.bool (itemsB its)) ∧ Kept w w' := by
  obtain ⟨A, c, cs, rfl, hnc, hcm, hA⟩ := h.out
  unfold maxLen at hcm
  have HA := Lib.hid hA
  clear hA h
  go_enter Tryz.func39, Tryz.ntmps39
  go_wp2_with fail
  go_loopw [7] (fun i wr => ∃ k : Nat, k ≤ its.length ∧ i = .int .i64 k ∧ (its.take k).all itemB = true ∧ Kept w wr) (fun i _ => its.length - (intOf i).toNat)
  case atStart => exact ⟨0, Nat.zero_le _, rfl, rfl, Kept.refl _⟩
  case round =>
    obtain ⟨k, hk, rfl, ha, hkept⟩ := hrel
    have HB := Lib.hid ha
    clear ha
    by_cases hlt : k < its.length
    · obtain ⟨b, o, A1, c1, A2, c2, it, rfl, hb, h2, h3, hit, q0, q1, q2⟩ := items_at (HA.out.kept hkept) hlt
      have HI := Lib.hid hit
      have HZ := Lib.hid h2
      clear h2 h3 hit
      by_cases hn : itemB it = true
      · go_wp2_with (go_at_call 26; refine (isItem_any _ it _ (HI.out.kept ((Kept.refl wr).alloc _))).mono ?_; rintro e w1 ⟨rfl, k1⟩)
        go_roundw
        case rel => exact ⟨k + 1, by omega, by go_num, all_snoc HZ.out HB.out hn, (hkept.alloc _).trans k1⟩
        case measure => simp [intOf]; omega
      · simp only [Bool.not_eq_true] at hn
        go_wp2_with (go_at_call 26; refine (isItem_any _ it _ (HI.out.kept ((Kept.refl wr).alloc _))).mono ?_; rintro e w1 ⟨rfl, k1⟩)
        go_ret
        exact ⟨ret_bool (by unfold itemsB; rw [all_not HZ.out hn]; rfl), (hkept.alloc _).trans k1⟩
    · have HALL := Lib.hid (all_full (p := itemB) (by omega) HB.out)
      go_wp2_with fail
      go_ret
      exact ⟨ret_bool (by unfold itemsB; rw [HALL.out, Bool.true_and]; exact decide_eq_decide.2 (by omega)), hkept⟩
set_option maxHeartbeats 1000000 in
theorem itList_any (v : Value) (its : List ItemD) (w : World) (h : ItemsAt w v its) :
    Calls Tryz.prog 42 #[v] w fun e w' => e = .returned (.bool (itemsB its)) ∧ Kept w w' := by
  obtain ⟨A, c, cs, rfl, hnc, hcm, hA⟩ := h.out
  unfold maxLen at hcm
  have HA := Lib.hid hA
  clear hA h
  go_enter Tryz.func42, Tryz.ntmps42
  go_wp2_with fail
  go_loopw [7] (fun i wr => ∃ k : Nat, k ≤ its.length ∧ i = .int .i64 k ∧ (its.take k).all itemB = true ∧ Kept w wr) (fun i _ => its.length - (intOf i).toNat)
  case atStart => exact ⟨0, Nat.zero_le _, rfl, rfl, Kept.refl _⟩
  case round =>
    obtain ⟨k, hk, rfl, ha, hkept⟩ := hrel
    have HB := Lib.hid ha
    clear ha
    by_cases hlt : k < its.length
    · obtain ⟨b, o, A1, c1, A2, c2, it, rfl, hb, h2, h3, hit, q0, q1, q2⟩ := items_at (HA.out.kept hkept) hlt
      have HI := Lib.hid hit
      have HZ := Lib.hid h2
      clear h2 h3 hit
      by_cases hn : itemB it = true
      · go_wp2_with (go_at_call 31; refine (itGood_any _ it _ (HI.out.kept ((Kept.refl wr).alloc _))).mono ?_; rintro e w1 ⟨rfl, k1⟩)
        go_roundw
        case rel => exact ⟨k + 1, by omega, by go_num, all_snoc HZ.out HB.out hn, (hkept.alloc _).trans k1⟩
        case measure => simp [intOf]; omega
      · simp only [Bool.not_eq_true] at hn
        go_wp2_with (go_at_call 31; refine (itGood_any _ it _ (HI.out.kept ((Kept.refl wr).alloc _))).mono ?_; rintro e w1 ⟨rfl, k1⟩)
        go_ret
        exact ⟨ret_bool (by unfold itemsB; rw [all_not HZ.out hn]; rfl), (hkept.alloc _).trans k1⟩
    · have HALL := Lib.hid (all_full (p := itemB) (by omega) HB.out)
      go_wp2_with fail
      go_ret
      exact ⟨ret_bool (by unfold itemsB; rw [HALL.out, Bool.true_and]; exact decide_eq_decide.2 (by omega)), hkept⟩
end Go.Proofs.YtkekpolfdmmgeaaGreat
