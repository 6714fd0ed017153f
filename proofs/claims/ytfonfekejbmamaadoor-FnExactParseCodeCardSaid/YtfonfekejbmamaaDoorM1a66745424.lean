/- Contracts of functions that the proof leans on. No condition. -/
import Derived.Test.YtfonfekejbmamaaDoorM5a3fed17ce
import Derived.Deep.QuietTactic
import Derived.BigQuiet
import Derived.Deep.RegionHeld3
import Derived.Deep.DeepCutAuto
/- Elements and codes: sizes, copies, comparisons. -/
namespace Go.Proofs.YtfonfekejbmamaaDoor
set_option linter.unusedVariables false
set_option linter.unusedSimpArgs false
open Go.RowKit

def ElemD.size (e : ElemD) : Nat := e.name.size
def elemsSize (es : List ElemD) : Nat := es.length + (es.map ElemD.size).sum
def CodeD.size (c : CodeD) : Nat := elemsSize c.elems + c.limits.length
theorem elem_size_le {es : List ElemD} {k : Nat} {e : ElemD} (h : es[k]? = some e) : e.size ≤ elemsSize es := by
  have := mem_le_sum (es.map ElemD.size) e.size (List.mem_map_of_mem (List.mem_of_getElem? h))
  unfold elemsSize
  omega
theorem code_parts (c : CodeD) : c.elems.length ≤ c.size ∧ c.limits.length ≤ c.size ∧ elemsSize c.elems ≤ c.size := by
  unfold CodeD.size elemsSize
  omega
theorem szElement_any (v : Value) (x : ElemD) (left : Int) (w : World) (h : ElemAt w v x) (h0 : 0 ≤ left) (h1 : left ≤ 1048576) :
    Calls Tryd.prog 69 #[v, .int .i64 left] w fun e w' => e = .returned (.int .i64 (lessOr left x.size)) ∧ Kept w w' := by
  obtain ⟨rfl, hs⟩ := h
  unfold maxLen at hs
  by_cases hb : (x.name.size : Int) ≤ left
  · go_enter Tryd.func69, Tryd.ntmps69
    go_wp2
    go_ret
    refine ⟨ret_int ?_, (Kept.refl w).alloc _⟩
    unfold lessOr ElemD.size
    rw [if_pos (by omega)]
  · go_enter Tryd.func69, Tryd.ntmps69
    go_wp2
    go_ret
    refine ⟨ret_int ?_, (Kept.refl w).alloc _⟩
    unfold lessOr ElemD.size
    rw [if_neg (by omega)]
set_option maxHeartbeats 400000 in
theorem szElementS_any (v : Value) (es : List ElemD) (left : Int) (w : World) (h : Elems w v es) (h0 : 0 ≤ left) (h1 : left ≤ 1048576) :
    Calls Tryd.prog 42 #[v, .int .i64 left] w fun e w' => e = .returned (.int .i64 (lessOr left (elemsSize es))) ∧ Kept w w' := by
  obtain ⟨A, c, rfl, hnc, hcm, hA⟩ := h.1.out
  unfold maxLen at hcm
  have HA := Lib.hid hA
  have HS := Lib.hid h.2
  clear hA h
  by_cases hb : (es.length : Int) ≤ left
  · go_enter Tryd.func42, Tryd.ntmps42
    go_wp2_with fail
    go_loopw [1, 5] (fun q i wr => ∃ k : Nat, k ≤ es.length ∧ i = .int .i64 k ∧ q = .int .i64 (left - es.length - ((es.take k).map ElemD.size).sum) ∧ 0 ≤ left - es.length - (((es.take k).map ElemD.size).sum : Nat) ∧ Kept w wr) (fun _ i _ => es.length - (intOf i).toNat)
    case atStart => exact ⟨0, Nat.zero_le _, rfl, by simp, by simp; omega, Kept.refl _⟩
    case round =>
      obtain ⟨k, hk, rfl, rfl, hge, hkept⟩ := hrel
      by_cases hlt : k < es.length
      · obtain ⟨b, o, x, rfl, hb', h2, q0, q1, q2, q3⟩ := elems_at (HA.out.kept hkept) hlt
        have HI : Hid (ElemAt wr _ x) := Lib.hid (ElemAt.mk x wr (HS.out x (List.mem_of_getElem? h2)))
        have HN := Lib.hid (sum_snoc ElemD.size h2)
        have HT := Lib.hid (sum_take _ ElemD.size es (k + 1))
        clear h2
        generalize ((es.take k).map ElemD.size).sum = sk at *
        by_cases hl2 : (x.size : Int) ≤ left - es.length - sk
        · have HE : Hid (lessOr (left - es.length - sk) x.size = left - es.length - sk - x.size) := by unfold lessOr; exact if_pos hl2
          go_wp2_with fail
          refine (szElement_any _ x _ _ HI.out hge (by omega)).mono ?_
          rintro e w1 ⟨rfl, k1⟩
          rw [HE.out]
          go_wp2_with fail
          go_roundw
          case rel => exact ⟨k + 1, by omega, by go_num, by rw [HN.out]; congr 1; omega, by rw [HN.out]; omega, hkept.trans k1⟩
          case measure => simp [intOf]; omega
        · have HE : Hid (lessOr (left - es.length - sk) x.size = -1) := by unfold lessOr; exact if_neg hl2
          go_wp2_with fail
          refine (szElement_any _ x _ _ HI.out hge (by omega)).mono ?_
          rintro e w1 ⟨rfl, k1⟩
          rw [HE.out]
          go_wp2_with fail
          go_ret
          refine ⟨ret_int ?_, hkept.trans k1⟩
          have q1 := HN.out
          have q2 := HT.out
          unfold lessOr elemsSize
          rw [if_neg (by omega)]
      · obtain rfl : k = es.length := by omega
        go_wp2_with fail
        go_ret
        refine ⟨ret_int ?_, hkept⟩
        try simp only [List.take_length] at hge ⊢
        unfold lessOr elemsSize
        rw [if_pos (by omega)]
        omega
  · go_enter Tryd.func42, Tryd.ntmps42
    go_wp2_with fail
    go_ret
    refine ⟨ret_int ?_, Kept.refl _⟩
    unfold lessOr elemsSize
    rw [if_neg (by omega)]
theorem szCode_any (v : Value) (x : CodeD) (left : Int) (w : World) (h : CodeAt w v x) (h0 : 0 ≤ left) (h1 : left ≤ 1048576) :
    Calls Tryd.prog 15 #[v, .int .i64 left] w fun e w' => e = .returned (.int .i64 (lessOr left x.size)) ∧ Kept w w' := by
  obtain ⟨nv, mv, rfl, q1, q2⟩ := h
  have H1 := Lib.hid q1
  have H2 := Lib.hid q2
  clear q1 q2
  obtain ⟨b1, b2⟩ := lessOr_bd (n := elemsSize x.elems) h0
  have B0 := Box.new w w.heap.size 35 #[nv, mv, .int .i64 x.repeats, .int .i64 x.bonus, .int .i64 x.keeps, .int .i64 x.fall] rfl
  by_cases hneg : lessOr left (elemsSize x.elems) < 0
  · have HF := Lib.hid (lessOr_neg (m := x.limits.length) hneg h0)
    go_enter Tryd.func15, Tryd.ntmps15
    go_wp2_with fail
    refine (szElementS_any _ _ _ _ (H1.out.kept ((Kept.refl _).alloc _)) h0 h1).mono ?_
    rintro e w1 ⟨rfl, k1⟩
    go_wp2_with fail
    go_ret
    exact ⟨ret_int HF.out.symm, ((Kept.refl _).alloc _).trans k1⟩
  · have HF := Lib.hid (lessOr_add (m := x.limits.length) (Int.not_lt.1 hneg))
    obtain ⟨b3, b4⟩ := lessOr_bd (n := x.limits.length) (Int.not_lt.1 hneg)
    have hpos : 0 ≤ lessOr left (elemsSize x.elems) := by omega
    have hfin : lessOr (lessOr left (elemsSize x.elems)) x.limits.length < 0 → lessOr (lessOr left (elemsSize x.elems)) x.limits.length = -1 := by omega
    have HN := Lib.hid hfin
    clear hfin
    go_enter Tryd.func15, Tryd.ntmps15
    go_wp2_with fail
    refine (szElementS_any _ _ _ _ (H1.out.kept ((Kept.refl _).alloc _)) h0 h1).mono ?_
    rintro e w1 ⟨rfl, k1⟩
    obtain ⟨c0, f0⟩ := (B0.kept k1).six
    have K1 : Kept w w1 := ((Kept.refl _).alloc _).trans k1
    clear B0 k1
    go_wp2_with (go_at_call 43; refine (szIntS_any _ _ _ _ (H2.out.kept K1) hpos (by omega)).mono ?_; rintro e w' ⟨rfl, rfl⟩)
    all_goals
      go_ret
      refine ⟨ret_int ?_, K1⟩
      unfold CodeD.size
      rw [← HF.out]
      try (rw [HN.out (by assumption)])
/-! ### copies -/
theorem info_elem : (Tryd.prog.info? 83).map (fun i => (i.zero, i.size, i.bytes)) = some (some (.agg #[.string ByteArray.empty, .int .i64 0, .int .i64 0, .int .i64 0]), 4, 40) := by kernel_rfl
set_option maxHeartbeats 400000 in
theorem toElement_any (v : Value) (x : ElemD) (w : World) (h : ElemAt w v x) :
    Calls Tryd.prog 74 #[v] w fun e w' => e = .returned (.agg #[.string x.name, .int .i64 x.family, .int .i64 x.level, .int .i64 x.base]) ∧ Kept w w' := by
  obtain ⟨rfl, hs⟩ := h
  unfold maxLen at hs
  go_enter Tryd.func74, Tryd.ntmps74
  go_wp2_with fail
  refine bodyPost_ret (v := .agg #[.string x.name, .int .i64 x.family, .int .i64 x.level, .int .i64 x.base]) (by simp [results, Tryd.results74, go_sem]) rfl ⟨rfl, ?_⟩
  repeat (refine Kept.setCell ?_ (by dsimp only; omega) _)
  exact (((Kept.refl w).alloc _).alloc _).alloc _
theorem set4_take {xs ys : List Value} {k n : Nat} {a b c d : Value} (hl : xs.length = n * 4) (hk : k < n) (ht : xs.take (k * 4) = ys) :
    ((((xs.set (k * 4) a).set (k * 4 + 1) b).set (k * 4 + 2) c).set (k * 4 + 3) d).take ((k + 1) * 4) = ys ++ [a, b, c, d] := by
  have h1 : k * 4 + 3 < xs.length := by omega
  rw [show (k + 1) * 4 = k * 4 + 3 + 1 from by omega]
  rw [take_snoc (x := d) (by rw [List.getElem?_set_self (by simp; omega)]), List.take_set_of_le (Nat.le_refl _)]
  rw [take_snoc (x := c) (by rw [List.getElem?_set_self (by simp; omega)]), List.take_set_of_le (Nat.le_refl _)]
  rw [take_snoc (x := b) (by rw [List.getElem?_set_self (by simp; omega)]), List.take_set_of_le (Nat.le_refl _)]
  rw [take_snoc (x := a) (by rw [List.getElem?_set_self (by omega)]), List.take_set_of_le (Nat.le_refl _), ht]
  simp
set_option maxHeartbeats 1000000 in
theorem toElementS_any (v : Value) (es : List ElemD) (w : World) (h : Elems w v es) (hn : es.length ≤ 1048576) :
    Calls Tryd.prog 46 #[v] w fun e w' => ∃ v', e = .returned v' ∧ OwnE w' w.heap.size v' es ∧ Kept w w' := by
  obtain ⟨A, c, rfl, hnc, hcm, hA⟩ := h.1.out
  unfold maxLen at hcm
  have HA := Lib.hid hA
  have HS := Lib.hid h.2
  clear hA h
  obtain ⟨i0, hi, hz0, hz1, hz2⟩ := info_parts info_elem
  go_enter Tryd.func46, Tryd.ntmps46
  go_wp2_with (at_make; refine wpList_make_full _ rfl _ _ 39 rfl w.heap.size 83 i0 _ 4 Tryd.underlying39 hi hz0 hz1 _ _ _ _ es.length rfl rfl rfl rfl (by rw [hz2]; omega) (by unfold maxLen; omega) (Nat.le_refl _) ?_; intro w1 hown hgrow)
  have hk1 : Kept w w1 := (Below.refl _ _).grown hgrow (Nat.le_refl _) (by intro k hk; cases hk)
  have hsz1 : w.heap.size < w1.heap.size := (hown.lt w.heap.size rfl).2
  clear hgrow hi hz0 hz1 hz2
  go_loopw [4] (fun i wr => ∃ (k : Nat) (xs : List Value), k ≤ es.length ∧ i = .int .i64 k ∧ wr.ownsRow w.heap.size 83 4 (.slice (some ⟨w.heap.size, 0, none⟩) es.length es.length) es.length xs ∧ xs.take (k * 4) = (es.take k).flatMap cells4 ∧ Kept w wr) (fun i _ => es.length - (intOf i).toNat)
  case atStart => exact ⟨0, _, Nat.zero_le _, rfl, hown, by simp, hk1⟩
  case round =>
    clear hown hk1
    obtain ⟨k, xs, hk, rfl, ho, ht, hkept⟩ := hrel
    by_cases hlt : k < es.length
    · obtain ⟨b, o, x, rfl, hb, h2, q0, q1, q2, q3⟩ := elems_at (HA.out.kept hkept) hlt
      have HI := Lib.hid (ElemAt.mk x wr (HS.out x (List.mem_of_getElem? h2)))
      have H2 := Lib.hid h2
      have HO := Lib.hid ho
      have HT := Lib.hid ht
      clear h2 ho ht
      go_wp2_with fail
      refine (toElement_any _ x _ HI.out).mono ?_
      rintro e w2 ⟨rfl, k2⟩
      have ho2 := own_kept HO.out k2
      obtain ⟨u0, _, x0, y0⟩ := own_at ho2 (j := k * 4) (by omega)
      obtain ⟨u1, _, x1, y1⟩ := own_at ho2 (j := k * 4 + 1) (by omega)
      obtain ⟨u2', _, x2, y2⟩ := own_at ho2 (j := k * 4 + 2) (by omega)
      obtain ⟨u3', _, x3, y3⟩ := own_at ho2 (j := k * 4 + 3) (by omega)
      have HO2 := Lib.hid ho2
      clear ho2 q0 q1 q2 q3
      go_wp2_with fail
      have hlenx : xs.length = es.length * 4 := HO.out.1
      go_roundw
      case rel =>
        refine ⟨k + 1, _, by omega, by go_num, ((((HO2.out.stored (k * 4) _).1.stored (k * 4 + 1) _).1.stored (k * 4 + 2) _).1.stored (k * 4 + 3) _).1, ?_, ?_⟩
        · rw [set4_take hlenx hlt HT.out, take_snoc H2.out]
          simp [cells4]
        · repeat (refine Kept.setCell ?_ (by dsimp only; omega) _)
          exact hkept.trans k2
      case measure => simp [intOf]; omega
    · obtain rfl : k = es.length := by omega
      have hlenx : xs.length = es.length * 4 := ho.1
      have hx : xs = es.flatMap cells4 := by rw [List.take_length] at ht; rw [← ht, List.take_of_length_le (by omega)]
      have HO := Lib.hid ho
      have HX := Lib.hid hx
      clear ho ht hx hlenx
      go_wp2_with fail
      go_ret
      exact ⟨_, rfl, ⟨by rw [← HX.out]; exact HO.out, HS.out⟩, hkept⟩
end Go.Proofs.YtfonfekejbmamaaDoor

/- Which codes are valid. -/
namespace Go.Proofs.YtfonfekejbmamaaDoor
set_option linter.unusedVariables false
set_option linter.unusedSimpArgs false
open Go.RowKit

def elemB (x : ElemD) : Bool := nameB x.name && inB x.family 0 4 && inB x.level 0 4 && inB x.base 1 2000
def stepB (es : List ElemD) (k : Nat) : Bool :=
  match es[k]? with
  | none => true
  | some x => elemB x && (k == 0 || match es[k - 1]? with | none => false | some p => Op.bytesLess p.name.toList x.name.toList)
def headB (c : CodeD) : Bool := inB c.elems.length 1 24 && (c.limits.length == 5) && c.limits.all (inB · 0 9)
def restB (c : CodeD) : Bool := inB c.repeats 1 3 && inB c.bonus 0 20 && inB c.keeps 50 100 && inB c.fall 0 500
def elemsB (es : List ElemD) : Bool := (List.range es.length).all (stepB es)
def codeB (c : CodeD) : Bool := headB c && restB c && elemsB c.elems
theorem range_snoc {p : Nat → Bool} {k : Nat} (h : (List.range k).all p = true) (hk : p k = true) : (List.range (k + 1)).all p = true := by
  rw [List.range_succ, List.all_append, h]
  simp [hk]
theorem range_not {p : Nat → Bool} {k n : Nat} (h : k < n) (hk : p k = false) : (List.range n).all p = false := by
  rw [List.all_eq_false]
  exact ⟨k, by simpa using h, by simp [hk]⟩
theorem stepB_zero {es : List ElemD} {x : ElemD} (h : es[0]? = some x) : stepB es 0 = elemB x := by
  unfold stepB
  rw [h]
  simp
theorem stepB_succ {es : List ElemD} {k : Nat} {x p : ElemD} (h : es[k + 1]? = some x) (hp : es[k]? = some p) : stepB es (k + 1) = (elemB x && Op.bytesLess p.name.toList x.name.toList) := by
  unfold stepB
  rw [h]
  simp [hp]
theorem stepB_elem {es : List ElemD} {k : Nat} {x : ElemD} (h : es[k]? = some x) (hx : elemB x = false) : stepB es k = false := by
  unfold stepB
  rw [h]
  simp [hx]
theorem codeB_head {c : CodeD} (h : headB c = false) : codeB c = false := by unfold codeB; rw [h]; rfl
theorem codeB_rest {c : CodeD} (h : restB c = false) : codeB c = false := by unfold codeB; rw [h, Bool.and_false]; rfl
theorem codeB_elems {c : CodeD} (h : elemsB c.elems = false) : codeB c = false := by unfold codeB; rw [h, Bool.and_false]
theorem isFamily_any (n : Int) (w : World) :
    Calls Tryd.prog 76 #[.int .i64 n] w fun e w' => e = .returned (.bool (inB n 0 4)) ∧ w = w' := by
  go_enter Tryd.func76, Tryd.ntmps76
  go_wp2_with (go_at_call 56; refine (within_any _ _ _ _).mono ?_; rintro e w' ⟨rfl, rfl⟩)
  go_ret
  exact ⟨rfl, rfl⟩
set_option maxRecDepth 100000 in
set_option maxHeartbeats 2000000 in
theorem isCode_any (v : Value) (x : CodeD) (w : World) (h : CodeAt w v x) :
    Calls Tryd.prog 48 #[v] w fun e w' => e = .returned (.bool (codeB x)) ∧ Kept w w' := by
  obtain ⟨nv, mv, rfl, q1, q2⟩ := h
  obtain ⟨A, c, rfl, hnc, hcm, hl⟩ := q1.1.out
  obtain ⟨A2, c2, rfl, hnc2, hcm2, _⟩ := q2.out
  unfold maxLen at hcm hcm2
  have HL := Lib.hid hl
  have HS := Lib.hid q1.2
  have H2 := Lib.hid q2
  clear q1 q2 hl
  go_enter Tryd.func48, Tryd.ntmps48
  by_cases g1 : inB x.elems.length 1 24 = true
  case neg =>
    simp only [Bool.not_eq_true] at g1
    go_wp2_with (go_at_call 56; refine (within_any _ _ _ _).mono ?_; rintro e w' ⟨rfl, rfl⟩)
    go_ret
    exact ⟨ret_bool (codeB_head (by unfold headB; rw [g1]; rfl)).symm, (Kept.refl _).alloc _⟩
  by_cases g2' : x.limits.length = 5
  case neg =>
    have g2 : ((x.limits.length : Int) != 5) = true := bne_iff_ne.2 (by omega)
    go_wp2_with (go_at_call 56; refine (within_any _ _ _ _).mono ?_; rintro e w' ⟨rfl, rfl⟩)
    go_ret
    exact ⟨ret_bool (codeB_head (by unfold headB; rw [g1]; simp [g2'])).symm, (Kept.refl _).alloc _⟩
  have g2 : ((x.limits.length : Int) != 5) = false := by simp [g2']
  have G2 := Lib.hid g2'
  clear g2'
  by_cases g3 : x.limits.all (inB · 0 9) = true
  case neg =>
    simp only [Bool.not_eq_true] at g3
    go_wp2_with (first | (go_at_call 56; refine (within_any _ _ _ _).mono ?_; rintro e w' ⟨rfl, rfl⟩) | (go_at_call 66; refine (allWithin_any _ _ _ _ _ (H2.out.kept ((Kept.refl w).alloc _))).mono ?_; rintro e w' ⟨rfl, rfl⟩))
    go_ret
    exact ⟨ret_bool (codeB_head (by unfold headB; rw [g1, g3]; simp [G2.out])).symm, (Kept.refl _).alloc _⟩
  have HH := Lib.hid (show headB x = true from by unfold headB; rw [g1, g3]; simp [G2.out])
  by_cases g4 : inB x.repeats 1 3 = true
  case neg =>
    simp only [Bool.not_eq_true] at g4
    go_wp2_with (first | (go_at_call 56; refine (within_any _ _ _ _).mono ?_; rintro e w' ⟨rfl, rfl⟩) | (go_at_call 66; refine (allWithin_any _ _ _ _ _ (H2.out.kept ((Kept.refl w).alloc _))).mono ?_; rintro e w' ⟨rfl, rfl⟩))
    go_ret
    exact ⟨ret_bool (codeB_rest (by unfold restB; rw [g4]; rfl)).symm, (Kept.refl _).alloc _⟩
  by_cases g5 : inB x.bonus 0 20 = true
  case neg =>
    simp only [Bool.not_eq_true] at g5
    go_wp2_with (first | (go_at_call 56; refine (within_any _ _ _ _).mono ?_; rintro e w' ⟨rfl, rfl⟩) | (go_at_call 66; refine (allWithin_any _ _ _ _ _ (H2.out.kept ((Kept.refl w).alloc _))).mono ?_; rintro e w' ⟨rfl, rfl⟩))
    go_ret
    exact ⟨ret_bool (codeB_rest (by unfold restB; rw [g4, g5]; rfl)).symm, (Kept.refl _).alloc _⟩
  by_cases g6 : inB x.keeps 50 100 = true
  case neg =>
    simp only [Bool.not_eq_true] at g6
    go_wp2_with (first | (go_at_call 56; refine (within_any _ _ _ _).mono ?_; rintro e w' ⟨rfl, rfl⟩) | (go_at_call 66; refine (allWithin_any _ _ _ _ _ (H2.out.kept ((Kept.refl w).alloc _))).mono ?_; rintro e w' ⟨rfl, rfl⟩))
    go_ret
    exact ⟨ret_bool (codeB_rest (by unfold restB; rw [g4, g5, g6]; rfl)).symm, (Kept.refl _).alloc _⟩
  by_cases g7 : inB x.fall 0 500 = true
  case neg =>
    simp only [Bool.not_eq_true] at g7
    go_wp2_with (first | (go_at_call 56; refine (within_any _ _ _ _).mono ?_; rintro e w' ⟨rfl, rfl⟩) | (go_at_call 66; refine (allWithin_any _ _ _ _ _ (H2.out.kept ((Kept.refl w).alloc _))).mono ?_; rintro e w' ⟨rfl, rfl⟩))
    go_ret
    exact ⟨ret_bool (codeB_rest (by unfold restB; rw [g4, g5, g6, g7]; rfl)).symm, (Kept.refl _).alloc _⟩
  have HR : Hid (restB x = true) := by unfold restB; rw [g4, g5, g6, g7]; rfl
  go_wp2_with (first | (go_at_call 56; refine (within_any _ _ _ _).mono ?_; rintro e w' ⟨rfl, rfl⟩) | (go_at_call 66; refine (allWithin_any _ _ _ _ _ (H2.out.kept ((Kept.refl w).alloc _))).mono ?_; rintro e w' ⟨rfl, rfl⟩))
  clear g1 g2 g3 g4 g5 g6 g7
  have B0 := Box.new w w.heap.size 41 #[.slice A x.elems.length c, .slice A2 x.limits.length c2, .int .i64 x.repeats, .int .i64 x.bonus, .int .i64 x.keeps, .int .i64 x.fall] rfl
  have K0 : Kept w (w.alloc (.cells #[.slice A x.elems.length c, .slice A2 x.limits.length c2, .int .i64 x.repeats, .int .i64 x.bonus, .int .i64 x.keeps, .int .i64 x.fall] 41)) := (Kept.refl w).alloc _
  generalize w.alloc (.cells #[.slice A x.elems.length c, .slice A2 x.limits.length c2, .int .i64 x.repeats, .int .i64 x.bonus, .int .i64 x.keeps, .int .i64 x.fall] 41) = w0 at *
  go_loopw [47] (fun i wr => ∃ k : Nat, k ≤ x.elems.length ∧ i = .int .i64 k ∧ (List.range k).all (stepB x.elems) = true ∧ Kept w0 wr) (fun i _ => x.elems.length - (intOf i).toNat)
  case atStart => exact ⟨0, Nat.zero_le _, rfl, rfl, Kept.refl _⟩
  case round =>
    obtain ⟨k, hk, rfl, ha, hkept⟩ := hrel
    have HB := Lib.hid ha
    clear ha
    by_cases hlt : k < x.elems.length
    · obtain ⟨b, o, y, rfl, hb, h2, q0, q1, q2, q3⟩ := elems_at (HL.out.kept (K0.trans hkept)) hlt
      have hys := HS.out y (List.mem_of_getElem? h2)
      have HZ := Lib.hid h2
      clear h2
      by_cases he : elemB y = true
      case neg =>
        simp only [Bool.not_eq_true] at he
        have HE : Hid (codeB x = false) := codeB_elems (range_not hlt (stepB_elem HZ.out he))
        unfold elemB at he
        by_cases e1 : nameB y.name = true <;> by_cases e2 : inB y.family 0 4 = true <;> by_cases e3 : inB y.level 0 4 = true <;> by_cases e4 : inB y.base 1 2000 = true
        · simp [e1, e2, e3, e4] at he
        all_goals
          simp only [Bool.not_eq_true] at e1 e2 e3 e4
          clear he
          go_wp2_with (first | (go_at_call 75; refine (isElementName_any _ _ hys).mono ?_; rintro e w' ⟨rfl, rfl⟩) | (go_at_call 76; refine (isFamily_any _ _).mono ?_; rintro e w' ⟨rfl, rfl⟩) | (go_at_call 56; refine (within_any _ _ _ _).mono ?_; rintro e w' ⟨rfl, rfl⟩))
          go_ret
          exact ⟨ret_bool HE.out.symm, (K0.trans hkept).alloc _⟩
      have he' := he
      unfold elemB at he'
      simp only [Bool.and_eq_true] at he'
      obtain ⟨⟨⟨e1, e2⟩, e3⟩, e4⟩ := he'
      have HE := Lib.hid he
      clear he
      have KA : Kept wr (wr.alloc (.cells #[.string y.name, .int .i64 y.family, .int .i64 y.level, .int .i64 y.base] 83)) := (Kept.refl wr).alloc _
      obtain ⟨x0, y0⟩ := (B0.kept (hkept.trans KA)).six
      by_cases hk0 : k = 0
      · have HK := Lib.hid hk0
        have hd : decide ((0 : Int) < (k : Int)) = false := by simp; omega
        have hd2 : decide (0 < k) = false := by simp; omega
        clear hk0
        go_wp2_with (first | (go_at_call 75; refine (isElementName_any _ _ hys).mono ?_; rintro e w' ⟨rfl, rfl⟩) | (go_at_call 76; refine (isFamily_any _ _).mono ?_; rintro e w' ⟨rfl, rfl⟩) | (go_at_call 56; refine (within_any _ _ _ _).mono ?_; rintro e w' ⟨rfl, rfl⟩))
        go_quiet (fail)
        go_wp2_with fail
        go_roundw
        case rel => exact ⟨k + 1, by omega, by go_num, range_snoc HB.out (by have h := HZ.out; rw [HK.out] at h ⊢; rw [stepB_zero h]; exact HE.out), (hkept.trans KA).drewN _⟩
        case measure => simp [intOf]; omega
      · obtain ⟨j, hj⟩ : ∃ j, k = j + 1 := ⟨k - 1, by omega⟩
        obtain ⟨b', o', p, eA, hb', h2', q0', q1', q2', q3'⟩ := elems_at (HL.out.kept ((K0.trans hkept).trans KA)) (k := j) (by omega)
        injection eA with eA
        injection eA with eA1 eA2 eA3
        subst eA1 eA2
        have HP := Lib.hid h2'
        have HJ := Lib.hid hj
        have f3 : (j : Int) < (x.elems.length : Int) := by omega
        have f4 : (0 : Int) < (k : Int) := by omega
        have f5 : 0 < k := by omega
        have f1 : ((k : Int) - 1) = (j : Int) := by omega
        have f2 : IntKind.i64.wrap ((k : Int) - 1) = (j : Int) := by rw [f1]; exact IntWalk.i64_in _ (by omega)
        have HST : Hid (stepB x.elems k = (elemB y && Op.bytesLess p.name.toList y.name.toList)) := by have h := HZ.out; rw [hj] at h ⊢; exact stepB_succ h h2'
        clear h2' eA3 hj hk0
        by_cases hless : Op.bytesLess p.name.toList y.name.toList = true
        · go_wp2_with (first | (go_at_call 75; refine (isElementName_any _ _ hys).mono ?_; rintro e w' ⟨rfl, rfl⟩) | (go_at_call 76; refine (isFamily_any _ _).mono ?_; rintro e w' ⟨rfl, rfl⟩) | (go_at_call 56; refine (within_any _ _ _ _).mono ?_; rintro e w' ⟨rfl, rfl⟩))
          go_quiet (fail)
          go_wp2_with fail
          go_roundw
          case rel => exact ⟨k + 1, by omega, by go_num, range_snoc HB.out (by rw [HST.out, HE.out, hless]; rfl), (hkept.trans KA).drewN _⟩
          case measure => simp [intOf]; omega
        · simp only [Bool.not_eq_true] at hless
          have HF : Hid (codeB x = false) := codeB_elems (range_not hlt (by rw [HST.out, HE.out, hless]; rfl))
          go_wp2_with (first | (go_at_call 75; refine (isElementName_any _ _ hys).mono ?_; rintro e w' ⟨rfl, rfl⟩) | (go_at_call 76; refine (isFamily_any _ _).mono ?_; rintro e w' ⟨rfl, rfl⟩) | (go_at_call 56; refine (within_any _ _ _ _).mono ?_; rintro e w' ⟨rfl, rfl⟩))
          go_quiet (fail)
          go_wp2_with fail
          go_ret
          exact ⟨ret_bool HF.out.symm, ((K0.trans hkept).trans KA).drewN _⟩
    · obtain rfl : k = x.elems.length := by omega
      go_wp2_with fail
      go_ret
      exact ⟨ret_bool (by unfold codeB elemsB; rw [HH.out, HR.out, HB.out]; rfl), K0.trans hkept⟩
end Go.Proofs.YtfonfekejbmamaaDoor

/- Which codes are valid, the reference's reading. -/
namespace Go.Proofs.YtfonfekejbmamaaDoor
set_option linter.unusedVariables false
set_option linter.unusedSimpArgs false
open Go.RowKit

set_option maxHeartbeats 1000000 in
theorem cdElement_any (v : Value) (x : ElemD) (w : World) (h : ElemAt w v x) :
    Calls Tryd.prog 70 #[v] w fun e w' => e = .returned (.bool (elemB x)) ∧ Kept w w' := by
  obtain ⟨rfl, hs⟩ := h
  by_cases e1 : nameB x.name = true <;> by_cases e2 : inB x.family 0 4 = true <;> by_cases e3 : inB x.level 0 4 = true
  all_goals
    try simp only [Bool.not_eq_true] at e1
    try simp only [Bool.not_eq_true] at e2
    try simp only [Bool.not_eq_true] at e3
    go_enter Tryd.func70, Tryd.ntmps70
    go_wp2_with (first | (go_at_call 88; refine (cdName_any _ _ hs).mono ?_; rintro e w' ⟨rfl, rfl⟩) | (go_at_call 71; refine (l1In_any _ _ _ _).mono ?_; rintro e w' ⟨rfl, rfl⟩))
    go_ret
    exact ⟨ret_bool (by unfold elemB; simp only [e1, e2, e3, Bool.true_and, Bool.and_true, Bool.false_and, Bool.and_false]), (Kept.refl _).alloc _⟩
theorem cdElement_is (b : Bool) (v : Value) (x : ElemD) (w : World) (h : ElemAt w v x) (hb : elemB x = b) :
    Calls Tryd.prog 70 #[v] w fun e w' => e = .returned (.bool b) ∧ Kept w w' := hb ▸ cdElement_any v x w h
theorem codeB_parts (x : CodeD) : codeB x = (inB x.elems.length 1 24 && (x.limits.length == 5) && x.limits.all (inB · 0 9) && inB x.repeats 1 3 && inB x.bonus 0 20 && inB x.keeps 50 100 && inB x.fall 0 500 && elemsB x.elems) := by
  unfold codeB headB restB
  simp only [Bool.and_assoc]
set_option maxRecDepth 100000 in
set_option maxHeartbeats 2000000 in
theorem cdGood_any (v : Value) (x : CodeD) (w : World) (h : CodeAt w v x) :
    Calls Tryd.prog 44 #[v] w fun e w' => e = .returned (.bool (codeB x)) ∧ Kept w w' := by
  obtain ⟨nv, mv, rfl, q1, q2⟩ := h
  obtain ⟨A, c, rfl, hnc, hcm, hl⟩ := q1.1.out
  obtain ⟨A2, c2, rfl, hnc2, hcm2, _⟩ := q2.out
  unfold maxLen at hcm hcm2
  have HL := Lib.hid hl
  have HS := Lib.hid q1.2
  have H2 := Lib.hid q2
  clear q1 q2 hl
  go_enter Tryd.func44, Tryd.ntmps44
  go_wp2_with fail
  have B0 := Box.new w w.heap.size 41 #[.slice A x.elems.length c, .slice A2 x.limits.length c2, .int .i64 x.repeats, .int .i64 x.bonus, .int .i64 x.keeps, .int .i64 x.fall] rfl
  have K0 : Kept w (w.alloc (.cells #[.slice A x.elems.length c, .slice A2 x.limits.length c2, .int .i64 x.repeats, .int .i64 x.bonus, .int .i64 x.keeps, .int .i64 x.fall] 41)) := (Kept.refl w).alloc _
  generalize w.alloc (.cells #[.slice A x.elems.length c, .slice A2 x.limits.length c2, .int .i64 x.repeats, .int .i64 x.bonus, .int .i64 x.keeps, .int .i64 x.fall] 41) = w0 at *
  go_loopw [8] (fun i wr => ∃ k : Nat, k ≤ x.elems.length ∧ i = .int .i64 k ∧ (List.range k).all (stepB x.elems) = true ∧ Kept w0 wr) (fun i _ => x.elems.length - (intOf i).toNat)
  case atStart => exact ⟨0, Nat.zero_le _, rfl, rfl, Kept.refl _⟩
  case round =>
    obtain ⟨k, hk, rfl, ha, hkept⟩ := hrel
    have HB := Lib.hid ha
    clear ha
    by_cases hlt : k < x.elems.length
    · obtain ⟨b, o, y, rfl, hb, h2, q0, q1, q2, q3⟩ := elems_at (HL.out.kept (K0.trans hkept)) hlt
      have hys := HS.out y (List.mem_of_getElem? h2)
      have HZ := Lib.hid h2
      clear h2
      have KA : Kept wr (wr.alloc (.cells #[.string y.name, .int .i64 y.family, .int .i64 y.level, .int .i64 y.base] 83)) := (Kept.refl wr).alloc _
      have BY := Box.new wr wr.heap.size 83 #[.string y.name, .int .i64 y.family, .int .i64 y.level, .int .i64 y.base] rfl
      go_wp2_with fail
      replace BY : Box (wr.alloc (.cells #[.string y.name, .int .i64 y.family, .int .i64 y.level, .int .i64 y.base] 83)).drew wr.heap.size 83 #[.string y.name, .int .i64 y.family, .int .i64 y.level, .int .i64 y.base] := BY
      have KD := KA.drew
      replace B0 := B0.kept (hkept.trans KD)
      clear q0 q1 q2 q3
      have bc := fun s : After (wr.alloc (.cells #[.string y.name, .int .i64 y.family, .int .i64 y.level, .int .i64 y.base] 83)).drew => (BY.kept s.kept).four.1
      have kc := fun s : After (wr.alloc (.cells #[.string y.name, .int .i64 y.family, .int .i64 y.level, .int .i64 y.base] 83)).drew => (B0.kept s.kept).six.1.1
      by_cases he : elemB y = true
      case neg =>
        simp only [Bool.not_eq_true] at he
        have HE := Lib.hid (codeB_elems (range_not hlt (stepB_elem HZ.out he)))
        refine region_after (by kernel_rfl) (by kernel_rfl) ?_
        repeat (go_big_quiet_step ((go_at_call 70; exact after_of (cdElement_is false _ y _ (ElemAt.mk y _ hys) he))))
        refine wpQuiet_nil ?_
        intro wq hw'
        obtain ⟨⟨_, kq⟩, hw''⟩ := hw'
        subst hw''
        try dsimp only
        go_wp2_with fail
        go_ret
        exact ⟨ret_bool HE.out.symm, ((K0.trans hkept).trans KD).trans kq⟩
      have HE := Lib.hid he
      by_cases hk0 : k = 0
      · have HK := Lib.hid hk0
        have hd : decide ((0 : Int) < (k : Int)) = false := by simp; omega
        have hd2 : decide (0 < k) = false := by simp; omega
        clear hk0
        refine region_after (by kernel_rfl) (by kernel_rfl) ?_
        repeat (go_big_quiet_step ((go_at_call 70; exact after_of (cdElement_is true _ y _ (ElemAt.mk y _ hys) HE.out))))
        refine wpQuiet_nil ?_
        intro wq hw'
        obtain ⟨⟨_, kq⟩, hw''⟩ := hw'
        subst hw''
        try dsimp only
        go_wp2_with fail
        go_roundw
        case rel => exact ⟨k + 1, by omega, by go_num, range_snoc HB.out (by have h := HZ.out; rw [HK.out] at h ⊢; rw [stepB_zero h]; exact HE.out), (hkept.trans KD).trans kq⟩
        case measure => simp [intOf]; omega
      · obtain ⟨j, hj⟩ : ∃ j, k = j + 1 := ⟨k - 1, by omega⟩
        obtain ⟨b', o', p, eA, hb', h2', q0', q1', q2', q3'⟩ := elems_at (HL.out.kept ((K0.trans hkept).trans KD)) (k := j) (by omega)
        injection eA with eA
        injection eA with eA1 eA2 eA3
        subst eA1 eA2
        have f3 : (j : Int) < (x.elems.length : Int) := by omega
        have f4 : (0 : Int) < (k : Int) := by omega
        have f5 : 0 < k := by omega
        have f1 : ((k : Int) - 1) = (j : Int) := by omega
        have f2 : IntKind.i64.wrap ((k : Int) - 1) = (j : Int) := by rw [f1]; exact IntWalk.i64_in _ (by omega)
        have HST := Lib.hid (show stepB x.elems k = (elemB y && Op.bytesLess p.name.toList y.name.toList) from by have h := HZ.out; rw [hj] at h ⊢; exact stepB_succ h h2')
        have pc := After.cell q0' hb'
        clear h2' eA3 hj hk0 q0' q1' q2' q3'
        by_cases hless : Op.bytesLess p.name.toList y.name.toList = true
        · refine region_after (by kernel_rfl) (by kernel_rfl) ?_
          repeat (go_big_quiet_step ((go_at_call 70; exact after_of (cdElement_is true _ y _ (ElemAt.mk y _ hys) HE.out))))
          refine wpQuiet_nil ?_
          intro wq hw'
          obtain ⟨⟨_, kq⟩, hw''⟩ := hw'
          subst hw''
          try dsimp only
          go_wp2_with fail
          go_roundw
          case rel => exact ⟨k + 1, by omega, by go_num, range_snoc HB.out (by rw [HST.out, HE.out, hless]; rfl), (hkept.trans KD).trans kq⟩
          case measure => simp [intOf]; omega
        · simp only [Bool.not_eq_true] at hless
          have HF := Lib.hid (codeB_elems (range_not hlt (show stepB x.elems k = false by rw [HST.out, HE.out, hless]; rfl)))
          refine region_after (by kernel_rfl) (by kernel_rfl) ?_
          repeat (go_big_quiet_step ((go_at_call 70; exact after_of (cdElement_is true _ y _ (ElemAt.mk y _ hys) HE.out))))
          refine wpQuiet_nil ?_
          intro wq hw'
          obtain ⟨⟨_, kq⟩, hw''⟩ := hw'
          subst hw''
          try dsimp only
          go_wp2_with fail
          go_ret
          exact ⟨ret_bool HF.out.symm, ((K0.trans hkept).trans KD).trans kq⟩
    · obtain rfl : k = x.elems.length := by omega
      have HEB := Lib.hid (show codeB x = (inB x.elems.length 1 24 && (x.limits.length == 5) && x.limits.all (inB · 0 9) && inB x.repeats 1 3 && inB x.bonus 0 20 && inB x.keeps 50 100 && inB x.fall 0 500) from by
        rw [codeB_parts, show elemsB x.elems = true from HB.out, Bool.and_true])
      obtain ⟨x0, y0⟩ := (B0.kept hkept).six
      have hk2 := K0.trans hkept
      by_cases g1 : inB x.elems.length 1 24 = true
      case neg =>
        simp only [Bool.not_eq_true] at g1
        go_wp2_with (go_at_call 71; refine (l1In_any _ _ _ _).mono ?_; rintro e w' ⟨rfl, rfl⟩)
        go_ret
        exact ⟨ret_bool (by rw [HEB.out, g1]; rfl), hk2⟩
      by_cases g2' : x.limits.length = 5
      case neg =>
        have g2 : ((x.limits.length : Int) == 5) = false := beq_eq_false_iff_ne.2 (by omega)
        have G2 := Lib.hid (show (x.limits.length == 5) = false from beq_eq_false_iff_ne.2 g2')
        clear g2'
        go_wp2_with (go_at_call 71; refine (l1In_any _ _ _ _).mono ?_; rintro e w' ⟨rfl, rfl⟩)
        go_ret
        exact ⟨ret_bool (by rw [HEB.out, g1, G2.out]; rfl), hk2⟩
      have g2 : ((x.limits.length : Int) == 5) = true := by simp [g2']
      have G2 := Lib.hid (show (x.limits.length == 5) = true from by simp [g2'])
      clear g2'
      by_cases g3 : x.limits.all (inB · 0 9) = true
      case neg =>
        simp only [Bool.not_eq_true] at g3
        go_wp2_with (first | (go_at_call 71; refine (l1In_any _ _ _ _).mono ?_; rintro e w' ⟨rfl, rfl⟩) | (go_at_call 72; refine (l1All_any _ _ _ _ _ (H2.out.kept hk2)).mono ?_; rintro e w' ⟨rfl, rfl⟩))
        go_ret
        exact ⟨ret_bool (by rw [HEB.out, g1, G2.out, g3]; rfl), hk2⟩
      by_cases g4 : inB x.repeats 1 3 = true
      case neg =>
        simp only [Bool.not_eq_true] at g4
        go_wp2_with (first | (go_at_call 71; refine (l1In_any _ _ _ _).mono ?_; rintro e w' ⟨rfl, rfl⟩) | (go_at_call 72; refine (l1All_any _ _ _ _ _ (H2.out.kept hk2)).mono ?_; rintro e w' ⟨rfl, rfl⟩))
        go_ret
        exact ⟨ret_bool (by rw [HEB.out, g1, G2.out, g3, g4]; rfl), hk2⟩
      by_cases g5 : inB x.bonus 0 20 = true
      case neg =>
        simp only [Bool.not_eq_true] at g5
        go_wp2_with (first | (go_at_call 71; refine (l1In_any _ _ _ _).mono ?_; rintro e w' ⟨rfl, rfl⟩) | (go_at_call 72; refine (l1All_any _ _ _ _ _ (H2.out.kept hk2)).mono ?_; rintro e w' ⟨rfl, rfl⟩))
        go_ret
        exact ⟨ret_bool (by rw [HEB.out, g1, G2.out, g3, g4, g5]; rfl), hk2⟩
      by_cases g6 : inB x.keeps 50 100 = true
      case neg =>
        simp only [Bool.not_eq_true] at g6
        go_wp2_with (first | (go_at_call 71; refine (l1In_any _ _ _ _).mono ?_; rintro e w' ⟨rfl, rfl⟩) | (go_at_call 72; refine (l1All_any _ _ _ _ _ (H2.out.kept hk2)).mono ?_; rintro e w' ⟨rfl, rfl⟩))
        go_ret
        exact ⟨ret_bool (by rw [HEB.out, g1, G2.out, g3, g4, g5, g6]; rfl), hk2⟩
      go_wp2_with (first | (go_at_call 71; refine (l1In_any _ _ _ _).mono ?_; rintro e w' ⟨rfl, rfl⟩) | (go_at_call 72; refine (l1All_any _ _ _ _ _ (H2.out.kept hk2)).mono ?_; rintro e w' ⟨rfl, rfl⟩))
      go_ret
      exact ⟨ret_bool (by rw [HEB.out, g1, G2.out, g3, g4, g5, g6]; rfl), hk2⟩
end Go.Proofs.YtfonfekejbmamaaDoor

/- Codes copied; elements and codes compared. -/
namespace Go.Proofs.YtfonfekejbmamaaDoor
set_option linter.unusedVariables false
set_option linter.unusedSimpArgs false
open Go.RowKit

set_option maxHeartbeats 400000 in
theorem eqElement_any (v1 v2 : Value) (x : ElemD) (w : World) (h1 : ElemAt w v1 x) (h2 : ElemAt w v2 x) :
    Calls Tryd.prog 80 #[v1, v2] w fun e w' => e = .returned (.bool true) ∧ Kept w w' := by
  obtain ⟨rfl, hs⟩ := h1
  obtain ⟨rfl, _⟩ := h2
  unfold maxLen at hs
  have e1 : (x.family != x.family) = false := by simp
  have e2 : (x.level != x.level) = false := by simp
  have e3 : (x.base != x.base) = false := by simp
  have e4 : (!x.name.toList == x.name.toList) = false := by simp
  go_enter Tryd.func80, Tryd.ntmps80
  go_wp2_with fail
  go_ret
  exact ⟨rfl, ((Kept.refl w).alloc _).alloc _⟩
set_option maxRecDepth 100000 in
set_option maxHeartbeats 1000000 in
theorem eqElementS_any (v1 v2 : Value) (es : List ElemD) (w : World) (h1 : Elems w v1 es) (h2 : Elems w v2 es) :
    Calls Tryd.prog 52 #[v1, v2] w fun e w' => e = .returned (.bool true) ∧ Kept w w' := by
  obtain ⟨A, c, rfl, hnc, hcm, hA⟩ := h1.1.out
  obtain ⟨A', c', rfl, hnc', hcm', hA'⟩ := h2.1.out
  unfold maxLen at hcm hcm'
  have HA := Lib.hid hA
  have HA' := Lib.hid hA'
  have HS := Lib.hid h1.2
  clear hA h1 hA' h2
  have hne : ((es.length : Int) != (es.length : Int)) = false := by simp
  go_enter Tryd.func52, Tryd.ntmps52
  go_wp2_with fail
  go_loopw [5] (fun i wr => ∃ k : Nat, k ≤ es.length ∧ i = .int .i64 k ∧ Kept w wr) (fun i _ => es.length - (intOf i).toNat)
  case atStart => exact ⟨0, Nat.zero_le _, rfl, Kept.refl _⟩
  case round =>
    obtain ⟨k, hk, rfl, hkept⟩ := hrel
    by_cases hlt : k < es.length
    · obtain ⟨b, o, x, rfl, hb, h2, q0, q1, q2, q3⟩ := elems_at (HA.out.kept hkept) hlt
      obtain ⟨b', o', x', rfl, hb', h2', q0', q1', q2', q3'⟩ := elems_at (HA'.out.kept hkept) hlt
      rw [h2] at h2'
      injection h2' with h2'
      subst h2'
      have HI := Lib.hid (ElemAt.mk x wr.drew (HS.out x (List.mem_of_getElem? h2)))
      have hlt' : (k : Int) < (es.length : Int) := by omega
      clear h2
      go_wp2_with fail
      go_still_tail 8, (by kernel_rfl)
      go_wp2_with fail
      refine (eqElement_any _ _ x _ HI.out HI.out).mono ?_
      rintro e w1 ⟨rfl, k1⟩
      go_wp2_with fail
      go_roundw
      case rel => exact ⟨k + 1, by omega, by go_num, hkept.drew.trans k1⟩
      case measure => simp [intOf]; omega
    · go_wp2_with fail
      go_ret
      exact ⟨rfl, hkept⟩
set_option maxHeartbeats 1000000 in
theorem eqCode_any (v1 v2 : Value) (a : CodeD) (w : World) (h1 : CodeAt w v1 a) (h2 : CodeAt w v2 a) :
    Calls Tryd.prog 19 #[v1, v2] w fun e w' => e = .returned (.bool true) ∧ Kept w w' := by
  obtain ⟨nv, mv, rfl, q1, q2⟩ := h1
  obtain ⟨nv', mv', rfl, q3, q4⟩ := h2
  have H1 := Lib.hid q1
  have H2 := Lib.hid q2
  have H3 := Lib.hid q3
  have H4 := Lib.hid q4
  clear q1 q2 q3 q4
  have K0 : Kept w ((w.alloc (.cells #[nv, mv, .int .i64 a.repeats, .int .i64 a.bonus, .int .i64 a.keeps, .int .i64 a.fall] 41)).alloc (.cells #[nv', mv', .int .i64 a.repeats, .int .i64 a.bonus, .int .i64 a.keeps, .int .i64 a.fall] 41)) := ((Kept.refl w).alloc _).alloc _
  have e1 : (a.repeats != a.repeats) = false := by simp
  have e2 : (a.bonus != a.bonus) = false := by simp
  have e3 : (a.keeps != a.keeps) = false := by simp
  have e4 : (a.fall != a.fall) = false := by simp
  go_enter Tryd.func19, Tryd.ntmps19
  go_wp2_with fail
  refine (eqElementS_any _ _ a.elems _ (H1.out.kept K0) (H3.out.kept K0)).mono ?_
  rintro e w1 ⟨rfl, k1⟩
  have B0 := ((Box.new w w.heap.size 41 #[nv, mv, .int .i64 a.repeats, .int .i64 a.bonus, .int .i64 a.keeps, .int .i64 a.fall] rfl).alloc (.cells #[nv', mv', .int .i64 a.repeats, .int .i64 a.bonus, .int .i64 a.keeps, .int .i64 a.fall] 41)).kept k1
  have B1 := (Box.new (w.alloc (.cells #[nv, mv, .int .i64 a.repeats, .int .i64 a.bonus, .int .i64 a.keeps, .int .i64 a.fall] 41)) (w.heap.size + 1) 41 #[nv', mv', .int .i64 a.repeats, .int .i64 a.bonus, .int .i64 a.keeps, .int .i64 a.fall] (by simp)).kept k1
  obtain ⟨c0, f0⟩ := B0.six
  obtain ⟨c1, f1⟩ := B1.six
  have K1 := K0.trans k1
  clear k1 f0 f1
  go_wp2_with fail
  clear c0 c1
  refine (eqIntS_any _ _ a.limits a.limits _ (H2.out.kept K1) (H4.out.kept K1)).mono ?_
  rintro e w2 ⟨rfl, k2⟩
  obtain ⟨c0, f0⟩ := (B0.kept k2).six
  obtain ⟨c1, f1⟩ := (B1.kept k2).six
  have K2 := K1.trans k2
  have hd : decide (a.limits = a.limits) = true := by simp
  rw [hd]
  clear hd f0 f1
  go_wp2_with fail
  go_ret
  exact ⟨rfl, K2⟩
end Go.Proofs.YtfonfekejbmamaaDoor

/- Codes copied. -/
namespace Go.Proofs.YtfonfekejbmamaaDoor
set_option linter.unusedVariables false
set_option linter.unusedSimpArgs false
open Go.RowKit

set_option maxHeartbeats 8000000 in
theorem toCode_any (v : Value) (x : CodeD) (w : World) (h : CodeAt w v x) (hn : x.elems.length ≤ 1048576) (hm : x.limits.length ≤ 1048576) :
    Calls Tryd.prog 17 #[v] w fun e w' => ∃ v', e = .returned v' ∧ OwnK w' w.heap.size v' x ∧ Kept w w' := by
  obtain ⟨nv, mv, rfl, h1, h2⟩ := h
  have H1 := Lib.hid h1
  have H2 := Lib.hid h2
  clear h1 h2
  go_enter Tryd.func17, Tryd.ntmps17
  go_wp2_with fail
  refine (toElementS_any _ _ _ (H1.out.kept (((((Kept.refl w).alloc _).alloc _).alloc _))) hn).mono ?_
  rintro e w1 ⟨v1, rfl, o1, k1⟩
  obtain ⟨A1, c1, rfl, _, _, _⟩ := own_form o1.1
  have B0 := (((Box.new w w.heap.size 35 #[nv, mv, .int .i64 x.repeats, .int .i64 x.bonus, .int .i64 x.keeps, .int .i64 x.fall] rfl).alloc _).alloc _).kept k1
  have B1 := ((Box.new (w.alloc (.cells #[nv, mv, .int .i64 x.repeats, .int .i64 x.bonus, .int .i64 x.keeps, .int .i64 x.fall] 35)) (w.heap.size + 1) 41 #[.slice none 0 0, .slice none 0 0, .int .i64 0, .int .i64 0, .int .i64 0, .int .i64 0] (by simp)).alloc _).kept k1
  have B2 := (Box.new ((w.alloc (.cells #[nv, mv, .int .i64 x.repeats, .int .i64 x.bonus, .int .i64 x.keeps, .int .i64 x.fall] 35)).alloc (.cells #[.slice none 0 0, .slice none 0 0, .int .i64 0, .int .i64 0, .int .i64 0, .int .i64 0] 41)) (w.heap.size + 1 + 1) 41 #[.slice none 0 0, .slice none 0 0, .int .i64 0, .int .i64 0, .int .i64 0, .int .i64 0] (by simp)).kept k1
  have K1 : Kept w w1 := ((((Kept.refl w).alloc _).alloc _).alloc _).trans k1
  have hz1 : w.heap.size + 1 + 1 < w1.heap.size := B2.lt
  have O1 := Lib.hid o1
  obtain ⟨c0, f0⟩ := B0.six
  obtain ⟨c1', f1⟩ := B1.six
  obtain ⟨c2', f2⟩ := B2.six
  clear o1 k1
  go_wp2_with fail
  clear c0 f0 c1' f1 c2' f2
  refine (toIntS_any _ _ _ (H2.out.kept (K1.setCell (by simp; omega) _)) hm).mono ?_
  rintro e w2 ⟨v2, rfl, o2, k2⟩
  obtain ⟨A2, c2, rfl, _, _, _⟩ := own_form o2
  have K2 : Kept w w2 := (K1.setCell (by simp; omega) _).trans k2
  replace B0 := (B0.far ⟨w.heap.size + 1 + 1, 0, none⟩ (by dsimp only; omega) _).kept k2
  replace B1 := (B1.far ⟨w.heap.size + 1 + 1, 0, none⟩ (by dsimp only; omega) _).kept k2
  replace B2 := (B2.set 0 _).kept k2
  have O2 := Lib.hid o2
  obtain ⟨c0, f0⟩ := B0.six
  obtain ⟨c1', f1⟩ := B1.six
  obtain ⟨c2', f2⟩ := B2.six
  clear o2
  go_upto_region 8 with (fail)
  clear c0 f0 c1' f1 c2' f2
  obtain ⟨w3, hw3⟩ : ∃ w3, w3 = (((((w2.setCell ⟨w.heap.size + 1 + 1, 1, none⟩ (.slice A2 x.limits.length c2)).setCell ⟨w.heap.size + 1 + 1, 2, none⟩ (.int .i64 x.repeats)).setCell ⟨w.heap.size + 1 + 1, 3, none⟩ (.int .i64 x.bonus)).setCell ⟨w.heap.size + 1 + 1, 4, none⟩ (.int .i64 x.keeps)).setCell ⟨w.heap.size + 1 + 1, 5, none⟩ (.int .i64 x.fall)) := ⟨_, rfl⟩
  rw [← hw3]
  replace B1 : Box w3 _ _ _ := hw3 ▸ (((((B1.far ⟨w.heap.size + 1 + 1, 1, none⟩ (by dsimp only; omega) (.slice A2 x.limits.length c2)).far ⟨w.heap.size + 1 + 1, 2, none⟩ (by dsimp only; omega) (.int .i64 x.repeats)).far ⟨w.heap.size + 1 + 1, 3, none⟩ (by dsimp only; omega) (.int .i64 x.bonus)).far ⟨w.heap.size + 1 + 1, 4, none⟩ (by dsimp only; omega) (.int .i64 x.keeps)).far ⟨w.heap.size + 1 + 1, 5, none⟩ (by dsimp only; omega) (.int .i64 x.fall))
  replace B2 : Box w3 _ _ _ := hw3 ▸ (((((B2.set 1 (.slice A2 x.limits.length c2)).set 2 (.int .i64 x.repeats)).set 3 (.int .i64 x.bonus)).set 4 (.int .i64 x.keeps)).set 5 (.int .i64 x.fall))
  have Q3 : Only [w.heap.size + 1 + 1] w2 w3 := by
    rw [hw3]
    repeat (refine Only.setCell ?_ (by simp) _)
    exact Only.refl _ _
  clear hw3 B0
  obtain ⟨c1', f1⟩ := B1.six
  obtain ⟨c2', f2⟩ := B2.six
  go_wp2_with fail
  refine bodyPost_ret (v := .agg #[.slice A1 x.elems.length c1, .slice A2 x.limits.length c2, .int .i64 x.repeats, .int .i64 x.bonus, .int .i64 x.keeps, .int .i64 x.fall]) (by simp [results, Tryd.results17, go_sem, c1', c2', f1, f2]) rfl ⟨_, rfl, ⟨_, _, rfl, ?_, ?_, ?_⟩, ?_⟩
  · refine (fun q : Only [w.heap.size + 1, w.heap.size + 1 + 1] _ _ => ⟨own_far (S := [w.heap.size + 1, w.heap.size + 1 + 1]) O1.out.1 q (by simp <;> omega) (by simp <;> omega), O1.out.2⟩) ?_
    repeat (refine Only.setCell ?_ (by simp) _)
    exact Only.trans (Only.trans (Only.setCell (Only.refl _ _) (by simp) _) (k2.only _)) (Q3.mono (by simp))
  · refine own_far (S := [w.heap.size + 1, w.heap.size + 1 + 1]) O2.out ?_ (by have := K1.size; simp <;> omega) (by have := K1.size; simp <;> omega)
    repeat (refine Only.setCell ?_ (by simp) _)
    exact Q3.mono (by simp)
  · rw [fpA_code]
    exact nodup_fp (m := w1.heap.size) (fun x hx => (own_fp O1.out.1 x hx).2) (fun x hx => by have := (own_fp O2.out x hx).1; simpa using this)
  · repeat (refine Kept.setCell ?_ (by dsimp only; omega) _)
    exact Q3.above K2 (by simp; omega)
end Go.Proofs.YtfonfekejbmamaaDoor

/- Codes: GreatestBase. -/
namespace Go.Proofs.YtfonfekejbmamaaDoor
set_option linter.unusedVariables false
set_option linter.unusedSimpArgs false
open Go.RowKit

def askedB (x : CodeD) (f : Int) : Bool := codeB x && inB f 0 4
def mostB (es : List ElemD) (f : Int) : Int := es.foldl (fun m y => if y.family = f then max m y.base else m) 0
def gbV (x : CodeD) (f : Int) : Int := if askedB x f then mostB x.elems f else 0
theorem ret_ib {a a' : Int} {b b' : Bool} (h1 : a = a') (h2 : b = b') : Ending.returned (.tuple #[.int .i64 a, .bool b]) = .returned (.tuple #[.int .i64 a', .bool b']) := by rw [h1, h2]
theorem gbV_no {x : CodeD} {f : Int} (h : askedB x f = false) : gbV x f = 0 := by unfold gbV; rw [h]; rfl
theorem mostB_snoc {es : List ElemD} {k : Nat} {y : ElemD} (f : Int) (h : es[k]? = some y) : mostB (es.take (k + 1)) f = if y.family = f then max (mostB (es.take k) f) y.base else mostB (es.take k) f := by
  unfold mostB
  rw [take_snoc h, List.foldl_append]
  rfl
end Go.Proofs.YtfonfekejbmamaaDoor

/- Codes: the element with a name. -/
namespace Go.Proofs.YtfonfekejbmamaaDoor
set_option linter.unusedVariables false
set_option linter.unusedSimpArgs false
open Go.RowKit

def hitB (s : ByteArray) (y : ElemD) : Bool := y.name.toList == s.toList
def findV (es : List ElemD) (s : ByteArray) : Int := match es.findIdx? (hitB s) with | some k => (k : Int) | none => -1
theorem findV_hit {es : List ElemD} {s : ByteArray} {k : Nat} {y : ElemD} (h : es[k]? = some y) (hy : hitB s y = true) (hb : ∀ j z, j < k → es[j]? = some z → hitB s z = false) : findV es s = k := by
  obtain ⟨hk, rfl⟩ := List.getElem?_eq_some_iff.1 h
  have : es.findIdx? (hitB s) = some k := List.findIdx?_eq_some_iff_getElem.2 ⟨hk, hy, fun j hj => by
    rw [hb j es[j] hj (List.getElem?_eq_getElem (by omega))]
    exact Bool.false_ne_true⟩
  unfold findV
  rw [this]
theorem findV_none {es : List ElemD} {s : ByteArray} (hb : ∀ j z, j < es.length → es[j]? = some z → hitB s z = false) : findV es s = -1 := by
  have : es.findIdx? (hitB s) = none := List.findIdx?_eq_none_iff.2 fun z hz => by
    obtain ⟨j, hj⟩ := List.getElem?_of_mem hz
    exact hb j z (List.getElem?_eq_some_iff.1 hj).1 hj
  unfold findV
  rw [this]
theorem findV_cases (es : List ElemD) (s : ByteArray) : findV es s = -1 ∨ ∃ (k : Nat) (y : ElemD), findV es s = k ∧ es[k]? = some y ∧ hitB s y = true := by
  unfold findV
  cases h : es.findIdx? (hitB s) with
  | none => exact .inl rfl
  | some k =>
    obtain ⟨hk, hy, _⟩ := List.findIdx?_eq_some_iff_getElem.1 h
    exact .inr ⟨k, es[k], rfl, List.getElem?_eq_getElem hk, hy⟩
def feOk (x : CodeD) (s : ByteArray) : Bool := codeB x && decide (0 ≤ findV x.elems s)
def feV (x : CodeD) (s : ByteArray) : Int := if feOk x s then findV x.elems s else 0
theorem feV_no {x : CodeD} {s : ByteArray} (h : feOk x s = false) : feV x s = 0 := by unfold feV; rw [h]; rfl
theorem feV_yes {x : CodeD} {s : ByteArray} (h : feOk x s = true) : feV x s = findV x.elems s := if_pos h
theorem none_snoc {es : List ElemD} {s : ByteArray} {k : Nat} {y : ElemD} (h : es[k]? = some y) (hy : hitB s y = false) (hb : ∀ j z, j < k → es[j]? = some z → hitB s z = false) : ∀ j z, j < k + 1 → es[j]? = some z → hitB s z = false := by
  intro j z hj hz
  rcases Nat.lt_or_eq_of_le (Nat.le_of_lt_succ hj) with h1 | rfl
  · exact hb j z h1 hz
  · rw [h] at hz
    injection hz with hz
    subst hz
    exact hy
end Go.Proofs.YtfonfekejbmamaaDoor

/- Codes: ElementWorth. -/
namespace Go.Proofs.YtfonfekejbmamaaDoor
set_option linter.unusedVariables false
set_option linter.unusedSimpArgs false
open Go.RowKit

theorem codeB_elem {x : CodeD} {k : Nat} {y : ElemD} (h : codeB x = true) (hy : x.elems[k]? = some y) : elemB y = true := by
  unfold codeB elemsB at h
  simp only [Bool.and_eq_true] at h
  have h1 := List.all_eq_true.1 h.2 k (by have := (List.getElem?_eq_some_iff.1 hy).1; simpa using this)
  unfold stepB at h1
  rw [hy] at h1
  simp only [Bool.and_eq_true] at h1
  exact h1.1
theorem elemB_parts {y : ElemD} (h : elemB y = true) : (0 ≤ y.family ∧ y.family ≤ 4) ∧ (0 ≤ y.level ∧ y.level ≤ 4) ∧ 1 ≤ y.base ∧ y.base ≤ 2000 := by
  unfold elemB at h
  simp only [Bool.and_eq_true] at h
  exact ⟨inB_true h.1.1.2, inB_true h.1.2, inB_true h.2⟩
theorem codeB_rests {x : CodeD} (h : codeB x = true) : (1 ≤ x.repeats ∧ x.repeats ≤ 3) ∧ (0 ≤ x.bonus ∧ x.bonus ≤ 20) ∧ (50 ≤ x.keeps ∧ x.keeps ≤ 100) ∧ 0 ≤ x.fall ∧ x.fall ≤ 500 := by
  unfold codeB restB at h
  simp only [Bool.and_eq_true] at h
  exact ⟨inB_true h.1.2.1.1.1, inB_true h.1.2.1.1.2, inB_true h.1.2.1.2, inB_true h.1.2.2⟩
theorem codeB_heads {x : CodeD} (h : codeB x = true) : (1 ≤ x.elems.length ∧ x.elems.length ≤ 24) ∧ x.limits.length = 5 := by
  unfold codeB headB at h
  simp only [Bool.and_eq_true] at h
  have := inB_true h.1.1.1.1
  exact ⟨⟨by omega, by omega⟩, by simpa using h.1.1.1.2⟩
def worthN (keeps base m : Int) : Int := if m = 1 then base * keeps / 100 else if m = 2 then base * 9 / 10 else if m = 3 then 0 else base
theorem worthN_nonneg {keeps base : Int} (m : Int) (h1 : 0 ≤ keeps) (h2 : 0 ≤ base) : 0 ≤ worthN keeps base m := by
  have := Int.mul_nonneg h2 h1
  unfold worthN
  split
  · exact Int.ediv_nonneg this (by omega)
  · split
    · exact Int.ediv_nonneg (by omega) (by omega)
    · split <;> omega
def worthAt (x : CodeD) (s : ByteArray) (m : Int) : Int := if 0 ≤ findV x.elems s then match x.elems[(findV x.elems s).toNat]? with | some y => worthN x.keeps y.base m | none => -1 else -1
theorem worthAt_none {x : CodeD} {s : ByteArray} (m : Int) (h : findV x.elems s = -1) : worthAt x s m = -1 := by unfold worthAt; rw [h]; rfl
theorem worthAt_hit {x : CodeD} {s : ByteArray} {k : Nat} {y : ElemD} (m : Int) (h : findV x.elems s = k) (hy : x.elems[k]? = some y) : worthAt x s m = worthN x.keeps y.base m := by
  unfold worthAt
  rw [h, if_pos (by omega), Int.toNat_natCast, hy]
def ewOk (x : CodeD) (s : ByteArray) (m : Int) : Bool := feOk x s && inB m 0 3
def ewV (x : CodeD) (s : ByteArray) (m : Int) : Int := if ewOk x s m then worthAt x s m else 0
theorem ewV_no {x : CodeD} {s : ByteArray} {m : Int} (h : ewOk x s m = false) : ewV x s m = 0 := by unfold ewV; rw [h]; rfl
theorem ewV_yes {x : CodeD} {s : ByteArray} {m : Int} (h : ewOk x s m = true) : ewV x s m = worthAt x s m := if_pos h
theorem feOk_hit {x : CodeD} {s : ByteArray} {k : Nat} (hc : codeB x = true) (h : findV x.elems s = k) : feOk x s = true := by
  unfold feOk
  rw [hc, h, Bool.true_and]
  exact decide_eq_true (by omega)
theorem feOk_none {x : CodeD} {s : ByteArray} (h : findV x.elems s = -1) : feOk x s = false := by
  unfold feOk
  rw [h]
  exact Bool.and_false _
end Go.Proofs.YtfonfekejbmamaaDoor

/- append(out, xs...) to rows of the call's own, in the words of the readings. -/
namespace Go.Proofs.YtfonfekejbmamaaDoor
set_option linter.unusedVariables false
set_option linter.unusedSimpArgs false
open Go.RowKit

theorem wp_append_E (w : World) {o : Oper} {a : Act} {K : Act → World → Prop} {Q : Exit → Act → World → Prop} (s x : Operand)
    (ho : o.op = .call { callee := .builtin .append, args := #[s, x], argTypes := #[39, 39] })
    (base : Nat) (v : Value) (zs : List ElemD) (hs : a.eval s = v) (hown : OwnE w base v zs) (u : Value) (ys : List ElemD) (hx : a.eval x = u) (hr : Elems w u ys)
    (hl : zs.length + ys.length ≤ 16777216) (hbase : base ≤ w.heap.size)
    (h : ∀ v' w', OwnE w' base v' (zs ++ ys) → w.grownBy w' v.ownBlock → K (a.put o.dst v') w') : o.wp Tryd.prog a w K Q := by
  obtain ⟨i0, hi, hz0, hz1, hz2⟩ := info_parts info_elem
  refine wp_append_seq w s x 39 ho base 83 i0 _ 4 40 Tryd.underlying39 hi hz0 hz1 hz2 rfl (by omega) v zs.length _ hs hown.1 u ys.length _ hx hr.1 (by rw [flat_length cells4 4 (fun _ => rfl)]) ?_ (by unfold maxLen; omega) (by omega) hbase (fun v' w' q1 q2 => h v' w' ?_ q2)
  · intro y hy
    obtain ⟨e, _, he⟩ := List.mem_flatMap.1 hy; simp only [cells4, List.mem_cons, List.not_mem_nil, or_false] at he; rcases he with rfl | rfl | rfl | rfl <;> rfl
  · refine ⟨?_, ?_⟩
    · rw [List.length_append, List.flatMap_append]
      exact q1
    · intro e he
      rcases List.mem_append.1 he with he | he
      · exact hown.2 e he
      · exact hr.2 e he
theorem wpList_append_E (w : World) {ops : Array Oper} {rest : List Oper} {o : Oper} {a : Act} {Q : Exit → Act → World → Prop} (hgd : o.guard = none) (s x : Operand)
    (ho : o.op = .call { callee := .builtin .append, args := #[s, x], argTypes := #[39, 39] })
    (base : Nat) (v : Value) (zs : List ElemD) (hs : a.eval s = v) (hown : OwnE w base v zs) (u : Value) (ys : List ElemD) (hx : a.eval x = u) (hr : Elems w u ys)
    (hl : zs.length + ys.length ≤ 16777216) (hbase : base ≤ w.heap.size)
    (h : ∀ v' w', OwnE w' base v' (zs ++ ys) → w.grownBy w' v.ownBlock → wpList Tryd.prog ops Q rest (a.put o.dst v') w') : wpList Tryd.prog ops Q (o :: rest) a w :=
  wpList_plain hgd fun _ hK => wp_append_E w s x ho base v zs hs hown u ys hx hr hl hbase fun v' w' h2 h3 => hK _ _ (h v' w' h2 h3)
theorem step_append_E (w : World) {ops : Array Oper} {o : Oper} {a : Act} {K : Act → World → Prop} {Q : Exit → Act → World → Prop} {E : Prop} (hgd : o.guard = none) (s x : Operand)
    (ho : o.op = .call { callee := .builtin .append, args := #[s, x], argTypes := #[39, 39] })
    (base : Nat) (v : Value) (zs : List ElemD) (hs : a.eval s = v) (hown : OwnE w base v zs) (u : Value) (ys : List ElemD) (hx : a.eval x = u) (hr : Elems w u ys)
    (hl : zs.length + ys.length ≤ 16777216) (hbase : base ≤ w.heap.size)
    (h : ∀ v' w', OwnE w' base v' (zs ++ ys) → w.grownBy w' v.ownBlock → K (a.put o.dst v') w') :
    if Region.wanted o (yielded ops a.tmps) = true then Oper.wp Tryd.prog o a w K Q else E := by
  have hw : Region.wanted o (yielded ops a.tmps) = true := by simp [Region.wanted, hgd]
  rw [if_pos hw]
  exact wp_append_E w s x ho base v zs hs hown u ys hx hr hl hbase h
end Go.Proofs.YtfonfekejbmamaaDoor

/- Codes copied by the reference and by the program. -/
namespace Go.Proofs.YtfonfekejbmamaaDoor
set_option linter.unusedVariables false
set_option linter.unusedSimpArgs false
open Go.RowKit

theorem Box.far6 {w : World} {b g : Nat} {t : TypeId} {cs : Array Value} (h : Box w b t cs) (hne : b ≠ g) (u0 u1 u2 u3 u4 u5 : Value) :
    Box ((((((w.setCell ⟨g, 0, none⟩ u0).setCell ⟨g, 1, none⟩ u1).setCell ⟨g, 2, none⟩ u2).setCell ⟨g, 3, none⟩ u3).setCell ⟨g, 4, none⟩ u4).setCell ⟨g, 5, none⟩ u5) b t cs :=
  (((((h.far ⟨g, 0, none⟩ hne u0).far ⟨g, 1, none⟩ hne u1).far ⟨g, 2, none⟩ hne u2).far ⟨g, 3, none⟩ hne u3).far ⟨g, 4, none⟩ hne u4).far ⟨g, 5, none⟩ hne u5
theorem set6 {w : World} {g : Nat} {t : TypeId} {x0 x1 x2 x3 x4 x5 : Value} (h : Box w g t #[x0, x1, x2, x3, x4, x5]) (u0 u1 u2 u3 u4 u5 : Value) :
    ∃ w3, w3 = ((((((w.setCell ⟨g, 0, none⟩ u0).setCell ⟨g, 1, none⟩ u1).setCell ⟨g, 2, none⟩ u2).setCell ⟨g, 3, none⟩ u3).setCell ⟨g, 4, none⟩ u4).setCell ⟨g, 5, none⟩ u5) ∧ Box w3 g t #[u0, u1, u2, u3, u4, u5] ∧ Only [g] w w3 := by
  refine ⟨_, rfl, (((((h.set 0 u0).set 1 u1).set 2 u2).set 3 u3).set 4 u4).set 5 u5, ?_⟩
  repeat (refine Only.setCell ?_ (by simp) _)
  exact Only.refl _ _
end Go.Proofs.YtfonfekejbmamaaDoor

/- Codes: a code if it is valid. -/
namespace Go.Proofs.YtfonfekejbmamaaDoor
set_option linter.unusedVariables false
set_option linter.unusedSimpArgs false
open Go.RowKit

def zeroC : CodeD := ⟨[], [], 0, 0, 0, 0⟩
def ifC (x : CodeD) : CodeD := if codeB x then x else zeroC
theorem ifC_yes {x : CodeD} (h : codeB x = true) : ifC x = x := if_pos h
theorem ifC_no {x : CodeD} (h : codeB x = false) : ifC x = zeroC := by unfold ifC; rw [h]; rfl
theorem zeroC_own (w : World) (base : Nat) : OwnK w base (.agg #[.slice none 0 0, .slice none 0 0, .int .i64 0, .int .i64 0, .int .i64 0, .int .i64 0]) zeroC :=
  ⟨_, _, rfl, ⟨World.ownsRow_nil _ _ _ _, fun _ h => (by cases h)⟩, World.ownsRow_nil _ _ _ _, by rw [fpA_code]; simp [fp, Value.ownBlock]⟩
theorem OwnK.base {w : World} {base base' : Nat} {v : Value} {x : CodeD} (h : OwnK w base v x) (hb : base' ≤ base) : OwnK w base' v x := by
  obtain ⟨ev, lv, rfl, h1, h2, h3⟩ := h
  exact ⟨ev, lv, rfl, ⟨own_base h1.1 hb, h1.2⟩, own_base h2 hb, h3⟩
theorem OwnK.far {w w' : World} {base base' : Nat} {v : Value} {x : CodeD} {S : List Nat} (h : OwnK w base v x) (ho : Only S w w') (hS : ∀ b ∈ S, b < base ∨ w.heap.size ≤ b) (hb : base' ≤ base) : OwnK w' base' v x :=
  OwnK.base (h.only ho (fun b hb hs => by have := h.fps b hb; have := hS b hs; omega)) hb
theorem Box.zero6 {w : World} {b : Nat} {t : TypeId} (h : Box w b t #[.slice none 0 0, .slice none 0 0, .int .i64 0, .int .i64 0, .int .i64 0, .int .i64 0]) : True := trivial
end Go.Proofs.YtfonfekejbmamaaDoor
