/- Elements and codes: sizes, copies, comparisons. -/
import Derived.Test.YtpkmngkepmoikaaG
namespace Go.Proofs.Ytpkmngkepmoikaa
set_option linter.unusedVariables false
set_option linter.unusedSimpArgs false
open Go.RowKit

def ElemD.size (e : ElemD) : Nat := e.name.size
def elemsSize (es : List ElemD) : Nat := es.length + (es.map ElemD.size).sum
def CodeD.size (c : CodeD) : Nat := elemsSize c.elems + c.limits.length
theorem elem_size_le {es : List ElemD} {k : Nat} {e : ElemD} (h : es[k]? = some e) : e.size ≤ elemsSize es := by
  have := mem_le_sum (es.map ElemD.size) e.size (List.mem_map_of_mem (List.mem_of_getElem? h))
  unfold elemsSize
  omega
theorem code_parts (c : CodeD) : c.elems.length ≤ c.size ∧ c.limits.length ≤ c.size ∧ elemsSize c.elems ≤ c.size := by
  unfold CodeD.size elemsSize
  omega
theorem szElement_any (v : Value) (x : ElemD) (left : Int) (w : World) (h : ElemAt w v x) (h0 : 0 ≤ left) (h1 : left ≤ 1048576) :
    Calls Try.prog 9 #[v, .int .i64 left] w fun e w' => e = .returned (.int .i64 (lessOr left x.size)) ∧ Kept w w' := by
  obtain ⟨rfl, hs⟩ := h
  unfold maxLen at hs
  by_cases hb : (x.name.size : Int) ≤ left
  · go_enter Try.func9, Try.ntmps9
    go_wp2
    go_ret
    refine ⟨ret_int ?_, (Kept.refl w).alloc _⟩
    unfold lessOr ElemD.size
    rw [if_pos (by omega)]
  · go_enter Try.func9, Try.ntmps9
    go_wp2
    go_ret
    refine ⟨ret_int ?_, (Kept.refl w).alloc _⟩
    unfold lessOr ElemD.size
    rw [if_neg (by omega)]
set_option maxHeartbeats 400000 in
theorem szElementS_any (v : Value) (es : List ElemD) (left : Int) (w : World) (h : Elems w v es) (h0 : 0 ≤ left) (h1 : left ≤ 1048576) :
    Calls Try.prog 33 #[v, .int .i64 left] w fun e w' => e = .returned (.int .i64 (lessOr left (elemsSize es))) ∧ Kept w w' := by
  obtain ⟨A, c, rfl, hnc, hcm, hA⟩ := h.1.out
  unfold maxLen at hcm
  have HA := Lib.hid hA
  have HS := Lib.hid h.2
  clear hA h
  by_cases hb : (es.length : Int) ≤ left
  · go_enter Try.func33, Try.ntmps33
    go_wp2_with fail
    go_loopw [1, 5] (fun q i wr => ∃ k : Nat, k ≤ es.length ∧ i = .int .i64 k ∧ q = .int .i64 (left - es.length - ((es.take k).map ElemD.size).sum) ∧ 0 ≤ left - es.length - (((es.take k).map ElemD.size).sum : Nat) ∧ Kept w wr) (fun _ i _ => es.length - (intOf i).toNat)
    case atStart => exact ⟨0, Nat.zero_le _, rfl, by simp, by simp; omega, Kept.refl _⟩
    case round =>
      obtain ⟨k, hk, rfl, rfl, hge, hkept⟩ := hrel
      by_cases hlt : k < es.length
      · obtain ⟨b, o, x, rfl, hb', h2, q0, q1, q2, q3⟩ := elems_at (HA.out.kept hkept) hlt
        have HI : Hid (ElemAt wr _ x) := Lib.hid (ElemAt.mk x wr (HS.out x (List.mem_of_getElem? h2)))
        have HN := Lib.hid (sum_snoc ElemD.size h2)
        have HT := Lib.hid (sum_take _ ElemD.size es (k + 1))
        clear h2
        generalize ((es.take k).map ElemD.size).sum = sk at *
        by_cases hl2 : (x.size : Int) ≤ left - es.length - sk
        · have HE : Hid (lessOr (left - es.length - sk) x.size = left - es.length - sk - x.size) := by unfold lessOr; exact if_pos hl2
          go_wp2_with fail
          refine (szElement_any _ x _ _ HI.out hge (by omega)).mono ?_
          rintro e w1 ⟨rfl, k1⟩
          rw [HE.out]
          go_wp2_with fail
          go_roundw
          case rel => exact ⟨k + 1, by omega, by go_num, by rw [HN.out]; congr 1; omega, by rw [HN.out]; omega, hkept.trans k1⟩
          case measure => simp [intOf]; omega
        · have HE : Hid (lessOr (left - es.length - sk) x.size = -1) := by unfold lessOr; exact if_neg hl2
          go_wp2_with fail
          refine (szElement_any _ x _ _ HI.out hge (by omega)).mono ?_
          rintro e w1 ⟨rfl, k1⟩
          rw [HE.out]
          go_wp2_with fail
          go_ret
          refine ⟨ret_int ?_, hkept.trans k1⟩
          have q1 := HN.out
          have q2 := HT.out
          unfold lessOr elemsSize
          rw [if_neg (by omega)]
      · obtain rfl : k = es.length := by omega
        go_wp2_with fail
        go_ret
        refine ⟨ret_int ?_, hkept⟩
        try simp only [List.take_length] at hge ⊢
        unfold lessOr elemsSize
        rw [if_pos (by omega)]
        omega
  · go_enter Try.func33, Try.ntmps33
    go_wp2_with fail
    go_ret
    refine ⟨ret_int ?_, Kept.refl _⟩
    unfold lessOr elemsSize
    rw [if_neg (by omega)]
theorem szCode_any (v : Value) (x : CodeD) (left : Int) (w : World) (h : CodeAt w v x) (h0 : 0 ≤ left) (h1 : left ≤ 1048576) :
    Calls Try.prog 8 #[v, .int .i64 left] w fun e w' => e = .returned (.int .i64 (lessOr left x.size)) ∧ Kept w w' := by
  obtain ⟨nv, mv, rfl, q1, q2⟩ := h
  have H1 := Lib.hid q1
  have H2 := Lib.hid q2
  clear q1 q2
  obtain ⟨b1, b2⟩ := lessOr_bd (n := elemsSize x.elems) h0
  have B0 := Box.new w w.heap.size 25 #[nv, mv, .int .i64 x.repeats, .int .i64 x.bonus, .int .i64 x.keeps, .int .i64 x.fall] rfl
  by_cases hneg : lessOr left (elemsSize x.elems) < 0
  · have HF := Lib.hid (lessOr_neg (m := x.limits.length) hneg h0)
    go_enter Try.func8, Try.ntmps8
    go_wp2_with fail
    refine (szElementS_any _ _ _ _ (H1.out.kept ((Kept.refl _).alloc _)) h0 h1).mono ?_
    rintro e w1 ⟨rfl, k1⟩
    go_wp2_with fail
    go_ret
    exact ⟨ret_int HF.out.symm, ((Kept.refl _).alloc _).trans k1⟩
  · have HF := Lib.hid (lessOr_add (m := x.limits.length) (Int.not_lt.1 hneg))
    obtain ⟨b3, b4⟩ := lessOr_bd (n := x.limits.length) (Int.not_lt.1 hneg)
    have hpos : 0 ≤ lessOr left (elemsSize x.elems) := by omega
    have hfin : lessOr (lessOr left (elemsSize x.elems)) x.limits.length < 0 → lessOr (lessOr left (elemsSize x.elems)) x.limits.length = -1 := by omega
    have HN := Lib.hid hfin
    clear hfin
    go_enter Try.func8, Try.ntmps8
    go_wp2_with fail
    refine (szElementS_any _ _ _ _ (H1.out.kept ((Kept.refl _).alloc _)) h0 h1).mono ?_
    rintro e w1 ⟨rfl, k1⟩
    obtain ⟨c0, f0⟩ := (B0.kept k1).six
    have K1 : Kept w w1 := ((Kept.refl _).alloc _).trans k1
    clear B0 k1
    go_wp2_with (go_at_call 34; refine (szIntS_any _ _ _ _ (H2.out.kept K1) hpos (by omega)).mono ?_; rintro e w' ⟨rfl, rfl⟩)
    all_goals
      go_ret
      refine ⟨ret_int ?_, K1⟩
      unfold CodeD.size
      rw [← HF.out]
      try (rw [HN.out (by assumption)])
/-! ### copies -/
theorem info_elem : (Try.prog.info? 36).map (fun i => (i.zero, i.size, i.bytes)) = some (some (.agg #[.string ByteArray.empty, .int .i64 0, .int .i64 0, .int .i64 0]), 4, 40) := by kernel_rfl
set_option maxHeartbeats 400000 in
theorem toElement_any (v : Value) (x : ElemD) (w : World) (h : ElemAt w v x) :
    Calls Try.prog 12 #[v] w fun e w' => e = .returned (.agg #[.string x.name, .int .i64 x.family, .int .i64 x.level, .int .i64 x.base]) ∧ Kept w w' := by
  obtain ⟨rfl, hs⟩ := h
  unfold maxLen at hs
  go_enter Try.func12, Try.ntmps12
  go_wp2_with fail
  refine bodyPost_ret (v := .agg #[.string x.name, .int .i64 x.family, .int .i64 x.level, .int .i64 x.base]) (by simp [results, Try.results12, go_sem]) rfl ⟨rfl, ?_⟩
  repeat (refine Kept.setCell ?_ (by dsimp only; omega) _)
  exact (((Kept.refl w).alloc _).alloc _).alloc _
theorem set4_take {xs ys : List Value} {k n : Nat} {a b c d : Value} (hl : xs.length = n * 4) (hk : k < n) (ht : xs.take (k * 4) = ys) :
    ((((xs.set (k * 4) a).set (k * 4 + 1) b).set (k * 4 + 2) c).set (k * 4 + 3) d).take ((k + 1) * 4) = ys ++ [a, b, c, d] := by
  have h1 : k * 4 + 3 < xs.length := by omega
  rw [show (k + 1) * 4 = k * 4 + 3 + 1 from by omega]
  rw [take_snoc (x := d) (by rw [List.getElem?_set_self (by simp; omega)]), List.take_set_of_le (Nat.le_refl _)]
  rw [take_snoc (x := c) (by rw [List.getElem?_set_self (by simp; omega)]), List.take_set_of_le (Nat.le_refl _)]
  rw [take_snoc (x := b) (by rw [List.getElem?_set_self (by simp; omega)]), List.take_set_of_le (Nat.le_refl _)]
  rw [take_snoc (x := a) (by rw [List.getElem?_set_self (by omega)]), List.take_set_of_le (Nat.le_refl _), ht]
  simp
set_option maxHeartbeats 1000000 in
theorem toElementS_any (v : Value) (es : List ElemD) (w : World) (h : Elems w v es) (hn : es.length ≤ 1048576) :
    Calls Try.prog 38 #[v] w fun e w' => ∃ v', e = .returned v' ∧ OwnE w' w.heap.size v' es ∧ Kept w w' := by
  obtain ⟨A, c, rfl, hnc, hcm, hA⟩ := h.1.out
  unfold maxLen at hcm
  have HA := Lib.hid hA
  have HS := Lib.hid h.2
  clear hA h
  obtain ⟨i0, hi, hz0, hz1, hz2⟩ := info_parts info_elem
  go_enter Try.func38, Try.ntmps38
  go_wp2_with (at_make; refine wpList_make_full _ rfl _ _ 30 rfl w.heap.size 36 i0 _ 4 Try.underlying30 hi hz0 hz1 _ _ _ _ es.length rfl rfl rfl rfl (by rw [hz2]; omega) (by unfold maxLen; omega) (Nat.le_refl _) ?_; intro w1 hown hgrow)
  have hk1 : Kept w w1 := (Below.refl _ _).grown hgrow (Nat.le_refl _) (by intro k hk; cases hk)
  have hsz1 : w.heap.size < w1.heap.size := (hown.lt w.heap.size rfl).2
  clear hgrow hi hz0 hz1 hz2
  go_loopw [4] (fun i wr => ∃ (k : Nat) (xs : List Value), k ≤ es.length ∧ i = .int .i64 k ∧ wr.ownsRow w.heap.size 36 4 (.slice (some ⟨w.heap.size, 0, none⟩) es.length es.length) es.length xs ∧ xs.take (k * 4) = (es.take k).flatMap cells4 ∧ Kept w wr) (fun i _ => es.length - (intOf i).toNat)
  case atStart => exact ⟨0, _, Nat.zero_le _, rfl, hown, by simp, hk1⟩
  case round =>
    clear hown hk1
    obtain ⟨k, xs, hk, rfl, ho, ht, hkept⟩ := hrel
    by_cases hlt : k < es.length
    · obtain ⟨b, o, x, rfl, hb, h2, q0, q1, q2, q3⟩ := elems_at (HA.out.kept hkept) hlt
      have HI := Lib.hid (ElemAt.mk x wr (HS.out x (List.mem_of_getElem? h2)))
      have H2 := Lib.hid h2
      have HO := Lib.hid ho
      have HT := Lib.hid ht
      clear h2 ho ht
      go_wp2_with fail
      refine (toElement_any _ x _ HI.out).mono ?_
      rintro e w2 ⟨rfl, k2⟩
      have ho2 := own_kept HO.out k2
      obtain ⟨u0, _, x0, y0⟩ := own_at ho2 (j := k * 4) (by omega)
      obtain ⟨u1, _, x1, y1⟩ := own_at ho2 (j := k * 4 + 1) (by omega)
      obtain ⟨u2', _, x2, y2⟩ := own_at ho2 (j := k * 4 + 2) (by omega)
      obtain ⟨u3', _, x3, y3⟩ := own_at ho2 (j := k * 4 + 3) (by omega)
      have HO2 := Lib.hid ho2
      clear ho2 q0 q1 q2 q3
      go_wp2_with fail
      have hlenx : xs.length = es.length * 4 := HO.out.1
      go_roundw
      case rel =>
        refine ⟨k + 1, _, by omega, by go_num, ((((HO2.out.stored (k * 4) _).1.stored (k * 4 + 1) _).1.stored (k * 4 + 2) _).1.stored (k * 4 + 3) _).1, ?_, ?_⟩
        · rw [set4_take hlenx hlt HT.out, take_snoc H2.out]
          simp [cells4]
        · repeat (refine Kept.setCell ?_ (by dsimp only; omega) _)
          exact hkept.trans k2
      case measure => simp [intOf]; omega
    · obtain rfl : k = es.length := by omega
      have hlenx : xs.length = es.length * 4 := ho.1
      have hx : xs = es.flatMap cells4 := by rw [List.take_length] at ht; rw [← ht, List.take_of_length_le (by omega)]
      have HO := Lib.hid ho
      have HX := Lib.hid hx
      clear ho ht hx hlenx
      go_wp2_with fail
      go_ret
      exact ⟨_, rfl, ⟨by rw [← HX.out]; exact HO.out, HS.out⟩, hkept⟩
end Go.Proofs.Ytpkmngkepmoikaa
