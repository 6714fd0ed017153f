/- Codes: LevelsOf. -/
import Derived.Test.YteebkplldggoiaaV6
import Derived.Test.YteebkplldggoiaaCn
import Derived.Test.YteebkplldggoiaaY
namespace Go.Proofs.Yteebkplldggoiaa
open Go.RowKit

def lvls (es : List ElemD) (f : Int) : List Int := (es.filter fun y => decide (y.family = f)).map ElemD.level
theorem lvls_yes {es : List ElemD} {k : Nat} {y : ElemD} {f : Int} (h : es[k]? = some y) (hf : y.family = f) : lvls (es.take (k + 1)) f = lvls (es.take k) f ++ [y.level] := by
  unfold lvls
  rw [take_snoc h, List.filter_append, List.map_append]
  simp [hf]
theorem lvls_no {es : List ElemD} {k : Nat} {y : ElemD} {f : Int} (h : es[k]? = some y) (hf : ¬ y.family = f) : lvls (es.take (k + 1)) f = lvls (es.take k) f := by
  unfold lvls
  rw [take_snoc h, List.filter_append, List.map_append]
  simp [hf]
theorem lvls_len (es : List ElemD) (f : Int) (k : Nat) : (lvls (es.take k) f).length ≤ es.length := by
  unfold lvls
  rw [List.length_map]
  have := List.length_filter_le (fun y : ElemD => decide (y.family = f)) (es.take k)
  rw [List.length_take] at this
  omega
def lvV (x : CodeD) (f : Int) : List Int := if askedB x f then cns 5 (lvls x.elems f) else []
theorem lvV_len (x : CodeD) (f : Int) : (lvV x f).length ≤ 5 := by unfold lvV; split <;> simp [cns_length]
theorem lvV_no {x : CodeD} {f : Int} (h : askedB x f = false) : lvV x f = [] := by unfold lvV; rw [h]; rfl
theorem lvV_yes {x : CodeD} {f : Int} (h : askedB x f = true) : lvV x f = cns 5 (lvls x.elems f) := if_pos h
theorem asked_code {x : CodeD} {f : Int} (h : askedB x f = true) : codeB x = true := by unfold askedB at h; rw [Bool.and_eq_true] at h; exact h.1
theorem asked_fam {x : CodeD} {f : Int} (h : askedB x f = true) : inB f 0 4 = true := by unfold askedB at h; rw [Bool.and_eq_true] at h; exact h.2
theorem ret_vb {v : Value} {b b' : Bool} (h : b = b') : Ending.returned (.tuple #[v, .bool b]) = .returned (.tuple #[v, .bool b']) := by rw [h]
set_option maxHeartbeats 2000000 in
theorem specLevelsOf_any (v : Value) (x : CodeD) (f : Int) (w : World) (h : CodeAt w v x) :
    Calls Try.prog 24 #[v, .int .i64 f] w fun e w' => ∃ v', e = .returned (.tuple #[v', .bool (askedB x f)]) ∧ OwnI w' w.heap.size v' (lvV x f) ∧ Kept w w' := by
  have h0 := h
  obtain ⟨nv, mv, rfl, q1, q2⟩ := h
  obtain ⟨A, c, rfl, hnc, hcm, hl⟩ := q1.1.out
  obtain ⟨A2, c2, rfl, _, _, _⟩ := q2.out
  unfold maxLen at hcm
  have HL := Lib.hid hl
  have HS := Lib.hid q1.2
  have H0 := Lib.hid h0
  clear h0 q1 q2 hl
  have B0 := Box.new w w.heap.size 30 #[.slice A x.elems.length c, .slice A2 x.limits.length c2, .int .i64 x.repeats, .int .i64 x.bonus, .int .i64 x.keeps, .int .i64 x.fall] rfl
  have K0 : Kept w (w.alloc (.cells #[.slice A x.elems.length c, .slice A2 x.limits.length c2, .int .i64 x.repeats, .int .i64 x.bonus, .int .i64 x.keeps, .int .i64 x.fall] 30)) := (Kept.refl w).alloc _
  go_enter Try.func24, Try.ntmps24
  go_wp2_with fail
  refine (cdAsked_any _ x f _ (H0.out.kept K0)).mono ?_
  rintro e w1 ⟨rfl, k1⟩
  by_cases hb : askedB x f = true
  case neg =>
    simp only [Bool.not_eq_true] at hb
    rw [hb]
    go_wp2_with fail
    go_ret2
    exact ⟨_, ret_vb hb.symm, by rw [lvV_no hb]; exact World.ownsRow_nil _ _ _ _, K0.trans k1⟩
  rw [hb]
  obtain ⟨i0, hi, hz0, hz1, hz2⟩ := info_parts info_int
  have HB := Lib.hid hb
  have B1 := B0.kept k1
  have K1 := K0.trans k1
  clear B0 K0 k1 hb
  have hs1 := K1.size
  go_wp2_with (first | (at_make; refine wpList_make_full _ rfl _ _ 23 rfl w.heap.size 3 i0 _ 1 Try.underlying23 hi hz0 hz1 _ _ _ _ 5 rfl rfl rfl rfl (by rw [hz2]; omega) (by decide) hs1 ?_; intro w2 hown hgrow; have k2 : Kept w1 w2 := (Below.refl _ _).grown hgrow (Nat.le_refl _) (by intro k hk; cases hk); obtain ⟨x0, y0⟩ := (B1.kept k2).six; have H0' := Lib.hid hown; clear hown))
  have K2 := K1.trans k2
  have hown0 : w2.ownsRow w.heap.size 3 1 (.slice (some ⟨w1.heap.size, 0, none⟩) 5 5) 5 ((cns 5 []).map (Value.int .i64)) := by
    rw [show (cns 5 []).map (Value.int .i64) = (madeCells (Value.int .i64 0).cells (5 * 1)).toList from by kernel_rfl]
    exact H0'.out
  clear hgrow hi hz0 hz1 hz2 x0 y0 H0'
  have HW := Lib.hid hown0
  clear hown0
  go_loopw [17] (fun i wr => ∃ k : Nat, k ≤ x.elems.length ∧ i = .int .i64 k ∧ wr.ownsRow w.heap.size 3 1 (.slice (some ⟨w1.heap.size, 0, none⟩) 5 5) 5 ((cns 5 (lvls (x.elems.take k) f)).map (Value.int .i64)) ∧ Kept w1 wr) (fun i _ => x.elems.length - (intOf i).toNat)
  case atStart => exact ⟨0, Nat.zero_le _, rfl, by simpa [lvls] using HW.out, k2⟩
  case round =>
    obtain ⟨k, hk, rfl, ho, hkept⟩ := hrel
    by_cases hlt : k < x.elems.length
    · obtain ⟨b, o, y, rfl, hb', h2, q0, q1, q2, q3⟩ := elems_at (HL.out.kept (K1.trans hkept)) hlt
      have hyp := elemB_parts (codeB_elem (asked_code HB.out) h2)
      obtain ⟨_, ⟨hz0', hz3⟩, _⟩ := hyp
      have hl24 : x.elems.length ≤ 24 := (codeB_heads (asked_code HB.out)).1.2
      by_cases hf : y.family = f
      · have HN := Lib.hid (lvls_yes h2 hf)
        have hf' : (y.family == f) = true := by simp [hf]
        have HCS := Lib.hid (cns_snoc (m := 5) (lvls (x.elems.take k) f) hz0' (by omega))
        have hcg := cns_get (m := 5) (lvls (x.elems.take k) f) hz0' (by omega)
        obtain ⟨cb1, cb2⟩ := cn_bd (lvls (x.elems.take k) f) y.level
        have hl3 := lvls_len x.elems f k
        have hcell : wr.cell? ⟨w1.heap.size, y.level.toNat, none⟩ = some (.int .i64 (cn (lvls (x.elems.take k) f) y.level)) := by
          rw [ho.cellAt y.level.toNat (by omega), List.getElem?_map, hcg]
          rfl
        have hfr := ho.frozenAt y.level.toNat
        have HST := Lib.hid ((ho.stored y.level.toNat (.int .i64 (cn (lvls (x.elems.take k) f) y.level + 1))).1.alloc (.cells #[.string y.name, .int .i64 y.family, .int .i64 y.level, .int .i64 y.base] 53))
        have hzi : y.level < 5 := by omega
        have hszr : w1.heap.size < wr.heap.size := (ho.lt w1.heap.size rfl).2
        clear h2 hf hcg ho
        generalize hcd : cn (lvls (x.elems.take k) f) y.level = cd at *
        clear hcd
        go_wp2_with fail
        go_roundw
        case rel =>
          refine ⟨k + 1, by omega, by go_num, ?_, (Kept.setCell hkept (Nat.le_refl _) _).alloc _⟩
          have := HST.out
          rw [HN.out, HCS.out, List.map_set]
          exact this
        case measure => simp [intOf]; omega
      · have HN := Lib.hid (lvls_no h2 hf)
        have hf' : (y.family == f) = false := beq_eq_false_iff_ne.2 hf
        have HO := Lib.hid ho
        clear h2 hf ho
        go_wp2_with fail
        go_roundw
        case rel => exact ⟨k + 1, by omega, by go_num, by rw [HN.out]; exact HO.out.alloc _, hkept.alloc _⟩
        case measure => simp [intOf]; omega
    · obtain rfl : k = x.elems.length := by omega
      have HO := Lib.hid ho
      clear ho
      go_wp2_with fail
      go_ret2
      refine ⟨_, ret_vb HB.out.symm, ?_, K1.trans hkept⟩
      have := HO.out
      rw [List.take_length] at this
      rw [lvV_yes HB.out]
      unfold OwnI
      rw [cns_length]
      exact this
set_option maxHeartbeats 2000000 in
theorem levelsOf_any (v : Value) (x : CodeD) (f : Int) (w : World) (h : CodeAt w v x) :
    Calls Try.prog 25 #[v, .int .i64 f] w fun e w' => ∃ v', e = .returned (.tuple #[v', .bool (askedB x f)]) ∧ OwnI w' w.heap.size v' (lvV x f) ∧ Kept w w' := by
  have h0 := h
  obtain ⟨nv, mv, rfl, q1, q2⟩ := h
  obtain ⟨A, c, rfl, hnc, hcm, hl⟩ := q1.1.out
  obtain ⟨A2, c2, rfl, _, _, _⟩ := q2.out
  unfold maxLen at hcm
  have HL := Lib.hid hl
  have HS := Lib.hid q1.2
  have H0 := Lib.hid h0
  clear h0 q1 q2 hl
  have B0 := Box.new w w.heap.size 30 #[.slice A x.elems.length c, .slice A2 x.limits.length c2, .int .i64 x.repeats, .int .i64 x.bonus, .int .i64 x.keeps, .int .i64 x.fall] rfl
  have K0 : Kept w (w.alloc (.cells #[.slice A x.elems.length c, .slice A2 x.limits.length c2, .int .i64 x.repeats, .int .i64 x.bonus, .int .i64 x.keeps, .int .i64 x.fall] 30)) := (Kept.refl w).alloc _
  go_enter Try.func25, Try.ntmps25
  go_wp2_with fail
  refine (isCode_any _ x _ (H0.out.kept K0)).mono ?_
  rintro e w1 ⟨rfl, k1⟩
  by_cases hb : askedB x f = true
  case neg =>
    simp only [Bool.not_eq_true] at hb
    have HB := Lib.hid hb
    by_cases hc : codeB x = true
    · rw [hc]
      unfold askedB at hb
      rw [hc, Bool.true_and] at hb
      go_wp2_with (go_at_call 57; refine (isFamily_any _ _).mono ?_; rintro e w' ⟨rfl, rfl⟩)
      go_ret2
      exact ⟨_, ret_vb HB.out.symm, by rw [lvV_no HB.out]; exact World.ownsRow_nil _ _ _ _, K0.trans k1⟩
    · simp only [Bool.not_eq_true] at hc
      rw [hc]
      clear hb
      go_wp2_with fail
      go_ret2
      exact ⟨_, ret_vb HB.out.symm, by rw [lvV_no HB.out]; exact World.ownsRow_nil _ _ _ _, K0.trans k1⟩
  have hc : codeB x = true := asked_code hb
  have hd : inB f 0 4 = true := asked_fam hb
  rw [hc]
  clear hc
  obtain ⟨i0, hi, hz0, hz1, hz2⟩ := info_parts info_int
  have HB := Lib.hid hb
  have B1 := B0.kept k1
  have K1 := K0.trans k1
  clear B0 K0 k1 hb
  have hs1 := K1.size
  go_wp2_with (first | (go_at_call 57; refine (isFamily_any _ _).mono ?_; rintro e w' ⟨rfl, rfl⟩) | (at_make; refine wpList_make_full _ rfl _ _ 23 rfl w.heap.size 3 i0 _ 1 Try.underlying23 hi hz0 hz1 _ _ _ _ 5 rfl rfl rfl rfl (by rw [hz2]; omega) (by decide) hs1 ?_; intro w2 hown hgrow; have k2 : Kept w1 w2 := (Below.refl _ _).grown hgrow (Nat.le_refl _) (by intro k hk; cases hk); obtain ⟨x0, y0⟩ := (B1.kept k2).six; have H0' := Lib.hid hown; clear hown))
  have K2 := K1.trans k2
  have hown0 : w2.ownsRow w.heap.size 3 1 (.slice (some ⟨w1.heap.size, 0, none⟩) 5 5) 5 ((cns 5 []).map (Value.int .i64)) := by
    rw [show (cns 5 []).map (Value.int .i64) = (madeCells (Value.int .i64 0).cells (5 * 1)).toList from by kernel_rfl]
    exact H0'.out
  clear hgrow hi hz0 hz1 hz2 x0 y0 H0'
  have HW := Lib.hid hown0
  clear hown0
  go_loopw [21] (fun i wr => ∃ k : Nat, k ≤ x.elems.length ∧ i = .int .i64 k ∧ wr.ownsRow w.heap.size 3 1 (.slice (some ⟨w1.heap.size, 0, none⟩) 5 5) 5 ((cns 5 (lvls (x.elems.take k) f)).map (Value.int .i64)) ∧ Kept w1 wr) (fun i _ => x.elems.length - (intOf i).toNat)
  case atStart => exact ⟨0, Nat.zero_le _, rfl, by simpa [lvls] using HW.out, k2⟩
  case round =>
    obtain ⟨k, hk, rfl, ho, hkept⟩ := hrel
    by_cases hlt : k < x.elems.length
    · obtain ⟨b, o, y, rfl, hb', h2, q0, q1, q2, q3⟩ := elems_at (HL.out.kept (K1.trans hkept)) hlt
      have hyp := elemB_parts (codeB_elem (asked_code HB.out) h2)
      obtain ⟨_, ⟨hz0', hz3⟩, _⟩ := hyp
      have hl24 : x.elems.length ≤ 24 := (codeB_heads (asked_code HB.out)).1.2
      by_cases hf : y.family = f
      · have HN := Lib.hid (lvls_yes h2 hf)
        have hf' : (y.family == f) = true := by simp [hf]
        have HCS := Lib.hid (cns_snoc (m := 5) (lvls (x.elems.take k) f) hz0' (by omega))
        have hcg := cns_get (m := 5) (lvls (x.elems.take k) f) hz0' (by omega)
        obtain ⟨cb1, cb2⟩ := cn_bd (lvls (x.elems.take k) f) y.level
        have hl3 := lvls_len x.elems f k
        have hcell : wr.cell? ⟨w1.heap.size, y.level.toNat, none⟩ = some (.int .i64 (cn (lvls (x.elems.take k) f) y.level)) := by
          rw [ho.cellAt y.level.toNat (by omega), List.getElem?_map, hcg]
          rfl
        have hfr := ho.frozenAt y.level.toNat
        have HST := Lib.hid ((ho.stored y.level.toNat (.int .i64 (cn (lvls (x.elems.take k) f) y.level + 1))).1.alloc (.cells #[.string y.name, .int .i64 y.family, .int .i64 y.level, .int .i64 y.base] 53))
        have hzi : y.level < 5 := by omega
        have hszr : w1.heap.size < wr.heap.size := (ho.lt w1.heap.size rfl).2
        clear h2 hf hcg ho
        generalize hcd : cn (lvls (x.elems.take k) f) y.level = cd at *
        clear hcd
        go_wp2_with fail
        go_roundw
        case rel =>
          refine ⟨k + 1, by omega, by go_num, ?_, (Kept.setCell hkept (Nat.le_refl _) _).alloc _⟩
          have := HST.out
          rw [HN.out, HCS.out, List.map_set]
          exact this
        case measure => simp [intOf]; omega
      · have HN := Lib.hid (lvls_no h2 hf)
        have hf' : (y.family == f) = false := beq_eq_false_iff_ne.2 hf
        have HO := Lib.hid ho
        clear h2 hf ho
        go_wp2_with fail
        go_roundw
        case rel => exact ⟨k + 1, by omega, by go_num, by rw [HN.out]; exact HO.out.alloc _, hkept.alloc _⟩
        case measure => simp [intOf]; omega
    · obtain rfl : k = x.elems.length := by omega
      have HO := Lib.hid ho
      clear ho
      go_wp2_with fail
      go_ret2
      refine ⟨_, ret_vb HB.out.symm, ?_, K1.trans hkept⟩
      have := HO.out
      rw [List.take_length] at this
      rw [lvV_yes HB.out]
      unfold OwnI
      rw [cns_length]
      exact this
set_option maxHeartbeats 4000000 in
theorem lawLevelsOf_any {w : World} {v0 : Value} (z0 : CodeD) (a1 : Int) (h0 : CodeAt w v0 z0) (_ : (Lit.int .i64 a1).wf = true) :
    Calls Try.prog 7 #[v0, .int .i64 a1] w fun e w' => e = .returned (.bool true) ∧ Kept w w' := by
  have H0 := Lib.hid h0
  obtain ⟨n0, m0, rfl, p0, q0⟩ := h0
  obtain ⟨A0, c0, rfl, _⟩ := p0.1.out
  obtain ⟨D0, d0, rfl, _⟩ := q0.out
  clear p0 q0
  go_enter Try.func7, Try.ntmps7
  have K0 := Kept.refl w
  go_wp2_with fail
  obtain ⟨wb1, hwb1⟩ : ∃ w' : World, w' = w.alloc (.cells #[.slice A0 z0.elems.length c0, .slice D0 z0.limits.length d0, .int .i64 z0.repeats, .int .i64 z0.bonus, .int .i64 z0.keeps, .int .i64 z0.fall] 25) := ⟨_, rfl⟩
  rw [← hwb1]
  have KB0 : Kept w wb1 := hwb1 ▸ (Kept.refl w).alloc _
  have B0 : Box wb1 w.heap.size 25 #[.slice A0 z0.elems.length c0, .slice D0 z0.limits.length d0, .int .i64 z0.repeats, .int .i64 z0.bonus, .int .i64 z0.keeps, .int .i64 z0.fall] := hwb1 ▸ Box.new w w.heap.size 25 #[.slice A0 z0.elems.length c0, .slice D0 z0.limits.length d0, .int .i64 z0.repeats, .int .i64 z0.bonus, .int .i64 z0.keeps, .int .i64 z0.fall] rfl
  have szwb1 : wb1.heap.size = w.heap.size + 1 := by rw [hwb1]; simp
  clear hwb1
  have Kwb1 := K0.trans KB0
  refine (szCode_any _ z0 _ _ (H0.out.kept Kwb1) (by omega) (by omega)).mono ?_
  rintro e w1 ⟨rfl, k1⟩
  replace B0 := B0.kept k1
  have sz1 := k1.size
  have K1 := Kwb1.trans k1
  by_cases hbig0 : ((z0.size : Nat) : Int) ≤ 1048576
  case neg =>
    have e1 : lessOr 1048576 (z0.size) = -1 := by unfold lessOr; exact if_neg (by omega)
    rw [e1]
    go_wp2_with fail
    go_ret
    exact ⟨rfl, K1⟩
  have e1 : lessOr 1048576 (z0.size) = 1048576 - (z0.size : Int) := by unfold lessOr; exact if_pos (by omega)
  rw [e1]
  clear e1
  have hparts0 := code_parts z0
  have hX := lvV_len z0 a1
  obtain ⟨x0, y0⟩ := B0.six
  go_wp2_with fail
  clear x0 y0
  refine (toCode_any _ z0 _ (H0.out.kept K1) (by omega) (by omega)).mono ?_
  rintro e w2 ⟨u2, rfl, o2, k2⟩
  replace B0 := B0.kept k2
  have sz2 := k2.size
  have K2 := K1.trans k2
  have R2 := Lib.hid o2.code
  clear o2
  obtain ⟨x0, y0⟩ := B0.six
  go_wp2_with fail
  clear x0 y0
  refine (specLevelsOf_any _ z0 _ _ R2.out).mono ?_
  rintro e w3 ⟨u3, rfl, o3, k3⟩
  replace B0 := B0.kept k3
  replace R2 := Lib.hid (R2.out.kept k3)
  have sz3 := k3.size
  have K3 := K2.trans k3
  clear R2
  have RS := Lib.hid o3.ints
  clear o3
  have KS := Kept.refl w3
  obtain ⟨x0, y0⟩ := B0.six
  go_wp2_with fail
  clear x0 y0
  refine (toCode_any _ z0 _ (H0.out.kept K3) (by omega) (by omega)).mono ?_
  rintro e w4 ⟨u4, rfl, o4, k4⟩
  replace B0 := B0.kept k4
  replace KS := KS.trans k4
  have sz4 := k4.size
  have K4 := K3.trans k4
  obtain ⟨n4, m4, rfl, p4, q4, nd4⟩ := o4
  obtain ⟨A4, c4, rfl, _⟩ := own_form p4.1
  obtain ⟨D4, d4, rfl, _⟩ := own_form q4
  have o4 : OwnK w4 _ (.agg #[.slice A4 z0.elems.length c4, .slice D4 z0.limits.length d4, .int .i64 z0.repeats, .int .i64 z0.bonus, .int .i64 z0.keeps, .int .i64 z0.fall]) z0 := ⟨_, _, rfl, p4, q4, nd4⟩
  clear p4 q4 nd4
  have F4 := Lib.hid o4.fps
  have O4 := Lib.hid o4
  clear o4
  obtain ⟨x0, y0⟩ := B0.six
  go_wp2_with fail
  clear x0 y0
  obtain ⟨wb2, hwb2⟩ : ∃ w' : World, w' = w4.alloc (.cells #[.slice A4 z0.elems.length c4, .slice D4 z0.limits.length d4, .int .i64 z0.repeats, .int .i64 z0.bonus, .int .i64 z0.keeps, .int .i64 z0.fall] 30) := ⟨_, rfl⟩
  rw [← hwb2]
  have KB4 : Kept w4 wb2 := hwb2 ▸ (Kept.refl w4).alloc _
  have B4 : Box wb2 w4.heap.size 30 #[.slice A4 z0.elems.length c4, .slice D4 z0.limits.length d4, .int .i64 z0.repeats, .int .i64 z0.bonus, .int .i64 z0.keeps, .int .i64 z0.fall] := hwb2 ▸ Box.new w4 w4.heap.size 30 #[.slice A4 z0.elems.length c4, .slice D4 z0.limits.length d4, .int .i64 z0.repeats, .int .i64 z0.bonus, .int .i64 z0.keeps, .int .i64 z0.fall] rfl
  have szwb2 : wb2.heap.size = w4.heap.size + 1 := by rw [hwb2]; simp
  clear hwb2
  replace B0 := B0.kept KB4
  replace O4 := Lib.hid (O4.out.kept KB4)
  replace KS := KS.trans KB4
  have Kwb2 := K4.trans KB4
  refine (levelsOf_any _ z0 _ _ O4.out.code).mono ?_
  rintro e w5 ⟨u5, rfl, o5, k5⟩
  replace B0 := B0.kept k5
  replace B4 := B4.kept k5
  replace O4 := Lib.hid (O4.out.kept k5)
  replace KS := KS.trans k5
  have sz5 := k5.size
  have K5 := Kwb2.trans k5
  have F5 := Lib.hid (own_fp o5)
  have O5 := Lib.hid o5
  clear o5
  obtain ⟨x0, y0⟩ := B0.six
  obtain ⟨x4, y4⟩ := B4.six
  go_wp2_with fail
  clear x0 y0 x4 y4
  refine (eqIntS_any _ _ (lvV z0 a1) (lvV z0 a1) _ O5.out.ints (RS.out.kept KS)).mono ?_
  rintro e w6 ⟨rfl, k6⟩
  replace B0 := B0.kept k6
  replace B4 := B4.kept k6
  replace O4 := Lib.hid (O4.out.kept k6)
  replace O5 := Lib.hid (O5.out.kept k6)
  replace KS := KS.trans k6
  have sz6 := k6.size
  have K6 := K5.trans k6
  rw [show decide (lvV z0 a1 = lvV z0 a1) = true from by simp]
  obtain ⟨x0, y0⟩ := B0.six
  obtain ⟨x4, y4⟩ := B4.six
  go_wp2_with fail
  clear x0 y0 x4 y4
  have KDw6 : Kept w6 w6.drew := (Kept.refl _).drew
  replace B0 := B0.kept KDw6
  replace B4 := B4.kept KDw6
  replace O4 := Lib.hid (O4.out.kept KDw6)
  replace O5 := Lib.hid (O5.out.kept KDw6)
  replace KS := KS.trans KDw6
  have KKw6 := K6.trans KDw6
  have szdw6 : w6.heap.size ≤ w6.drew.heap.size := KDw6.size
  go_region_held3 (fun w' => (w'.cell? ⟨w.heap.size, 0, none⟩ = some (.slice A0 z0.elems.length c0) ∧ w'.cell? ⟨w.heap.size, 1, none⟩ = some (.slice D0 z0.limits.length d0) ∧ w'.cell? ⟨w.heap.size, 2, none⟩ = some (.int .i64 z0.repeats) ∧ w'.cell? ⟨w.heap.size, 3, none⟩ = some (.int .i64 z0.bonus) ∧ w'.cell? ⟨w.heap.size, 4, none⟩ = some (.int .i64 z0.keeps) ∧ w'.cell? ⟨w.heap.size, 5, none⟩ = some (.int .i64 z0.fall)) ∧ (w'.cell? ⟨w4.heap.size, 0, none⟩ = some (.slice A4 z0.elems.length c4) ∧ w'.cell? ⟨w4.heap.size, 1, none⟩ = some (.slice D4 z0.limits.length d4) ∧ w'.cell? ⟨w4.heap.size, 2, none⟩ = some (.int .i64 z0.repeats) ∧ w'.cell? ⟨w4.heap.size, 3, none⟩ = some (.int .i64 z0.bonus) ∧ w'.cell? ⟨w4.heap.size, 4, none⟩ = some (.int .i64 z0.keeps) ∧ w'.cell? ⟨w4.heap.size, 5, none⟩ = some (.int .i64 z0.fall))) (first | exact ⟨B0.six.1, B4.six.1⟩ | exact ⟨(B0.kept (by assumption)).six.1, (B4.kept (by assumption)).six.1⟩)
    (first | (go_at_call 15; refine (toCode_any _ z0 _ (H0.out.kept KKw6) (by omega) (by omega)).mono ?_; rintro e w7 ⟨u7, rfl, o7, k7⟩) | (go_at_call 17; refine (eqCode_any _ _ z0 _ (O4.out.code.kept k7) o7.code).mono ?_; rintro e w8 ⟨rfl, k8⟩; have kk8 := k7.trans k8))
  clear o7
  replace B0 := B0.kept kk8
  replace B4 := B4.kept kk8
  replace O4 := Lib.hid (O4.out.kept kk8)
  replace O5 := Lib.hid (O5.out.kept kk8)
  replace KS := KS.trans kk8
  have sz8 := kk8.size
  have K8 := KKw6.trans kk8
  have nb4 : nextC (1) z0 = (1) + 4 * z0.elems.length + z0.limits.length := rfl
  obtain ⟨x0, y0⟩ := B0.six
  obtain ⟨x4, y4⟩ := B4.six
  go_wp2_with fail
  clear x0 y0 x4 y4
  refine (markCode_any _ z0 _ _ _ O4.out (by omega) (by omega) (by omega) (by omega)).mono ?_
  rintro e w9 ⟨rfl, o9, on9⟩
  have sz9 := on9.size
  replace B0 := B0.only on9 (fun hb => by have := F4.out _ hb; omega)
  replace B4 := B4.only on9 (fun hb => by have := F4.out _ hb; omega)
  replace O5 := Lib.hid (O5.out.only on9 (fun b hb hb' => by have := F5.out b hb; have := F4.out b hb'; omega))
  replace KS := on9.above KS (fun b hb => by have := F4.out b hb; omega)
  have K9 := on9.above K8 (fun b hb => by have := F4.out b hb; omega)
  replace O4 := Lib.hid o9
  clear o9 on9
  obtain ⟨x0, y0⟩ := B0.six
  obtain ⟨x4, y4⟩ := B4.six
  go_wp2_with fail
  clear x0 y0 x4 y4
  refine (eqIntS_any _ _ (lvV z0 a1) (lvV z0 a1) _ O5.out.ints (RS.out.kept KS)).mono ?_
  rintro e w10 ⟨rfl, k10⟩
  replace B0 := B0.kept k10
  replace B4 := B4.kept k10
  replace O4 := Lib.hid (O4.out.kept k10)
  replace O5 := Lib.hid (O5.out.kept k10)
  replace KS := KS.trans k10
  have sz10 := k10.size
  have K10 := K9.trans k10
  rw [show decide (lvV z0 a1 = lvV z0 a1) = true from by simp]
  obtain ⟨x0, y0⟩ := B0.six
  obtain ⟨x4, y4⟩ := B4.six
  go_wp2_with fail
  clear x0 y0 x4 y4
  refine (markIntS_any _ (lvV z0 a1) _ _ _ O5.out (by omega) (by omega) (by omega)).mono ?_
  rintro e w11 ⟨rfl, o11, on11⟩
  have sz11 := on11.size
  replace B0 := B0.only on11 (fun hb => by have := F5.out _ hb; omega)
  replace B4 := B4.only on11 (fun hb => by have := F5.out _ hb; omega)
  replace O4 := Lib.hid (O4.out.only on11 (fun b hb hb' => by have := F4.out b hb; have := F5.out b hb'; omega))
  replace KS := on11.above KS (fun b hb => by have := F5.out b hb; omega)
  have K11 := on11.above K10 (fun b hb => by have := F5.out b hb; omega)
  replace O5 := Lib.hid o11
  clear o11 on11
  obtain ⟨x0, y0⟩ := B0.six
  obtain ⟨x4, y4⟩ := B4.six
  go_wp2_with fail
  clear x0 y0 x4 y4
  refine (heldIntS_any _ _ ((lvV z0 a1)).length _ O5.out.ints (by omega) (by omega) (by omega)).mono ?_
  rintro e w12 ⟨rfl, k12⟩
  replace k12 := kept_of k12
  replace B0 := B0.kept k12
  replace B4 := B4.kept k12
  replace O4 := Lib.hid (O4.out.kept k12)
  replace O5 := Lib.hid (O5.out.kept k12)
  replace KS := KS.trans k12
  have sz12 := k12.size
  have K12 := K11.trans k12
  obtain ⟨x0, y0⟩ := B0.six
  obtain ⟨x4, y4⟩ := B4.six
  go_wp2_with fail
  clear x0 y0 x4 y4
  refine (toCode_any _ z0 _ (H0.out.kept K12) (by omega) (by omega)).mono ?_
  rintro e w13 ⟨u13, rfl, o13, k13⟩
  replace B0 := B0.kept k13
  replace B4 := B4.kept k13
  replace O4 := Lib.hid (O4.out.kept k13)
  replace O5 := Lib.hid (O5.out.kept k13)
  replace KS := KS.trans k13
  have sz13 := k13.size
  have K13 := K12.trans k13
  have R13 := Lib.hid o13.code
  clear o13
  obtain ⟨x0, y0⟩ := B0.six
  obtain ⟨x4, y4⟩ := B4.six
  go_wp2_with fail
  clear x0 y0 x4 y4
  refine (levelsOf_any _ z0 _ _ R13.out).mono ?_
  rintro e w14 ⟨u14, rfl, o14, k14⟩
  replace B0 := B0.kept k14
  replace B4 := B4.kept k14
  replace R13 := Lib.hid (R13.out.kept k14)
  replace O4 := Lib.hid (O4.out.kept k14)
  replace O5 := Lib.hid (O5.out.kept k14)
  replace KS := KS.trans k14
  have sz14 := k14.size
  have K14 := K13.trans k14
  clear R13
  have RH := Lib.hid o14.ints
  clear o14
  obtain ⟨x0, y0⟩ := B0.six
  obtain ⟨x4, y4⟩ := B4.six
  go_wp2_with fail
  clear x0 y0 x4 y4
  refine (eqIntS_any _ _ (lvV z0 a1) (lvV z0 a1) _ RH.out (RS.out.kept KS)).mono ?_
  rintro e w15 ⟨rfl, k15⟩
  replace B0 := B0.kept k15
  replace B4 := B4.kept k15
  replace RH := Lib.hid (RH.out.kept k15)
  replace O4 := Lib.hid (O4.out.kept k15)
  replace O5 := Lib.hid (O5.out.kept k15)
  replace KS := KS.trans k15
  have sz15 := k15.size
  have K15 := K14.trans k15
  rw [show decide (lvV z0 a1 = lvV z0 a1) = true from by simp]
  obtain ⟨x0, y0⟩ := B0.six
  obtain ⟨x4, y4⟩ := B4.six
  go_wp2_with fail
  clear x0 y0 x4 y4
  refine (heldIntS_any _ _ ((lvV z0 a1)).length _ O5.out.ints (by omega) (by omega) (by omega)).mono ?_
  rintro e w16 ⟨rfl, k16⟩
  replace k16 := kept_of k16
  replace B0 := B0.kept k16
  replace B4 := B4.kept k16
  replace RH := Lib.hid (RH.out.kept k16)
  replace O4 := Lib.hid (O4.out.kept k16)
  replace O5 := Lib.hid (O5.out.kept k16)
  replace KS := KS.trans k16
  have sz16 := k16.size
  have K16 := K15.trans k16
  go_wp2_with fail
  go_ret
  exact ⟨rfl, K16⟩
end Go.Proofs.Yteebkplldggoiaa
