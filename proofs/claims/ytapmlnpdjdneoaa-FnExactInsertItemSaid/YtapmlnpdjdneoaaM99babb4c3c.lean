/- Contracts of functions that the proof leans on. No condition. -/
import Derived.Test.YtapmlnpdjdneoaaMa83125fc54
import Derived.ProofKit
import Derived.OpenShut
import Derived.ChangeOld
import Derived.SliceStrings
import Derived.Lib.SmallJoins
import Derived.Deep.Slices
import Derived.Deep.Fields
/- An item's marks. -/
namespace Go.Proofs.Ytapmlnpdjdneoaa
set_option linter.unusedVariables false
set_option linter.unusedSimpArgs false
open Go.RowKit

def nextM (k : Int) (x : ItemD) : Int := k + x.names.length + x.marks.length
def markM (k : Int) (x : ItemD) : ItemD := ⟨marksS k x.names.length, marksI (k + x.names.length) x.marks.length, x.late⟩
set_option maxHeartbeats 1000000 in
theorem markItem_any (v : Value) (x : ItemD) (k : Int) (w : World) (base : Nat) (h : OwnT w base v x) (hk : 1 ≤ k) (hk2 : k ≤ 137438953472) (hn : x.names.length ≤ 1048576) (hm : x.marks.length ≤ 1048576) :
    Calls Try.prog 28 #[v, .int .i64 k] w fun e w' => e = .returned (.int .i64 (nextM k x)) ∧ OwnT w' base v (markM k x) ∧ Only (fpA v) w w' := by
  obtain ⟨nv, mv, rfl, o1, o2, nd⟩ := h
  obtain ⟨A, c, rfl, _, _, _⟩ := own_form o1.1
  obtain ⟨A2, c2, rfl, _, _, _⟩ := own_form o2
  have ND := Lib.hid nd
  rw [fpA_item] at nd
  have HD := Lib.hid (List.nodup_append.1 nd).2.2
  have O1 := Lib.hid o1
  have O2 := Lib.hid o2
  have B0 := Box.new w w.heap.size 52 #[.slice A x.names.length c, .slice A2 x.marks.length c2, .bool x.late] rfl
  have K0 : Kept w (w.alloc (.cells #[.slice A x.names.length c, .slice A2 x.marks.length c2, .bool x.late] 52)) := (Kept.refl w).alloc _
  have F1 := Lib.hid (own_fp o1.1)
  have F2 := Lib.hid (own_fp o2)
  clear nd o1 o2
  go_enter Try.func28, Try.ntmps28
  go_wp2_with fail
  refine (markStringS_any _ x.names _ _ base (O1.out.kept K0) hk (by omega) hn).mono ?_
  rintro e w1 ⟨rfl, o1, on1⟩
  have B1 := B0.only on1 (fun hb => by have := F1.out _ hb; omega)
  obtain ⟨x0, y0⟩ := B1.three
  go_wp2_with fail
  clear x0 y0
  refine (markIntS_any _ x.marks _ _ base ((O2.out.kept K0).only on1 (fun b hb hb' => HD.out b hb' b hb rfl)) (by omega) (by omega) hm).mono ?_
  rintro e w2 ⟨rfl, o2, on2⟩
  go_wp2_with fail
  go_ret
  refine ⟨ret_int (by unfold nextM; rfl), ⟨_, _, rfl, ?_, ?_, ND.out⟩, ?_⟩
  · exact o1.only on2 (fun b hb hb' => HD.out b hb b hb' rfl)
  · exact o2
  · rw [fpA_item]
    exact (K0.only _).trans ((on1.mono (fun b hb => List.mem_append_left _ hb)).trans (on2.mono (fun b hb => List.mem_append_right _ hb)))
end Go.Proofs.Ytapmlnpdjdneoaa

/- Programmes: InsertItem, the law. -/
namespace Go.Proofs.Ytapmlnpdjdneoaa
set_option linter.unusedVariables false
set_option linter.unusedSimpArgs false
open Go.RowKit

set_option maxHeartbeats 4000000 in
theorem lawInsertItem_any {w : World} {v0 : Value} {v1 : Value} {v3 : Value} (z0 : CodeD) (z1 : List ItemD) (a2 : Int) (z3 : ItemD) (h0 : CodeAt w v0 z0) (h1 : ItemsAt w v1 z1) (_ : (Lit.int .i64 a2).wf = true) (h3 : ItemAt w v3 z3) :
    Calls Try.prog 5 #[v0, v1, .int .i64 a2, v3] w fun e w' => e = .returned (.bool true) ∧ Kept w w' := by
  have H0 := Lib.hid h0
  obtain ⟨n0, m0, rfl, p0, q0⟩ := h0
  obtain ⟨A0, c0, rfl, _⟩ := p0.1.out
  obtain ⟨D0, d0, rfl, _⟩ := q0.out
  clear p0 q0
  have H1 := Lib.hid h1
  clear h1
  have H3 := Lib.hid h3
  obtain ⟨n3, m3, rfl, p3, q3⟩ := h3
  obtain ⟨A3, c3, rfl, _⟩ := p3.1.out
  obtain ⟨D3, d3, rfl, _⟩ := q3.out
  clear p3 q3
  go_enter Try.func5, Try.ntmps5
  have K0 := Kept.refl w
  go_wp2_with fail
  obtain ⟨wb1, hwb1⟩ : ∃ w' : World, w' = w.alloc (.cells #[.slice A0 z0.elems.length c0, .slice D0 z0.limits.length d0, .int .i64 z0.repeats, .int .i64 z0.bonus, .int .i64 z0.keeps, .int .i64 z0.fall] 37) := ⟨_, rfl⟩
  rw [← hwb1]
  have KB0 : Kept w wb1 := hwb1 ▸ (Kept.refl w).alloc _
  have B0 : Box wb1 (w.heap.size) 37 #[.slice A0 z0.elems.length c0, .slice D0 z0.limits.length d0, .int .i64 z0.repeats, .int .i64 z0.bonus, .int .i64 z0.keeps, .int .i64 z0.fall] := hwb1 ▸ Box.new w (w.heap.size) 37 #[.slice A0 z0.elems.length c0, .slice D0 z0.limits.length d0, .int .i64 z0.repeats, .int .i64 z0.bonus, .int .i64 z0.keeps, .int .i64 z0.fall] rfl
  have szwb1 : wb1.heap.size = w.heap.size + 1 := by rw [hwb1]; simp
  clear hwb1
  have Kwb1 := K0.trans KB0
  obtain ⟨wb2, hwb2⟩ : ∃ w' : World, w' = wb1.alloc (.cells #[.slice A3 z3.names.length c3, .slice D3 z3.marks.length d3, .bool z3.late] 49) := ⟨_, rfl⟩
  rw [← hwb2]
  have KB3 : Kept wb1 wb2 := hwb2 ▸ (Kept.refl wb1).alloc _
  have B3 : Box wb2 (w.heap.size + 1) 49 #[.slice A3 z3.names.length c3, .slice D3 z3.marks.length d3, .bool z3.late] := hwb2 ▸ Box.new wb1 (w.heap.size + 1) 49 #[.slice A3 z3.names.length c3, .slice D3 z3.marks.length d3, .bool z3.late] (by omega)
  have szwb2 : wb2.heap.size = wb1.heap.size + 1 := by rw [hwb2]; simp
  clear hwb2
  replace B0 := B0.kept KB3
  have Kwb2 := Kwb1.trans KB3
  refine (szCode_any _ z0 _ _ (H0.out.kept Kwb2) (by omega) (by omega)).mono ?_
  rintro e w1 ⟨rfl, k1⟩
  replace B0 := B0.kept k1
  replace B3 := B3.kept k1
  have sz1 := k1.size
  have K1 := Kwb2.trans k1
  by_cases hbig0 : ((z0.size : Nat) : Int) ≤ 1048576
  case neg =>
    have e1 : lessOr 1048576 (z0.size) = -1 := by unfold lessOr; exact if_neg (by omega)
    rw [e1]
    go_wp2_with fail
    go_ret
    exact ⟨rfl, K1⟩
  have e1 : lessOr 1048576 (z0.size) = 1048576 - (z0.size : Int) := by unfold lessOr; exact if_pos (by omega)
  rw [e1]
  clear e1
  have hparts0 := code_parts z0
  obtain ⟨x0, y0⟩ := B0.six
  obtain ⟨x3, y3⟩ := B3.three
  go_wp2_with fail
  clear x0 y0 x3 y3
  refine (szItemS_any _ z1 _ _ (H1.out.kept K1) (by omega) (by omega)).mono ?_
  rintro e w2 ⟨rfl, k2⟩
  replace B0 := B0.kept k2
  replace B3 := B3.kept k2
  have sz2 := k2.size
  have K2 := K1.trans k2
  by_cases hbig1 : ((itemsSize z1 : Nat) : Int) ≤ (1048576 - (z0.size : Int))
  case neg =>
    have e1 : lessOr (1048576 - (z0.size : Int)) (itemsSize z1) = -1 := by unfold lessOr; exact if_neg (by omega)
    rw [e1]
    go_wp2_with fail
    go_ret
    exact ⟨rfl, K2⟩
  have e1 : lessOr (1048576 - (z0.size : Int)) (itemsSize z1) = (1048576 - (z0.size : Int)) - (itemsSize z1 : Int) := by unfold lessOr; exact if_pos (by omega)
  rw [e1]
  clear e1
  obtain ⟨x0, y0⟩ := B0.six
  obtain ⟨x3, y3⟩ := B3.three
  go_wp2_with fail
  clear x0 y0 x3 y3
  refine (szItem_any _ z3 _ _ (H3.out.kept K2) (by omega) (by omega)).mono ?_
  rintro e w3 ⟨rfl, k3⟩
  replace B0 := B0.kept k3
  replace B3 := B3.kept k3
  have sz3 := k3.size
  have K3 := K2.trans k3
  by_cases hbig3 : ((z3.size : Nat) : Int) ≤ (1048576 - (z0.size : Int) - (itemsSize z1 : Int))
  case neg =>
    have e1 : lessOr (1048576 - (z0.size : Int) - (itemsSize z1 : Int)) (z3.size) = -1 := by unfold lessOr; exact if_neg (by omega)
    rw [e1]
    go_wp2_with fail
    go_ret
    exact ⟨rfl, K3⟩
  have e1 : lessOr (1048576 - (z0.size : Int) - (itemsSize z1 : Int)) (z3.size) = (1048576 - (z0.size : Int) - (itemsSize z1 : Int)) - (z3.size : Int) := by unfold lessOr; exact if_pos (by omega)
  rw [e1]
  clear e1
  have hparts3 := item_parts z3
  have hX := inV_size z0 z1 a2 z3
  obtain ⟨x0, y0⟩ := B0.six
  obtain ⟨x3, y3⟩ := B3.three
  go_wp2_with fail
  clear x0 y0 x3 y3
  have KDw3 : Kept w3 w3.drew := (Kept.refl _).drew
  replace B0 := B0.kept KDw3
  replace B3 := B3.kept KDw3
  have KKw3 := K3.trans KDw3
  have szdw3 : w3.heap.size ≤ w3.drew.heap.size := KDw3.size
  go_region_held3 (fun w' => (w'.cell? ⟨w.heap.size, 0, none⟩ = some (.slice A0 z0.elems.length c0) ∧ w'.cell? ⟨w.heap.size, 1, none⟩ = some (.slice D0 z0.limits.length d0) ∧ w'.cell? ⟨w.heap.size, 2, none⟩ = some (.int .i64 z0.repeats) ∧ w'.cell? ⟨w.heap.size, 3, none⟩ = some (.int .i64 z0.bonus) ∧ w'.cell? ⟨w.heap.size, 4, none⟩ = some (.int .i64 z0.keeps) ∧ w'.cell? ⟨w.heap.size, 5, none⟩ = some (.int .i64 z0.fall)) ∧ (w'.cell? ⟨w.heap.size + 1, 0, none⟩ = some (.slice A3 z3.names.length c3) ∧ w'.cell? ⟨w.heap.size + 1, 1, none⟩ = some (.slice D3 z3.marks.length d3) ∧ w'.cell? ⟨w.heap.size + 1, 2, none⟩ = some (.bool z3.late))) (first | exact ⟨B0.six.1, B3.three.1⟩ | exact ⟨(B0.kept (by assumption)).six.1, (B3.kept (by assumption)).three.1⟩)
    (first | (go_at_call 18; refine (toCode_any _ z0 _ (H0.out.kept KKw3) (by omega) (by omega)).mono ?_; rintro e w4 ⟨u4, rfl, o4, k4⟩; have R4 := Lib.hid o4.code; clear o4) | (go_at_call 9; refine (toItemS_any _ z1 _ (H1.out.kept (KKw3.trans k4)) (by omega)).mono ?_; rintro e w5 ⟨u5, S5, rfl, o5, k5⟩; replace R4 := Lib.hid (R4.out.kept k5); have R5 := Lib.hid o5.items; clear o5; have kk5 := k4.trans k5) | (go_at_call 25; refine (toItem_any _ z3 _ (H3.out.kept (KKw3.trans kk5)) (by omega) (by omega)).mono ?_; rintro e w6 ⟨u6, rfl, o6, k6⟩; replace R4 := Lib.hid (R4.out.kept k6); replace R5 := Lib.hid (R5.out.kept k6); have R6 := Lib.hid o6.item; clear o6; have kk6 := kk5.trans k6) | (go_at_call 24; refine (specInsertItem_any _ _ _ z0 z1 _ z3 _ R4.out R5.out R6.out).mono ?_; rintro e w7 ⟨u7, S7, rfl, o7, k7⟩; have kk7 := kk6.trans k7))
  clear R4 R5 R6
  replace B0 := B0.kept kk7
  replace B3 := B3.kept kk7
  have sz7 := kk7.size
  have K7 := KKw3.trans kk7
  have RS := Lib.hid o7.items
  clear o7
  have KS := Kept.refl w7
  obtain ⟨x0, y0⟩ := B0.six
  obtain ⟨x3, y3⟩ := B3.three
  go_wp2_with fail
  clear x0 y0 x3 y3
  refine (toCode_any _ z0 _ (H0.out.kept K7) (by omega) (by omega)).mono ?_
  rintro e w8 ⟨u8, rfl, o8, k8⟩
  replace B0 := B0.kept k8
  replace B3 := B3.kept k8
  replace KS := KS.trans k8
  have sz8 := k8.size
  have K8 := K7.trans k8
  obtain ⟨n8, m8, rfl, p8, q8, nd8⟩ := o8
  obtain ⟨A8, c8, rfl, _⟩ := own_form p8.1
  obtain ⟨D8, d8, rfl, _⟩ := own_form q8
  have o8 : OwnK w8 _ (.agg #[.slice A8 z0.elems.length c8, .slice D8 z0.limits.length d8, .int .i64 z0.repeats, .int .i64 z0.bonus, .int .i64 z0.keeps, .int .i64 z0.fall]) z0 := ⟨_, _, rfl, p8, q8, nd8⟩
  clear p8 q8 nd8
  have F8 := Lib.hid o8.fps
  have O8 := Lib.hid o8
  clear o8
  obtain ⟨x0, y0⟩ := B0.six
  have l0 := B0.lt
  obtain ⟨x3, y3⟩ := B3.three
  have l3 := B3.lt
  go_wp2_with fail
  clear x0 y0 l0 x3 y3 l3
  obtain ⟨wb3, hwb3⟩ : ∃ w' : World, w' = w8.alloc (.cells #[.slice A8 z0.elems.length c8, .slice D8 z0.limits.length d8, .int .i64 z0.repeats, .int .i64 z0.bonus, .int .i64 z0.keeps, .int .i64 z0.fall] 43) := ⟨_, rfl⟩
  rw [← hwb3]
  have KB8 : Kept w8 wb3 := hwb3 ▸ (Kept.refl w8).alloc _
  have B8 : Box wb3 (w8.heap.size) 43 #[.slice A8 z0.elems.length c8, .slice D8 z0.limits.length d8, .int .i64 z0.repeats, .int .i64 z0.bonus, .int .i64 z0.keeps, .int .i64 z0.fall] := hwb3 ▸ Box.new w8 (w8.heap.size) 43 #[.slice A8 z0.elems.length c8, .slice D8 z0.limits.length d8, .int .i64 z0.repeats, .int .i64 z0.bonus, .int .i64 z0.keeps, .int .i64 z0.fall] rfl
  have szwb3 : wb3.heap.size = w8.heap.size + 1 := by rw [hwb3]; simp
  clear hwb3
  replace B0 := B0.kept KB8
  replace B3 := B3.kept KB8
  replace O8 := Lib.hid (O8.out.kept KB8)
  replace KS := KS.trans KB8
  have Kwb3 := K8.trans KB8
  refine (toItemS_any _ z1 _ (H1.out.kept Kwb3) (by omega)).mono ?_
  rintro e w9 ⟨u9, S9, rfl, o9, k9⟩
  replace B0 := B0.kept k9
  replace B3 := B3.kept k9
  replace B8 := B8.kept k9
  replace O8 := Lib.hid (O8.out.kept k9)
  replace KS := KS.trans k9
  have sz9 := k9.size
  have K9 := Kwb3.trans k9
  obtain ⟨cs9, oc9, rfl, hF9⟩ := o9.toC
  have O9 := Lib.hid oc9
  have F9 := Lib.hid hF9
  clear o9 oc9 hF9
  obtain ⟨x0, y0⟩ := B0.six
  obtain ⟨x3, y3⟩ := B3.three
  obtain ⟨x8, y8⟩ := B8.six
  go_wp2_with fail
  clear x0 y0 x3 y3 x8 y8
  refine (toItem_any _ z3 _ (H3.out.kept K9) (by omega) (by omega)).mono ?_
  rintro e w10 ⟨u10, rfl, o10, k10⟩
  replace B0 := B0.kept k10
  replace B3 := B3.kept k10
  replace B8 := B8.kept k10
  replace O8 := Lib.hid (O8.out.kept k10)
  replace O9 := Lib.hid (O9.out.kept k10)
  replace KS := KS.trans k10
  have sz10 := k10.size
  have K10 := K9.trans k10
  obtain ⟨n10, m10, rfl, p10, q10, nd10⟩ := o10
  obtain ⟨A10, c10, rfl, _⟩ := own_form p10.1
  obtain ⟨D10, d10, rfl, _⟩ := own_form q10
  have o10 : OwnT w10 _ (.agg #[.slice A10 z3.names.length c10, .slice D10 z3.marks.length d10, .bool z3.late]) z3 := ⟨_, _, rfl, p10, q10, nd10⟩
  clear p10 q10 nd10
  have F10 := Lib.hid o10.fps
  have O10 := Lib.hid o10
  clear o10
  obtain ⟨x0, y0⟩ := B0.six
  have l0 := B0.lt
  obtain ⟨x3, y3⟩ := B3.three
  have l3 := B3.lt
  obtain ⟨x8, y8⟩ := B8.six
  have l8 := B8.lt
  go_wp2_with fail
  clear x0 y0 l0 x3 y3 l3 x8 y8 l8
  obtain ⟨wb4, hwb4⟩ : ∃ w' : World, w' = w10.alloc (.cells #[.slice A10 z3.names.length c10, .slice D10 z3.marks.length d10, .bool z3.late] 52) := ⟨_, rfl⟩
  rw [← hwb4]
  have KB10 : Kept w10 wb4 := hwb4 ▸ (Kept.refl w10).alloc _
  have B10 : Box wb4 (w10.heap.size) 52 #[.slice A10 z3.names.length c10, .slice D10 z3.marks.length d10, .bool z3.late] := hwb4 ▸ Box.new w10 (w10.heap.size) 52 #[.slice A10 z3.names.length c10, .slice D10 z3.marks.length d10, .bool z3.late] rfl
  have szwb4 : wb4.heap.size = w10.heap.size + 1 := by rw [hwb4]; simp
  clear hwb4
  replace B0 := B0.kept KB10
  replace B3 := B3.kept KB10
  replace B8 := B8.kept KB10
  replace O8 := Lib.hid (O8.out.kept KB10)
  replace O9 := Lib.hid (O9.out.kept KB10)
  replace O10 := Lib.hid (O10.out.kept KB10)
  replace KS := KS.trans KB10
  have Kwb4 := K10.trans KB10
  refine (implInsertItem_any _ _ _ z0 z1 _ z3 _ O8.out.code O9.out.items O10.out.item).mono ?_
  rintro e w11 ⟨u11, S11, rfl, o11, k11⟩
  replace B0 := B0.kept k11
  replace B3 := B3.kept k11
  replace B8 := B8.kept k11
  replace B10 := B10.kept k11
  replace O8 := Lib.hid (O8.out.kept k11)
  replace O9 := Lib.hid (O9.out.kept k11)
  replace O10 := Lib.hid (O10.out.kept k11)
  replace KS := KS.trans k11
  have sz11 := k11.size
  have K11 := Kwb4.trans k11
  obtain ⟨cs11, oc11, rfl, hF11⟩ := o11.toC
  have O11 := Lib.hid oc11
  have F11 := Lib.hid hF11
  clear o11 oc11 hF11
  obtain ⟨x0, y0⟩ := B0.six
  obtain ⟨x3, y3⟩ := B3.three
  obtain ⟨x8, y8⟩ := B8.six
  obtain ⟨x10, y10⟩ := B10.three
  go_wp2_with fail
  clear x0 y0 x3 y3 x8 y8 x10 y10
  refine (eqItemS_any _ _ (inV z0 z1 a2 z3) _ O11.out.items (RS.out.kept KS)).mono ?_
  rintro e w12 ⟨rfl, k12⟩
  replace B0 := B0.kept k12
  replace B3 := B3.kept k12
  replace B8 := B8.kept k12
  replace B10 := B10.kept k12
  replace O8 := Lib.hid (O8.out.kept k12)
  replace O9 := Lib.hid (O9.out.kept k12)
  replace O10 := Lib.hid (O10.out.kept k12)
  replace O11 := Lib.hid (O11.out.kept k12)
  replace KS := KS.trans k12
  have sz12 := k12.size
  have K12 := K11.trans k12
  obtain ⟨x0, y0⟩ := B0.six
  obtain ⟨x3, y3⟩ := B3.three
  obtain ⟨x8, y8⟩ := B8.six
  obtain ⟨x10, y10⟩ := B10.three
  go_wp2_with fail
  clear x0 y0 x3 y3 x8 y8 x10 y10
  have KDw12 : Kept w12 w12.drew := (Kept.refl _).drew
  replace B0 := B0.kept KDw12
  replace B3 := B3.kept KDw12
  replace B8 := B8.kept KDw12
  replace B10 := B10.kept KDw12
  replace O8 := Lib.hid (O8.out.kept KDw12)
  replace O9 := Lib.hid (O9.out.kept KDw12)
  replace O10 := Lib.hid (O10.out.kept KDw12)
  replace O11 := Lib.hid (O11.out.kept KDw12)
  replace KS := KS.trans KDw12
  have KKw12 := K12.trans KDw12
  have szdw12 : w12.heap.size ≤ w12.drew.heap.size := KDw12.size
  go_region_held3 (fun w' => (w'.cell? ⟨w.heap.size, 0, none⟩ = some (.slice A0 z0.elems.length c0) ∧ w'.cell? ⟨w.heap.size, 1, none⟩ = some (.slice D0 z0.limits.length d0) ∧ w'.cell? ⟨w.heap.size, 2, none⟩ = some (.int .i64 z0.repeats) ∧ w'.cell? ⟨w.heap.size, 3, none⟩ = some (.int .i64 z0.bonus) ∧ w'.cell? ⟨w.heap.size, 4, none⟩ = some (.int .i64 z0.keeps) ∧ w'.cell? ⟨w.heap.size, 5, none⟩ = some (.int .i64 z0.fall)) ∧ (w'.cell? ⟨w8.heap.size, 0, none⟩ = some (.slice A8 z0.elems.length c8) ∧ w'.cell? ⟨w8.heap.size, 1, none⟩ = some (.slice D8 z0.limits.length d8) ∧ w'.cell? ⟨w8.heap.size, 2, none⟩ = some (.int .i64 z0.repeats) ∧ w'.cell? ⟨w8.heap.size, 3, none⟩ = some (.int .i64 z0.bonus) ∧ w'.cell? ⟨w8.heap.size, 4, none⟩ = some (.int .i64 z0.keeps) ∧ w'.cell? ⟨w8.heap.size, 5, none⟩ = some (.int .i64 z0.fall))) (first | exact ⟨B0.six.1, B8.six.1⟩ | exact ⟨(B0.kept (by assumption)).six.1, (B8.kept (by assumption)).six.1⟩)
    (first | (go_at_call 18; refine (toCode_any _ z0 _ (H0.out.kept KKw12) (by omega) (by omega)).mono ?_; rintro e w13 ⟨u13, rfl, o13, k13⟩) | (go_at_call 20; refine (eqCode_any _ _ z0 _ (O8.out.code.kept k13) o13.code).mono ?_; rintro e w14 ⟨rfl, k14⟩; have kk14 := k13.trans k14))
  clear o13
  replace B0 := B0.kept kk14
  replace B3 := B3.kept kk14
  replace B8 := B8.kept kk14
  replace B10 := B10.kept kk14
  replace O8 := Lib.hid (O8.out.kept kk14)
  replace O9 := Lib.hid (O9.out.kept kk14)
  replace O10 := Lib.hid (O10.out.kept kk14)
  replace O11 := Lib.hid (O11.out.kept kk14)
  replace KS := KS.trans kk14
  have sz14 := kk14.size
  have K14 := KKw12.trans kk14
  obtain ⟨x0, y0⟩ := B0.six
  obtain ⟨x3, y3⟩ := B3.three
  obtain ⟨x8, y8⟩ := B8.six
  obtain ⟨x10, y10⟩ := B10.three
  go_wp2_with fail
  clear x0 y0 x3 y3 x8 y8 x10 y10
  refine (toItemS_any _ z1 _ (H1.out.kept K14) (by omega)).mono ?_
  rintro e w15 ⟨u15, S15, rfl, o15, k15⟩
  replace B0 := B0.kept k15
  replace B3 := B3.kept k15
  replace B8 := B8.kept k15
  replace B10 := B10.kept k15
  replace O8 := Lib.hid (O8.out.kept k15)
  replace O9 := Lib.hid (O9.out.kept k15)
  replace O10 := Lib.hid (O10.out.kept k15)
  replace O11 := Lib.hid (O11.out.kept k15)
  replace KS := KS.trans k15
  have sz15 := k15.size
  have K15 := K14.trans k15
  have R15 := Lib.hid o15.items
  clear o15
  obtain ⟨x0, y0⟩ := B0.six
  obtain ⟨x3, y3⟩ := B3.three
  obtain ⟨x8, y8⟩ := B8.six
  obtain ⟨x10, y10⟩ := B10.three
  go_wp2_with fail
  clear x0 y0 x3 y3 x8 y8 x10 y10
  refine (eqItemS_any _ _ (z1) _ O9.out.items R15.out).mono ?_
  rintro e w16 ⟨rfl, k16⟩
  replace B0 := B0.kept k16
  replace B3 := B3.kept k16
  replace B8 := B8.kept k16
  replace B10 := B10.kept k16
  replace R15 := Lib.hid (R15.out.kept k16)
  replace O8 := Lib.hid (O8.out.kept k16)
  replace O9 := Lib.hid (O9.out.kept k16)
  replace O10 := Lib.hid (O10.out.kept k16)
  replace O11 := Lib.hid (O11.out.kept k16)
  replace KS := KS.trans k16
  have sz16 := k16.size
  have K16 := K15.trans k16
  clear R15
  obtain ⟨x0, y0⟩ := B0.six
  obtain ⟨x3, y3⟩ := B3.three
  obtain ⟨x8, y8⟩ := B8.six
  obtain ⟨x10, y10⟩ := B10.three
  go_wp2_with fail
  clear x0 y0 x3 y3 x8 y8 x10 y10
  have KDw16 : Kept w16 w16.drew := (Kept.refl _).drew
  replace B0 := B0.kept KDw16
  replace B3 := B3.kept KDw16
  replace B8 := B8.kept KDw16
  replace B10 := B10.kept KDw16
  replace O8 := Lib.hid (O8.out.kept KDw16)
  replace O9 := Lib.hid (O9.out.kept KDw16)
  replace O10 := Lib.hid (O10.out.kept KDw16)
  replace O11 := Lib.hid (O11.out.kept KDw16)
  replace KS := KS.trans KDw16
  have KKw16 := K16.trans KDw16
  have szdw16 : w16.heap.size ≤ w16.drew.heap.size := KDw16.size
  go_region_held3 (fun w' => (w'.cell? ⟨w.heap.size + 1, 0, none⟩ = some (.slice A3 z3.names.length c3) ∧ w'.cell? ⟨w.heap.size + 1, 1, none⟩ = some (.slice D3 z3.marks.length d3) ∧ w'.cell? ⟨w.heap.size + 1, 2, none⟩ = some (.bool z3.late)) ∧ (w'.cell? ⟨w10.heap.size, 0, none⟩ = some (.slice A10 z3.names.length c10) ∧ w'.cell? ⟨w10.heap.size, 1, none⟩ = some (.slice D10 z3.marks.length d10) ∧ w'.cell? ⟨w10.heap.size, 2, none⟩ = some (.bool z3.late))) (first | exact ⟨B3.three.1, B10.three.1⟩ | exact ⟨(B3.kept (by assumption)).three.1, (B10.kept (by assumption)).three.1⟩)
    (first | (go_at_call 25; refine (toItem_any _ z3 _ (H3.out.kept KKw16) (by omega) (by omega)).mono ?_; rintro e w17 ⟨u17, rfl, o17, k17⟩) | (go_at_call 27; refine (eqItem_any _ _ z3 _ (O10.out.item.kept k17) o17.item).mono ?_; rintro e w18 ⟨rfl, k18⟩; have kk18 := k17.trans k18))
  clear o17
  replace B0 := B0.kept kk18
  replace B3 := B3.kept kk18
  replace B8 := B8.kept kk18
  replace B10 := B10.kept kk18
  replace O8 := Lib.hid (O8.out.kept kk18)
  replace O9 := Lib.hid (O9.out.kept kk18)
  replace O10 := Lib.hid (O10.out.kept kk18)
  replace O11 := Lib.hid (O11.out.kept kk18)
  replace KS := KS.trans kk18
  have sz18 := kk18.size
  have K18 := KKw16.trans kk18
  have nb8 : (1) ≤ nextC (1) z0 ∧ nextC (1) z0 ≤ (1) + 5242880 := ⟨by unfold nextC; omega, by unfold nextC; omega⟩
  obtain ⟨x0, y0⟩ := B0.six
  obtain ⟨x3, y3⟩ := B3.three
  obtain ⟨x8, y8⟩ := B8.six
  obtain ⟨x10, y10⟩ := B10.three
  go_wp2_with fail
  clear x0 y0 x3 y3 x8 y8 x10 y10
  refine (markCode_any _ z0 _ _ _ O8.out (by omega) (by omega) (by omega) (by omega)).mono ?_
  rintro e w19 ⟨rfl, o19, on19⟩
  have sz19 := on19.size
  replace B0 := B0.only on19 (fun hb => by have := F8.out _ hb; omega)
  replace B3 := B3.only on19 (fun hb => by have := F8.out _ hb; omega)
  replace B8 := B8.only on19 (fun hb => by have := F8.out _ hb; omega)
  replace B10 := B10.only on19 (fun hb => by have := F8.out _ hb; omega)
  replace O9 := Lib.hid (O9.out.only on19 (fun b hb hb' => by have := F9.out b hb; have := F8.out b hb'; omega))
  replace O10 := Lib.hid (O10.out.only on19 (fun b hb hb' => by have := F10.out b hb; have := F8.out b hb'; omega))
  replace O11 := Lib.hid (O11.out.only on19 (fun b hb hb' => by have := F11.out b hb; have := F8.out b hb'; omega))
  replace KS := on19.above KS (fun b hb => by have := F8.out b hb; omega)
  have K19 := on19.above K18 (fun b hb => by have := F8.out b hb; omega)
  replace O8 := Lib.hid o19
  clear o19 on19
  have nb9 := nk_bd (nextC (1) z0) z1
  obtain ⟨x0, y0⟩ := B0.six
  obtain ⟨x3, y3⟩ := B3.three
  obtain ⟨x8, y8⟩ := B8.six
  obtain ⟨x10, y10⟩ := B10.three
  go_wp2_with fail
  clear x0 y0 x3 y3 x8 y8 x10 y10
  refine (markItemS_any _ z1 cs9 _ _ _ O9.out (by omega) (by omega) (by omega)).mono ?_
  rintro e w20 ⟨rfl, o20, on20⟩
  have sz20 := on20.size
  replace B0 := B0.only on20 (fun hb => by have := F9.out _ hb; omega)
  replace B3 := B3.only on20 (fun hb => by have := F9.out _ hb; omega)
  replace B8 := B8.only on20 (fun hb => by have := F9.out _ hb; omega)
  replace B10 := B10.only on20 (fun hb => by have := F9.out _ hb; omega)
  replace O8 := Lib.hid (O8.out.only on20 (fun b hb hb' => by have := F8.out b hb; have := F9.out b hb'; omega))
  replace O10 := Lib.hid (O10.out.only on20 (fun b hb hb' => by have := F10.out b hb; have := F9.out b hb'; omega))
  replace O11 := Lib.hid (O11.out.only on20 (fun b hb hb' => by have := F11.out b hb; have := F9.out b hb'; omega))
  replace KS := on20.above KS (fun b hb => by have := F9.out b hb; omega)
  have K20 := on20.above K19 (fun b hb => by have := F9.out b hb; omega)
  replace O9 := Lib.hid o20
  clear o20 on20
  have nb10 : (nk (nextC (1) z0) z1) ≤ nextM (nk (nextC (1) z0) z1) z3 ∧ nextM (nk (nextC (1) z0) z1) z3 ≤ (nk (nextC (1) z0) z1) + 2097153 := ⟨by unfold nextM; omega, by unfold nextM; omega⟩
  obtain ⟨x0, y0⟩ := B0.six
  obtain ⟨x3, y3⟩ := B3.three
  obtain ⟨x8, y8⟩ := B8.six
  obtain ⟨x10, y10⟩ := B10.three
  go_wp2_with fail
  clear x0 y0 x3 y3 x8 y8 x10 y10
  refine (markItem_any _ z3 _ _ _ O10.out (by omega) (by omega) (by omega) (by omega)).mono ?_
  rintro e w21 ⟨rfl, o21, on21⟩
  have sz21 := on21.size
  replace B0 := B0.only on21 (fun hb => by have := F10.out _ hb; omega)
  replace B3 := B3.only on21 (fun hb => by have := F10.out _ hb; omega)
  replace B8 := B8.only on21 (fun hb => by have := F10.out _ hb; omega)
  replace B10 := B10.only on21 (fun hb => by have := F10.out _ hb; omega)
  replace O8 := Lib.hid (O8.out.only on21 (fun b hb hb' => by have := F8.out b hb; have := F10.out b hb'; omega))
  replace O9 := Lib.hid (O9.out.only on21 (fun b hb hb' => by have := F9.out b hb; have := F10.out b hb'; omega))
  replace O11 := Lib.hid (O11.out.only on21 (fun b hb hb' => by have := F11.out b hb; have := F10.out b hb'; omega))
  replace KS := on21.above KS (fun b hb => by have := F10.out b hb; omega)
  have K21 := on21.above K20 (fun b hb => by have := F10.out b hb; omega)
  replace O10 := Lib.hid o21
  clear o21 on21
  obtain ⟨x0, y0⟩ := B0.six
  obtain ⟨x3, y3⟩ := B3.three
  obtain ⟨x8, y8⟩ := B8.six
  obtain ⟨x10, y10⟩ := B10.three
  go_wp2_with fail
  clear x0 y0 x3 y3 x8 y8 x10 y10
  refine (eqItemS_any _ _ (inV z0 z1 a2 z3) _ O11.out.items (RS.out.kept KS)).mono ?_
  rintro e w22 ⟨rfl, k22⟩
  replace B0 := B0.kept k22
  replace B3 := B3.kept k22
  replace B8 := B8.kept k22
  replace B10 := B10.kept k22
  replace O8 := Lib.hid (O8.out.kept k22)
  replace O9 := Lib.hid (O9.out.kept k22)
  replace O10 := Lib.hid (O10.out.kept k22)
  replace O11 := Lib.hid (O11.out.kept k22)
  replace KS := KS.trans k22
  have sz22 := k22.size
  have K22 := K21.trans k22
  have nbR := nk_bd 1 (inV z0 z1 a2 z3)
  obtain ⟨x0, y0⟩ := B0.six
  obtain ⟨x3, y3⟩ := B3.three
  obtain ⟨x8, y8⟩ := B8.six
  obtain ⟨x10, y10⟩ := B10.three
  go_wp2_with fail
  clear x0 y0 x3 y3 x8 y8 x10 y10
  refine (markItemS_any _ (inV z0 z1 a2 z3) cs11 _ _ _ O11.out (by omega) (by omega) (by omega)).mono ?_
  rintro e w23 ⟨rfl, o23, on23⟩
  have sz23 := on23.size
  replace B0 := B0.only on23 (fun hb => by have := F11.out _ hb; omega)
  replace B3 := B3.only on23 (fun hb => by have := F11.out _ hb; omega)
  replace B8 := B8.only on23 (fun hb => by have := F11.out _ hb; omega)
  replace B10 := B10.only on23 (fun hb => by have := F11.out _ hb; omega)
  replace O8 := Lib.hid (O8.out.only on23 (fun b hb hb' => by have := F8.out b hb; have := F11.out b hb'; omega))
  replace O9 := Lib.hid (O9.out.only on23 (fun b hb hb' => by have := F9.out b hb; have := F11.out b hb'; omega))
  replace O10 := Lib.hid (O10.out.only on23 (fun b hb hb' => by have := F10.out b hb; have := F11.out b hb'; omega))
  replace KS := on23.above KS (fun b hb => by have := F11.out b hb; omega)
  have K23 := on23.above K22 (fun b hb => by have := F11.out b hb; omega)
  replace O11 := Lib.hid o23
  clear o23 on23
  obtain ⟨x0, y0⟩ := B0.six
  obtain ⟨x3, y3⟩ := B3.three
  obtain ⟨x8, y8⟩ := B8.six
  obtain ⟨x10, y10⟩ := B10.three
  go_wp2_with fail
  clear x0 y0 x3 y3 x8 y8 x10 y10
  refine (heldItemS_any _ (inV z0 z1 a2 z3) _ _ O11.out.items (by omega) (by omega) (by omega)).mono ?_
  rintro e w24 ⟨rfl, k24⟩
  replace B0 := B0.kept k24
  replace B3 := B3.kept k24
  replace B8 := B8.kept k24
  replace B10 := B10.kept k24
  replace O8 := Lib.hid (O8.out.kept k24)
  replace O9 := Lib.hid (O9.out.kept k24)
  replace O10 := Lib.hid (O10.out.kept k24)
  replace O11 := Lib.hid (O11.out.kept k24)
  replace KS := KS.trans k24
  have sz24 := k24.size
  have K24 := K23.trans k24
  obtain ⟨x0, y0⟩ := B0.six
  obtain ⟨x3, y3⟩ := B3.three
  obtain ⟨x8, y8⟩ := B8.six
  obtain ⟨x10, y10⟩ := B10.three
  go_wp2_with fail
  clear x0 y0 x3 y3 x8 y8 x10 y10
  have KDw24 : Kept w24 w24.drew := (Kept.refl _).drew
  replace B0 := B0.kept KDw24
  replace B3 := B3.kept KDw24
  replace B8 := B8.kept KDw24
  replace B10 := B10.kept KDw24
  replace O8 := Lib.hid (O8.out.kept KDw24)
  replace O9 := Lib.hid (O9.out.kept KDw24)
  replace O10 := Lib.hid (O10.out.kept KDw24)
  replace O11 := Lib.hid (O11.out.kept KDw24)
  replace KS := KS.trans KDw24
  have KKw24 := K24.trans KDw24
  have szdw24 : w24.heap.size ≤ w24.drew.heap.size := KDw24.size
  go_region_held3 (fun w' => (w'.cell? ⟨w.heap.size, 0, none⟩ = some (.slice A0 z0.elems.length c0) ∧ w'.cell? ⟨w.heap.size, 1, none⟩ = some (.slice D0 z0.limits.length d0) ∧ w'.cell? ⟨w.heap.size, 2, none⟩ = some (.int .i64 z0.repeats) ∧ w'.cell? ⟨w.heap.size, 3, none⟩ = some (.int .i64 z0.bonus) ∧ w'.cell? ⟨w.heap.size, 4, none⟩ = some (.int .i64 z0.keeps) ∧ w'.cell? ⟨w.heap.size, 5, none⟩ = some (.int .i64 z0.fall)) ∧ (w'.cell? ⟨w.heap.size + 1, 0, none⟩ = some (.slice A3 z3.names.length c3) ∧ w'.cell? ⟨w.heap.size + 1, 1, none⟩ = some (.slice D3 z3.marks.length d3) ∧ w'.cell? ⟨w.heap.size + 1, 2, none⟩ = some (.bool z3.late))) (first | exact ⟨B0.six.1, B3.three.1⟩ | exact ⟨(B0.kept (by assumption)).six.1, (B3.kept (by assumption)).three.1⟩)
    (first | (go_at_call 18; refine (toCode_any _ z0 _ (H0.out.kept KKw24) (by omega) (by omega)).mono ?_; rintro e w25 ⟨u25, rfl, o25, k25⟩; have R25 := Lib.hid o25.code; clear o25) | (go_at_call 9; refine (toItemS_any _ z1 _ (H1.out.kept (KKw24.trans k25)) (by omega)).mono ?_; rintro e w26 ⟨u26, S26, rfl, o26, k26⟩; replace R25 := Lib.hid (R25.out.kept k26); have R26 := Lib.hid o26.items; clear o26; have kk26 := k25.trans k26) | (go_at_call 25; refine (toItem_any _ z3 _ (H3.out.kept (KKw24.trans kk26)) (by omega) (by omega)).mono ?_; rintro e w27 ⟨u27, rfl, o27, k27⟩; replace R25 := Lib.hid (R25.out.kept k27); replace R26 := Lib.hid (R26.out.kept k27); have R27 := Lib.hid o27.item; clear o27; have kk27 := kk26.trans k27) | (go_at_call 26; refine (implInsertItem_any _ _ _ z0 z1 _ z3 _ R25.out R26.out R27.out).mono ?_; rintro e w28 ⟨u28, S28, rfl, o28, k28⟩; have kk28 := kk27.trans k28))
  clear R25 R26 R27
  replace B0 := B0.kept kk28
  replace B3 := B3.kept kk28
  replace B8 := B8.kept kk28
  replace B10 := B10.kept kk28
  replace O8 := Lib.hid (O8.out.kept kk28)
  replace O9 := Lib.hid (O9.out.kept kk28)
  replace O10 := Lib.hid (O10.out.kept kk28)
  replace O11 := Lib.hid (O11.out.kept kk28)
  replace KS := KS.trans kk28
  have sz28 := kk28.size
  have K28 := KKw24.trans kk28
  have RH := Lib.hid o28.items
  clear o28
  obtain ⟨x0, y0⟩ := B0.six
  obtain ⟨x3, y3⟩ := B3.three
  obtain ⟨x8, y8⟩ := B8.six
  obtain ⟨x10, y10⟩ := B10.three
  go_wp2_with fail
  clear x0 y0 x3 y3 x8 y8 x10 y10
  refine (eqItemS_any _ _ (inV z0 z1 a2 z3) _ RH.out (RS.out.kept KS)).mono ?_
  rintro e w29 ⟨rfl, k29⟩
  replace B0 := B0.kept k29
  replace B3 := B3.kept k29
  replace B8 := B8.kept k29
  replace B10 := B10.kept k29
  replace RH := Lib.hid (RH.out.kept k29)
  replace O8 := Lib.hid (O8.out.kept k29)
  replace O9 := Lib.hid (O9.out.kept k29)
  replace O10 := Lib.hid (O10.out.kept k29)
  replace O11 := Lib.hid (O11.out.kept k29)
  replace KS := KS.trans k29
  have sz29 := k29.size
  have K29 := K28.trans k29
  obtain ⟨x0, y0⟩ := B0.six
  obtain ⟨x3, y3⟩ := B3.three
  obtain ⟨x8, y8⟩ := B8.six
  obtain ⟨x10, y10⟩ := B10.three
  go_wp2_with fail
  clear x0 y0 x3 y3 x8 y8 x10 y10
  refine (heldItemS_any _ (inV z0 z1 a2 z3) _ _ O11.out.items (by omega) (by omega) (by omega)).mono ?_
  rintro e w30 ⟨rfl, k30⟩
  replace B0 := B0.kept k30
  replace B3 := B3.kept k30
  replace B8 := B8.kept k30
  replace B10 := B10.kept k30
  replace RH := Lib.hid (RH.out.kept k30)
  replace O8 := Lib.hid (O8.out.kept k30)
  replace O9 := Lib.hid (O9.out.kept k30)
  replace O10 := Lib.hid (O10.out.kept k30)
  replace O11 := Lib.hid (O11.out.kept k30)
  replace KS := KS.trans k30
  have sz30 := k30.size
  have K30 := K29.trans k30
  go_wp2_with fail
  go_ret
  exact ⟨rfl, K30⟩
end Go.Proofs.Ytapmlnpdjdneoaa

/- Arguments opened: a slice of integers. -/
namespace Go.Proofs.Ytapmlnpdjdneoaa
set_option linter.unusedVariables false
set_option linter.unusedSimpArgs false
set_option maxRecDepth 100000
open Go.ChangeShapes Go.WideShapes Go.ChangeAt Go.RowKit

theorem block_lt {w : World} {a : Addr} {v : Value} (h : w.cell? a = some v) : a.block < w.heap.size := by
  rcases Nat.lt_or_ge a.block w.heap.size with hlt | hge
  · exact hlt
  · unfold World.cell? at h
    rw [Array.getElem?_eq_none hge] at h
    cases h
theorem add_at {b o : Nat} (i : Nat) : (⟨b, o, none⟩ : Addr).add i = ⟨b, o + i, none⟩ := by
  unfold Addr.add
  split <;> simp_all
theorem spot_of {w : World} {x : Addr} {u : Value} (h : w.cell? (x.add 0) = some u) : ∃ b o, x = ⟨b, o, none⟩ := by
  obtain ⟨b, o, s⟩ := x
  have hs : s = none := by simpa [Addr.add] using World.cell?_spot h
  exact ⟨b, o, by rw [hs]⟩
theorem seq_of_cells {w : World} {x : Addr} {len cap size : Nat} {xs : List Value} (hl : len ≤ cap) (hm : cap ≤ maxLen) (hlen : xs.length = len * size) (hsz : 0 < size) (h : ∀ j u, xs[j]? = some u → w.cell? (x.add j) = some u) : Seq w (.slice (some x) len cap) len xs := by
  refine ⟨_, cap, rfl, hl, hm, (fun h => by cases h), fun hn => ?_⟩
  have h0 : 0 < xs.length := by rw [hlen]; exact Nat.mul_pos hn hsz
  obtain ⟨b, o, rfl⟩ := spot_of (h 0 _ (List.getElem?_eq_getElem h0))
  have hc := h 0 _ (List.getElem?_eq_getElem h0)
  refine ⟨b, o, rfl, ?_, fun j u hu => by rw [← add_at]; exact h j u hu⟩
  rw [add_at] at hc
  exact block_lt hc
section
variable {H : Type} {enc : TypeId × Value → H} {W : World} {r : Reach} {b0 base : Nat} {spare : Nat → Bool} {held : Bool} {v : Value} {d : DataW H} {p : List MemPlace} {x : DataW H × List MemPlace}
theorem ints_of_trod {fuel : Nat} (hf : DataW.trod enc Try.prog W base spare held fuel 35 [v] = some x) : ∃ zs, Ints W v zs := by
  rcases open_ints Try.underlying35 Try.underlying3 (by kernel_rfl) hf with ⟨hcs, _⟩ | ⟨ad, len0, cap0, zs, hcs, _, hl, hm, hz, _, hcell, hwz⟩
  · simp at hcs
    subst hcs
    exact ⟨[], Seq.nil _⟩
  · simp at hcs
    subst hcs
    have hge : len0 ≤ zs.length := by rw [hz]; split <;> omega
    refine ⟨zs.take len0, ?_⟩
    have hlen : (zs.take len0).length = len0 := by rw [List.length_take]; omega
    have hS := seq_of_cells (w := W) (x := ad) (len := len0) (cap := cap0) (size := 1) (xs := (zs.take len0).map (Value.int .i64)) hl hm (by rw [List.length_map, hlen]; omega) (by omega) (fun j u hu => by
      rw [List.getElem?_map] at hu
      obtain ⟨z, hz1, rfl⟩ := Option.map_eq_some_iff.1 hu
      have hj : j < len0 := by
        have := (List.getElem?_eq_some_iff.1 hz1).1
        rw [hlen] at this
        exact this
      rw [List.getElem?_take_of_lt hj] at hz1
      have := hcell j (by omega)
      rw [List.getD_eq_getElem?_getD, hz1] at this
      exact this)
    unfold Ints
    rw [hlen]
    exact hS
theorem open_I (hv : Value.okWide Try.prog W r b0 35 v) (h : DataW.Trod enc Try.prog W base spare held 35 v d p) : ∃ zs, Ints W v zs := by
  obtain ⟨a0, len0, cap0, rfl⟩ := okWide_slice Try.underlying35 hv
  obtain ⟨fuel, hf⟩ := h
  exact ints_of_trod hf
end
end Go.Proofs.Ytapmlnpdjdneoaa

/- Arguments opened: items and lists of items. -/
namespace Go.Proofs.Ytapmlnpdjdneoaa
set_option linter.unusedVariables false
set_option linter.unusedSimpArgs false
set_option maxRecDepth 100000
open Go.ChangeShapes Go.WideShapes Go.ChangeAt Go.RowKit Go.Joins Go.Deep
section
variable {H : Type} {enc : TypeId × Value → H} {W : World} {r : Reach} {b0 base : Nat} {spare : Nat → Bool} {held : Bool} {v : Value} {d : DataW H} {p : List MemPlace} {x : DataW H × List MemPlace}
theorem strs_of_trod {fuel : Nat} (hf : DataW.trod enc Try.prog W base spare held fuel 24 [v] = some x) : ∃ zs, Strs W v zs := by
  rcases open_strings Try.underlying24 Try.underlying9 (by kernel_rfl) hf with ⟨hcs, _⟩ | ⟨ad, len0, cap0, zs, hcs, _, hl, hm, hz, _, hcell, hwz⟩
  · simp at hcs
    subst hcs
    exact ⟨[], Seq.nil _, by simp⟩
  · simp at hcs
    subst hcs
    have hge : len0 ≤ zs.length := by rw [hz]; split <;> omega
    refine ⟨zs.take len0, ?_, fun z hz => hwz z (List.mem_of_mem_take hz)⟩
    have hlen : (zs.take len0).length = len0 := by rw [List.length_take]; omega
    have hS := seq_of_cells (w := W) (x := ad) (len := len0) (cap := cap0) (size := 1) (xs := (zs.take len0).map Value.string) hl hm (by rw [List.length_map, hlen]; omega) (by omega) (fun j u hu => by
      rw [List.getElem?_map] at hu
      obtain ⟨z, hz1, rfl⟩ := Option.map_eq_some_iff.1 hu
      have hj : j < len0 := by
        have := (List.getElem?_eq_some_iff.1 hz1).1
        rw [hlen] at this
        exact this
      rw [List.getElem?_take_of_lt hj] at hz1
      have := hcell j (by omega)
      rw [List.getD_eq_getElem?_getD, hz1] at this
      exact this)
    rw [hlen]
    exact hS
theorem item_of_parts {v0 v1 v2 : Value} {y0 y1 y2 : DataW H × List MemPlace} {n : Nat} (h0 : DataW.trod enc Try.prog W base spare held n 24 [v0] = some y0) (h1 : DataW.trod enc Try.prog W base spare held n 35 [v1] = some y1) (h2 : DataW.trod enc Try.prog W base spare held n 4 [v2] = some y2) :
    ∃ it : ItemD, v2 = .bool it.late ∧ Strs W v0 it.names ∧ Ints W v1 it.marks := by
  obtain ⟨ns, q0⟩ := strs_of_trod h0
  obtain ⟨ms, q1⟩ := ints_of_trod h1
  obtain ⟨b, q2, _⟩ := DataW.trod_bool Try.underlying4 h2
  simp at q2
  exact ⟨⟨ns, ms, b⟩, q2, q0, q1⟩
theorem open_T (hv : Value.okWide Try.prog W r b0 49 v) (h : DataW.Trod enc Try.prog W base spare held 49 v d p) : ∃ it, ItemAt W v it := by
  obtain ⟨v0, v1, v2, y0, y1, y2, n, rfl, _, _, h0, h1, h2⟩ := open_agg3 Try.underlying49 (by kernel_rfl) (by kernel_rfl) hv h
  obtain ⟨it, rfl, q0, q1⟩ := item_of_parts h0 h1 h2
  exact ⟨it, _, _, rfl, q0, q1⟩
theorem open_L (hv : Value.okWide Try.prog W r b0 22 v) (h : DataW.Trod enc Try.prog W base spare held 22 v d p) : ∃ its, ItemsAt W v its := by
  obtain ⟨a0, len0, cap0, rfl⟩ := okWide_slice Try.underlying22 hv
  obtain ⟨fuel, hf⟩ := h
  have hC : Try.prog.cellsOf 49 = 3 := by kernel_rfl
  rcases open_slice Try.underlying22 hf with ⟨hcs, _⟩ | ⟨ad, len, cap, m, n, D, Pl, hcs, _, hl, hm, hmm, _, hi⟩
  · simp [Value.cells] at hcs
    obtain ⟨rfl, rfl, rfl⟩ := hcs
    exact ⟨[], [], rfl, Seq.nil _, by simp⟩
  · simp [Value.cells] at hcs
    obtain ⟨rfl, rfl, rfl⟩ := hcs
    have hge : len0 ≤ m := by rw [hmm]; split <;> omega
    have each : ∀ i : Fin len0, ∃ q : (Value × Value) × ItemD, (W.cell? (ad.add (i.1 * 3)) = some q.1.1 ∧ W.cell? ((ad.add (i.1 * 3)).add 1) = some q.1.2 ∧ W.cell? ((ad.add (i.1 * 3)).add 2) = some (.bool q.2.late)) ∧ Strs W q.1.1 q.2.names ∧ Ints W q.1.2 q.2.marks := by
      intro i
      obtain ⟨cs', hc, ht'⟩ := hi i.1 (by omega)
      rw [hC] at hc
      obtain ⟨_, hcl, hat⟩ := World.cells?_some hc
      obtain ⟨y0, y1, y2, n', _, _, h0, h1, h2⟩ := trod_struct3 Try.underlying49 ht'
      have hS : Try.prog.cellsOf 24 = 1 := by kernel_rfl
      have hI : Try.prog.cellsOf 35 = 1 := by kernel_rfl
      have hB : Try.prog.cellsOf 4 = 1 := by kernel_rfl
      match cs', hcl with
      | [x0, x1, x2], _ =>
        dsimp only at h0 h1 h2
        rw [hS] at h0
        rw [hI] at h1
        rw [hB] at h2
        obtain ⟨it, rfl, q0, q1⟩ := item_of_parts (v0 := x0) (v1 := x1) (v2 := x2) h0 h1 h2
        exact ⟨((x0, x1), it), ⟨hat 0 (by omega), hat 1 (by omega), hat 2 (by omega)⟩, q0, q1⟩
    refine ⟨List.ofFn fun i => (Classical.choose (each i)).2, List.ofFn fun i => (Classical.choose (each i)).1, by simp, ?_, ?_⟩
    · rw [List.length_ofFn]
      refine seq_of_cells (size := 3) hl hm (by rw [flat_length row3 3 (fun _ => rfl)]; simp) (by omega) (fun j u hu => ?_)
      have hj : j < len0 * 3 := by
        have := (List.getElem?_eq_some_iff.1 hu).1
        rw [flat_length row3 3 (fun _ => rfl)] at this
        simpa using this
      have hi3 : j / 3 < len0 := by omega
      have hsp := Classical.choose_spec (each ⟨j / 3, hi3⟩)
      have hz : (List.zip (List.ofFn fun i => (Classical.choose (each i)).1) (List.ofFn fun i => (Classical.choose (each i)).2))[j / 3]? = some (Classical.choose (each ⟨j / 3, hi3⟩)) := by
        rw [List.getElem?_zip_eq_some]
        constructor <;> rw [List.getElem?_ofFn, dif_pos hi3]
      have hfl := flat_get row3 3 (fun _ => rfl) (List.zip (List.ofFn fun i => (Classical.choose (each i)).1) (List.ofFn fun i => (Classical.choose (each i)).2)) (j / 3) (j % 3) (by omega)
      rw [show j / 3 * 3 + j % 3 = j from by omega, hu, hz] at hfl
      have hadd : ad.add j = (ad.add (j / 3 * 3)).add (j % 3) := by
        rw [Go.Deep.add_add]
        congr 1
        omega
      rw [hadd]
      have hm3 : j % 3 = 0 ∨ j % 3 = 1 ∨ j % 3 = 2 := by omega
      rcases hm3 with h | h | h <;> rw [h] at hfl ⊢
      · rw [show ∀ a : Addr, a.add 0 = a from fun a => by simp [Addr.add]]
        rw [hsp.1.1]
        simpa [row3] using hfl.symm
      · rw [hsp.1.2.1]
        simpa [row3] using hfl.symm
      · rw [hsp.1.2.2]
        simpa [row3] using hfl.symm
    · intro k nv mv it q1 q2
      rw [List.getElem?_ofFn] at q1 q2
      split at q1
      · rename_i hk
        rw [dif_pos hk] at q2
        injection q1 with q1
        injection q2 with q2
        have hsp := (Classical.choose_spec (each ⟨k, hk⟩)).2
        rw [q1, q2] at hsp
        exact hsp
      · cases q1
end
end Go.Proofs.Ytapmlnpdjdneoaa

/- Arguments opened: elements, lists of elements, codes. -/
namespace Go.Proofs.Ytapmlnpdjdneoaa
set_option linter.unusedVariables false
set_option linter.unusedSimpArgs false
open Go.ChangeShapes Go.WideShapes Go.ChangeAt Go.RowKit Go.Joins Go.Deep
set_option maxRecDepth 100000
section
variable {H : Type} {enc : TypeId × Value → H} {W : World} {r : Reach} {b0 base : Nat} {spare : Nat → Bool} {held : Bool} {v : Value} {d : DataW H} {p : List MemPlace} {x : DataW H × List MemPlace}
theorem elem_of_parts {v0 v1 v2 v3 : Value} {y0 y1 y2 y3 : DataW H × List MemPlace} {n : Nat} (h0 : DataW.trod enc Try.prog W base spare held n 9 [v0] = some y0) (h1 : DataW.trod enc Try.prog W base spare held n 3 [v1] = some y1) (h2 : DataW.trod enc Try.prog W base spare held n 3 [v2] = some y2) (h3 : DataW.trod enc Try.prog W base spare held n 3 [v3] = some y3) :
    ∃ e : ElemD, v0 = .string e.name ∧ v1 = .int .i64 e.family ∧ v2 = .int .i64 e.level ∧ v3 = .int .i64 e.base ∧ e.name.size ≤ maxLen := by
  obtain ⟨s, q0, _, hs⟩ := DataW.trod_string Try.underlying9 h0
  obtain ⟨a, q1, _⟩ := DataW.trod_int Try.underlying3 h1
  obtain ⟨b, q2, _⟩ := DataW.trod_int Try.underlying3 h2
  obtain ⟨c, q3, _⟩ := DataW.trod_int Try.underlying3 h3
  simp at q0 q1 q2 q3
  exact ⟨⟨s, a, b, c⟩, q0, q1, q2, q3, hs⟩
theorem open_E (hv : Value.okWide Try.prog W r b0 84 v) (h : DataW.Trod enc Try.prog W base spare held 84 v d p) : ∃ e, ElemAt W v e := by
  obtain ⟨v0, v1, v2, v3, y0, y1, y2, y3, n, rfl, _, _, h0, h1, h2, h3⟩ := open_agg4 Try.underlying84 (by kernel_rfl) (by kernel_rfl) hv h
  obtain ⟨e, rfl, rfl, rfl, rfl, hs⟩ := elem_of_parts h0 h1 h2 h3
  exact ⟨e, rfl, hs⟩
theorem elems_of_trod {fuel : Nat} (hf : DataW.trod enc Try.prog W base spare held fuel 34 [v] = some x) : ∃ es, Elems W v es := by
  have hC : Try.prog.cellsOf 84 = 4 := by kernel_rfl
  rcases open_slice Try.underlying34 hf with ⟨hcs, _⟩ | ⟨ad, len0, cap0, m, n, D, Pl, hcs, _, hl, hm, hmm, _, hi⟩
  · simp at hcs
    subst hcs
    exact ⟨[], Seq.nil _, by simp⟩
  · simp at hcs
    subst hcs
    have hge : len0 ≤ m := by rw [hmm]; split <;> omega
    have each : ∀ i : Fin len0, ∃ e : ElemD, (W.cell? (ad.add (i.1 * 4)) = some (.string e.name) ∧ W.cell? ((ad.add (i.1 * 4)).add 1) = some (.int .i64 e.family) ∧ W.cell? ((ad.add (i.1 * 4)).add 2) = some (.int .i64 e.level) ∧ W.cell? ((ad.add (i.1 * 4)).add 3) = some (.int .i64 e.base)) ∧ e.name.size ≤ maxLen := by
      intro i
      obtain ⟨cs', hc, ht'⟩ := hi i.1 (by omega)
      rw [hC] at hc
      obtain ⟨_, hcl, hat⟩ := World.cells?_some hc
      obtain ⟨y0, y1, y2, y3, n', _, _, h0, h1, h2, h3⟩ := trod_struct4 Try.underlying84 ht'
      have hS : Try.prog.cellsOf 9 = 1 := by kernel_rfl
      have hI : Try.prog.cellsOf 3 = 1 := by kernel_rfl
      match cs', hcl with
      | [x0, x1, x2, x3], _ =>
        dsimp only at h0 h1 h2 h3
        rw [hS] at h0
        rw [hI] at h1 h2 h3
        obtain ⟨e, rfl, rfl, rfl, rfl, hs⟩ := elem_of_parts (v0 := x0) (v1 := x1) (v2 := x2) (v3 := x3) h0 h1 h2 h3
        exact ⟨e, ⟨hat 0 (by omega), hat 1 (by omega), hat 2 (by omega), hat 3 (by omega)⟩, hs⟩
    refine ⟨List.ofFn fun i => Classical.choose (each i), ?_, ?_⟩
    · rw [List.length_ofFn]
      refine seq_of_cells (size := 4) hl hm (by rw [flat_length cells4 4 (fun _ => rfl)]; simp) (by omega) (fun j u hu => ?_)
      have hj : j < len0 * 4 := by
        have := (List.getElem?_eq_some_iff.1 hu).1
        rw [flat_length cells4 4 (fun _ => rfl)] at this
        simpa using this
      have hi4 : j / 4 < len0 := by omega
      have hsp := Classical.choose_spec (each ⟨j / 4, hi4⟩)
      have hz : (List.ofFn fun i => Classical.choose (each i))[j / 4]? = some (Classical.choose (each ⟨j / 4, hi4⟩)) := by
        rw [List.getElem?_ofFn, dif_pos hi4]
      have hfl := flat_get cells4 4 (fun _ => rfl) (List.ofFn fun i => Classical.choose (each i)) (j / 4) (j % 4) (by omega)
      rw [show j / 4 * 4 + j % 4 = j from by omega, hu, hz] at hfl
      have hadd : ad.add j = (ad.add (j / 4 * 4)).add (j % 4) := by
        rw [Go.Deep.add_add]
        congr 1
        omega
      rw [hadd]
      have hm4 : j % 4 = 0 ∨ j % 4 = 1 ∨ j % 4 = 2 ∨ j % 4 = 3 := by omega
      rcases hm4 with h | h | h | h <;> rw [h] at hfl ⊢
      · rw [show ∀ a : Addr, a.add 0 = a from fun a => by simp [Addr.add]]
        rw [hsp.1.1]
        simpa [cells4] using hfl.symm
      · rw [hsp.1.2.1]
        simpa [cells4] using hfl.symm
      · rw [hsp.1.2.2.1]
        simpa [cells4] using hfl.symm
      · rw [hsp.1.2.2.2]
        simpa [cells4] using hfl.symm
    · intro e he
      obtain ⟨k, hk⟩ := List.getElem?_of_mem he
      rw [List.getElem?_ofFn] at hk
      split at hk
      · rename_i hk'
        injection hk with hk
        have hsp := (Classical.choose_spec (each ⟨k, hk'⟩)).2
        rw [hk] at hsp
        exact hsp
      · cases hk
theorem open_C (hv : Value.okWide Try.prog W r b0 37 v) (h : DataW.Trod enc Try.prog W base spare held 37 v d p) : ∃ c, CodeAt W v c := by
  obtain ⟨cs, rfl, hsz⟩ := okWide_struct Try.underlying37 hv
  obtain ⟨l⟩ := cs
  have hC : Try.prog.cellsOf 37 = 6 := by kernel_rfl
  have hE : Try.prog.cellsOf 34 = 1 := by kernel_rfl
  have hL : Try.prog.cellsOf 35 = 1 := by kernel_rfl
  have hI : Try.prog.cellsOf 3 = 1 := by kernel_rfl
  match l, hsz.trans hC with
  | [c0, c1, c2, c3, c4, c5], _ =>
    obtain ⟨fuel, hf⟩ := h
    obtain ⟨xs, n, _, hx, _, hlen, hg⟩ := DataW.trod_struct Try.underlying37 hf
    match xs, hlen with
    | [y0, y1, y2, y3, y4, y5], _ =>
      have g0 : DataW.trod enc Try.prog W base spare held n 34 (List.take (Try.prog.cellsOf 34) (List.drop 0 [c0, c1, c2, c3, c4, c5])) = some y0 := hg 0 _ rfl
      rw [hE] at g0
      have g1 : DataW.trod enc Try.prog W base spare held n 35 (List.take (Try.prog.cellsOf 35) (List.drop 1 [c0, c1, c2, c3, c4, c5])) = some y1 := hg 1 _ rfl
      rw [hL] at g1
      have g2 : DataW.trod enc Try.prog W base spare held n 3 (List.take (Try.prog.cellsOf 3) (List.drop 2 [c0, c1, c2, c3, c4, c5])) = some y2 := hg 2 _ rfl
      rw [hI] at g2
      have g3 : DataW.trod enc Try.prog W base spare held n 3 (List.take (Try.prog.cellsOf 3) (List.drop 3 [c0, c1, c2, c3, c4, c5])) = some y3 := hg 3 _ rfl
      rw [hI] at g3
      have g4 : DataW.trod enc Try.prog W base spare held n 3 (List.take (Try.prog.cellsOf 3) (List.drop 4 [c0, c1, c2, c3, c4, c5])) = some y4 := hg 4 _ rfl
      rw [hI] at g4
      have g5 : DataW.trod enc Try.prog W base spare held n 3 (List.take (Try.prog.cellsOf 3) (List.drop 5 [c0, c1, c2, c3, c4, c5])) = some y5 := hg 5 _ rfl
      rw [hI] at g5
      obtain ⟨es, q0⟩ := elems_of_trod (v := c0) (x := y0) (by simpa using g0)
      obtain ⟨ls, q1⟩ := ints_of_trod (v := c1) (x := y1) (by simpa using g1)
      obtain ⟨a, q2, _⟩ := DataW.trod_int (cs := [c2]) (x := y2) Try.underlying3 (by simpa using g2)
      obtain ⟨b, q3, _⟩ := DataW.trod_int (cs := [c3]) (x := y3) Try.underlying3 (by simpa using g3)
      obtain ⟨c, q4, _⟩ := DataW.trod_int (cs := [c4]) (x := y4) Try.underlying3 (by simpa using g4)
      obtain ⟨d, q5, _⟩ := DataW.trod_int (cs := [c5]) (x := y5) Try.underlying3 (by simpa using g5)
      simp at q2 q3 q4 q5
      subst q2 q3 q4 q5
      exact ⟨⟨es, ls, a, b, c, d⟩, c0, c1, rfl, q0, q1⟩
end
end Go.Proofs.Ytapmlnpdjdneoaa
