/- Contracts of functions that the proof leans on. No condition. -/
import Derived.Test.YtkekpolfdmmgeaaGreatDoorM7313dabe9a
import Derived.Deep.DeepCutAuto
/- Codes: reading a code's text, the program's side. -/
namespace Go.Proofs.YtkekpolfdmmgeaaGreatDoor
set_option linter.unusedVariables false
set_option linter.unusedSimpArgs false
open Go.RowKit Go.Lib

def wnB (s : ByteArray) (n : Int) : Bool := match rdI s.data.toList with | none => false | some ns => decide ((ns.length : Int) = n)
theorem wn_post {s : ByteArray} {n : Int} {w w' : World} {e : Ending} (h : WnPost s n w e w') : ∃ v' b, e = .returned (.tuple #[.string (tx (wdS s.data.toList)), v', .bool b]) ∧ wnB s n = b ∧ OwnI w' w.heap.size v' ((rdI s.data.toList).getD []) ∧ Kept w w' := by
  obtain ⟨v', e1, h1, h2⟩ := h
  exact ⟨v', _, e1, rfl, h1, h2⟩
theorem wnB_yes {s : ByteArray} {n : Nat} (h : wnB s n = true) : ∃ ns, rdI s.data.toList = some ns ∧ ns.length = n := by
  unfold wnB at h
  cases hr : rdI s.data.toList with
  | none => rw [hr] at h; cases h
  | some ns => rw [hr] at h; exact ⟨ns, rfl, by simp at h; omega⟩
set_option maxRecDepth 100000 in
set_option maxHeartbeats 16000000 in
theorem implParseCode_any (s : ByteArray) (w : World) (hs : s.size ≤ 1048576) (hmx : HasMax w) :
    Calls Tryz.prog 15 #[.string s] w fun e w' => PcPost s w e w' := by
  have HMX := Lib.hid hmx
  clear hmx
  go_enter Tryz.func15, Tryz.ntmps15
  go_wp2_with fail
  obtain ⟨w0, hw0⟩ : ∃ x : World, x = w.alloc (.cells #[.slice none 0 0, .slice none 0 0, .int .i64 0, .int .i64 0, .int .i64 0, .int .i64 0] 26) := ⟨_, rfl⟩
  rw [← hw0]
  have B2 : Box w0 w.heap.size 26 #[.slice none 0 0, .slice none 0 0, .int .i64 0, .int .i64 0, .int .i64 0, .int .i64 0] := hw0 ▸ Box.new w _ _ _ rfl
  have K0 : Kept w w0 := hw0 ▸ (Kept.refl w).alloc _
  have sz0 : w.heap.size < w0.heap.size := by rw [hw0]; simp
  clear hw0
  have CS := Lib.hid (linesOf_any s w0 hs (HMX.out.kept K0))
  with_reducible refine CS.out.mono ?_
  clear CS
  rintro e w1 ⟨v1, rfl, hy1, hn1, k1⟩
  have K1 := K0.trans k1
  have sz1 := k1.size
  replace B2 := B2.kept k1
  clear k1
  have NO : Hid (∀ w3 w4 : World, Kept w w3 → Box w3 w.heap.size 26 #[.slice none 0 0, .slice none 0 0, .int .i64 0, .int .i64 0, .int .i64 0, .int .i64 0] → IsPC s.data.toList zeroC false → Only [w.heap.size] w3 w4 → PcPost s w (.returned (.tuple #[.agg #[.slice none 0 0, .slice none 0 0, .int .i64 0, .int .i64 0, .int .i64 0, .int .i64 0], .bool false])) w4) := Lib.hid (fun w3 w4 k b h q => PcPost.no h (q.above k (by simp)))
  cases hln : lnOk s.data.toList with
  | false =>
    have HP := Lib.hid (pc_ok hln)
    obtain rfl := hn1 hln
    clear hy1 hn1 hln
    obtain ⟨x2, y2⟩ := B2.six
    go_wp2_with fail
    clear x2 y2
    obtain ⟨w5, hw5, B5, Q5⟩ := set6 B2 (.slice none 0 0) (.slice none 0 0) (.int .i64 0) (.int .i64 0) (.int .i64 0) (.int .i64 0)
    rw [← hw5]
    clear hw5
    obtain ⟨cc, ff⟩ := B5.six
    refine bodyPost_ret (v := .tuple #[.agg #[.slice none 0 0, .slice none 0 0, .int .i64 0, .int .i64 0, .int .i64 0, .int .i64 0], .bool false]) (by simp [results, Tryz.results15, go_sem, cc, ff]) rfl ?_
    exact NO.out _ _ K1 B2 HP.out Q5
  | true =>
  have o1 := hy1 hln
  have HOK := Lib.hid hln
  clear hy1 hn1 hln
  have HS := Lib.hid o1.strs
  obtain ⟨A1, c1, rfl, hn1, hm1, _⟩ := own_form o1.1
  unfold maxLen at hm1
  clear o1
  have hle := lnsB_le s
  go_wp2_with fail
  refine (within_any _ _ _ _).mono ?_
  rintro e w1' ⟨rfl, rfl⟩
  cases hin : inB ((lnsB s).length : Int) 3 26 with
  | false =>
    have HP : Hid (IsPC s.data.toList zeroC false) := Lib.hid (pc_len (by
      by_cases h : (lnsB s).length < 3
      · exact .inl h
      · refine .inr (Nat.lt_of_not_le fun h2 => ?_)
        rw [inB_of (by omega) (by omega)] at hin
        cases hin))
    clear hin
    obtain ⟨x2, y2⟩ := B2.six
    go_wp2_with fail
    clear x2 y2
    obtain ⟨w5, hw5, B5, Q5⟩ := set6 B2 (.slice none 0 0) (.slice none 0 0) (.int .i64 0) (.int .i64 0) (.int .i64 0) (.int .i64 0)
    rw [← hw5]
    clear hw5
    obtain ⟨cc, ff⟩ := B5.six
    refine bodyPost_ret (v := .tuple #[.agg #[.slice none 0 0, .slice none 0 0, .int .i64 0, .int .i64 0, .int .i64 0, .int .i64 0], .bool false]) (by simp [results, Tryz.results15, go_sem, cc, ff]) rfl ?_
    exact NO.out _ _ K1 B2 HP.out Q5
  | true =>
  have hin' := inB_true hin
  clear hin
  obtain ⟨z0, z1, rest, hln⟩ : ∃ z0 z1 rest, lnsB s = z0 :: z1 :: rest := by
    match h : lnsB s with
    | [] => rw [h] at hin'; simp at hin'
    | [a] => rw [h] at hin'; simp at hin'
    | a :: b :: t => exact ⟨a, b, t, rfl⟩
  have HLN := Lib.hid hln
  have hlen : (lnsB s).length = rest.length + 2 := by rw [hln]; simp
  have HSZ : Hid (∀ z ∈ lnsB s, z.size ≤ 1048576) := Lib.hid (fun z hz => Nat.le_trans (lnsB_sz hz) hs)
  have hz0 : z0.size ≤ 1048576 := HSZ.out z0 (by rw [hln]; simp)
  have hz1 : z1.size ≤ 1048576 := HSZ.out z1 (by rw [hln]; simp)
  clear hln
  obtain ⟨g1, i1, y0, rfl, hg1, hy0, hc0⟩ := strs_at (k := 0) HS.out.1.addr (by omega)
  obtain ⟨g1', i1', y1, e1, _, hy1, hc1⟩ := strs_at (k := 1) HS.out.1.addr (by omega)
  cases e1
  rw [HLN.out] at hy0 hy1
  obtain rfl : z0 = y0 := by simpa using hy0
  obtain rfl : z1 = y1 := by simpa using hy1
  clear hy0 hy1
  rw [Nat.add_zero] at hc0
  rw [hlen] at hn1 hin' ⊢
  have HLEN := Lib.hid hlen
  clear hlen hle
  have hr1 : 1 ≤ rest.length := by omega
  have hr24 : rest.length ≤ 24 := by omega
  have hL0 : (0 : Int) < (rest.length : Int) + 2 := by omega
  have hL1 : (1 : Int) < (rest.length : Int) + 2 := by omega
  go_wp2_with fail
  have CS := Lib.hid (wordsAndNumbers_any z0 4 w1 hz0 (HMX.out.kept K1))
  with_reducible refine CS.out.mono ?_
  clear CS
  rintro e w2 hwn
  obtain ⟨v2, b0, rfl, hb0, o2, k2⟩ := wn_post hwn
  clear hwn
  have hc1' : w2.cell? ⟨g1, i1 + 1, none⟩ = some (.string z1) := (k2.cell (by exact hg1)).trans hc1
  have K2 := K1.trans k2
  have sz2 := k2.size
  replace B2 := B2.kept k2
  obtain ⟨A2, c2, rfl, hn2, hm2, _⟩ := own_form o2
  have O2 := Lib.hid o2
  clear o2 hc0 hc1
  have HB0 := Lib.hid hb0
  clear hb0
  go_wp2_with fail
  have CS := Lib.hid (wordsAndNumbers_any z1 5 w2 hz1 (HMX.out.kept K2))
  with_reducible refine CS.out.mono ?_
  clear CS
  rintro e w3 hwn
  obtain ⟨v3, b1, rfl, hb1, o3, k3⟩ := wn_post hwn
  clear hwn
  have K3 := K2.trans k3
  have sz3 := k3.size
  replace B2 := B2.kept k3
  obtain ⟨A3, c3, rfl, hn3, hm3, _⟩ := own_form o3
  have O3 := Lib.hid o3
  clear o3 hc1'
  have HB1 := Lib.hid hb1
  clear hb1
  cases b0 with
  | false =>
    have HP := Lib.hid (pcI_rep HLN.out HB0.out)
    obtain ⟨x2, y2⟩ := B2.six
    go_wp2_with fail
    clear x2 y2
    obtain ⟨w5, hw5, B5, Q5⟩ := set6 B2 (.slice none 0 0) (.slice none 0 0) (.int .i64 0) (.int .i64 0) (.int .i64 0) (.int .i64 0)
    rw [← hw5]
    clear hw5
    obtain ⟨cc, ff⟩ := B5.six
    refine bodyPost_ret (v := .tuple #[.agg #[.slice none 0 0, .slice none 0 0, .int .i64 0, .int .i64 0, .int .i64 0, .int .i64 0], .bool false]) (by simp [results, Tryz.results15, go_sem, cc, ff]) rfl ?_
    exact NO.out _ _ K3 B2 HP.out Q5
  | true =>
  cases b1 with
  | false =>
    have HP := Lib.hid (pcI_lim HLN.out HB1.out)
    obtain ⟨x2, y2⟩ := B2.six
    go_wp2_with fail
    clear x2 y2
    obtain ⟨w5, hw5, B5, Q5⟩ := set6 B2 (.slice none 0 0) (.slice none 0 0) (.int .i64 0) (.int .i64 0) (.int .i64 0) (.int .i64 0)
    rw [← hw5]
    clear hw5
    obtain ⟨cc, ff⟩ := B5.six
    refine bodyPost_ret (v := .tuple #[.agg #[.slice none 0 0, .slice none 0 0, .int .i64 0, .int .i64 0, .int .i64 0, .int .i64 0], .bool false]) (by simp [results, Tryz.results15, go_sem, cc, ff]) rfl ?_
    exact NO.out _ _ K3 B2 HP.out Q5
  | true =>
  by_cases hw0 : wdS z0.data.toList = codeW
  case neg =>
    have HP := Lib.hid (pcI_w0 HLN.out hw0)
    have hq : ((tx (wdS z0.data.toList)).toList == [99, 111, 100, 101]) = false := beq_eq_false_iff_ne.2 (fun e => hw0 (by rw [toList_data, tx_data] at e; exact e))
    clear hw0
    obtain ⟨x2, y2⟩ := B2.six
    go_wp2_with fail
    clear x2 y2
    obtain ⟨w5, hw5, B5, Q5⟩ := set6 B2 (.slice none 0 0) (.slice none 0 0) (.int .i64 0) (.int .i64 0) (.int .i64 0) (.int .i64 0)
    rw [← hw5]
    clear hw5
    obtain ⟨cc, ff⟩ := B5.six
    refine bodyPost_ret (v := .tuple #[.agg #[.slice none 0 0, .slice none 0 0, .int .i64 0, .int .i64 0, .int .i64 0, .int .i64 0], .bool false]) (by simp [results, Tryz.results15, go_sem, cc, ff]) rfl ?_
    exact NO.out _ _ K3 B2 HP.out Q5
  by_cases hw1 : wdS z1.data.toList = limitsW
  case neg =>
    have HP := Lib.hid (pcI_w1 HLN.out hw1)
    have hq : ((tx (wdS z1.data.toList)).toList == [108, 105, 109, 105, 116, 115]) = false := beq_eq_false_iff_ne.2 (fun e => hw1 (by rw [toList_data, tx_data] at e; exact e))
    have hq0 : tx (wdS z0.data.toList) = ⟨#[99, 111, 100, 101]⟩ := by rw [hw0]; rfl
    rw [hq0]
    clear hw1 hw0 hq0
    obtain ⟨x2, y2⟩ := B2.six
    go_wp2_with fail
    clear x2 y2
    obtain ⟨w5, hw5, B5, Q5⟩ := set6 B2 (.slice none 0 0) (.slice none 0 0) (.int .i64 0) (.int .i64 0) (.int .i64 0) (.int .i64 0)
    rw [← hw5]
    clear hw5
    obtain ⟨cc, ff⟩ := B5.six
    refine bodyPost_ret (v := .tuple #[.agg #[.slice none 0 0, .slice none 0 0, .int .i64 0, .int .i64 0, .int .i64 0, .int .i64 0], .bool false]) (by simp [results, Tryz.results15, go_sem, cc, ff]) rfl ?_
    exact NO.out _ _ K3 B2 HP.out Q5
  have HW0 := Lib.hid hw0
  have HW1 := Lib.hid hw1
  have hq0 : tx (wdS z0.data.toList) = ⟨#[99, 111, 100, 101]⟩ := by rw [hw0]; rfl
  have hq1 : tx (wdS z1.data.toList) = ⟨#[108, 105, 109, 105, 116, 115]⟩ := by rw [hw1]; rfl
  rw [hq0, hq1]
  clear hq0 hq1 hw0 hw1
  obtain ⟨ns0, hr0, hl0⟩ := wnB_yes (n := 4) HB0.out
  obtain ⟨ns1, hr1', hl1⟩ := wnB_yes (n := 5) HB1.out
  rw [hr0, Option.getD_some] at O2 hn2 ⊢
  rw [hr1', Option.getD_some] at O3 hn3 ⊢
  obtain ⟨n0, n1, n2, n3, hns⟩ : ∃ n0 n1 n2 n3, ns0 = [n0, n1, n2, n3] := ⟨_, _, _, _, list4 hl0⟩
  obtain ⟨CC, hCC, hCE, rfl, rfl, rfl, rfl, rfl⟩ : ∃ CC : CodeD, mkC (rest.map elI) ns1 ns0 = CC ∧ CC.elems = rest.map elI ∧ CC.limits = ns1 ∧ CC.repeats = n0 ∧ CC.bonus = n1 ∧ CC.keeps = n2 ∧ CC.fall = n3 := ⟨_, rfl, rfl, rfl, by rw [hns]; rfl, by rw [hns]; rfl, by rw [hns]; rfl, by rw [hns]; rfl⟩
  have HCC := Lib.hid hCC
  have HCE := Lib.hid hCE
  have HR0 := Lib.hid hr0
  have HR1 := Lib.hid hr1'
  have HL0 := Lib.hid hl0
  rw [hns] at O2 hn2 ⊢
  have HA2 := Lib.hid O2.out.ints
  clear hCC hCE hr0 hr1' hl0 hl1 hns HB0 HB1
  obtain ⟨g2, j2, y, rfl, hg2, hy, hd0⟩ := ints_at (k := 0) HA2.out.addr (by simp)
  obtain rfl : CC.repeats = y := by simpa using hy
  obtain ⟨g2', j2', y, e1, _, hy, hd1⟩ := ints_at (k := 1) HA2.out.addr (by simp)
  cases e1
  obtain rfl : CC.bonus = y := by simpa using hy
  obtain ⟨g2', j2', y, e1, _, hy, hd2⟩ := ints_at (k := 2) HA2.out.addr (by simp)
  cases e1
  obtain rfl : CC.keeps = y := by simpa using hy
  obtain ⟨g2', j2', y, e1, _, hy, hd3⟩ := ints_at (k := 3) HA2.out.addr (by simp)
  cases e1
  obtain rfl : CC.fall = y := by simpa using hy
  rw [Nat.add_zero] at hd0
  simp only [List.length_cons, List.length_nil, Nat.zero_add, Nat.reduceAdd] at hn2 ⊢
  have HW : Hid (∀ w' : World, Kept w3 w' → w'.cell? ⟨g2, j2, none⟩ = some (.int .i64 CC.repeats) ∧ w'.cell? ⟨g2, j2 + 1, none⟩ = some (.int .i64 CC.bonus) ∧ w'.cell? ⟨g2, j2 + 2, none⟩ = some (.int .i64 CC.keeps) ∧ w'.cell? ⟨g2, j2 + 3, none⟩ = some (.int .i64 CC.fall)) := Lib.hid (fun w' k => by
    refine ⟨?_, ?_, ?_, ?_⟩
    · rw [(k3.trans k).cell (by exact hg2), hd0]
    · rw [(k3.trans k).cell (by exact hg2), hd1]
    · rw [(k3.trans k).cell (by exact hg2), hd2]
    · rw [(k3.trans k).cell (by exact hg2), hd3])
  clear hd0 hd1 hd2 hd3 hy
  have hh3 : w.heap.size < w3.heap.size := B2.lt
  have HB2 := Lib.hid B2
  have HK3 := Lib.hid K3
  have k23 := k2.trans k3
  have HFL : Hid (∀ b ∈ fp (.slice A3 CC.limits.length c3), w2.heap.size ≤ b ∧ b < w3.heap.size) := Lib.hid (own_fp O3.out)
  have MK : Hid (∀ (w4 w9 : World) (bb ge : Nat), Kept w3 w4 → Only [bb] w4 w9 → w3.heap.size ≤ bb → w3.heap.size ≤ ge → ge ≠ bb → Box w9 bb 26 #[.slice (some ⟨ge, 0, none⟩) 0 0, .slice A3 CC.limits.length c3, .int .i64 CC.repeats, .int .i64 CC.bonus, .int .i64 CC.keeps, .int .i64 CC.fall] → Box w4 ge 31 #[] →
      CdSt [bb, ge] w.heap.size bb w.heap.size CC w9 w9 0 (.slice (some ⟨ge, 0, none⟩) 0 0) (.slice A3 CC.limits.length c3) ∧ Kept w3 w9) := Lib.hid (fun w4 w9 bb ge k q hb hge hne b9 be => by
    have k9 : Kept w3 w9 := q.above k (fun x hx => by rw [List.mem_singleton] at hx; omega)
    have s9 := k9.size
    have s4 := k.size
    have be9 := be.only q (fun hm => by rw [List.mem_singleton] at hm; exact hne hm)
    refine ⟨⟨HB2.out.kept k9, b9, ?_, own_base ((O3.out.kept k).only q (fun b h => by have := HFL.out b h; rw [List.mem_singleton]; omega)) (by omega), fun b h h' => ?_, Only.refl _ _, by simp, by omega, fun b h => ?_, fun b h => ?_, by omega⟩, k9⟩
    · rw [List.take_zero]
      exact ⟨own_made ge _ 4 (by omega) be9, fun _ h => by cases h⟩
    · rw [fp_some, List.mem_singleton] at h
      have := HFL.out b h'
      simp only at h
      omega
    · rw [fp_some, List.mem_singleton] at h
      simp only at h
      subst h
      exact ⟨.inl (by simp), hne, by omega⟩
    · have := HFL.out b h
      exact ⟨by omega, by omega, by omega⟩)
  clear B2
  go_upto_region 8 with (fail)
  go_cut [12] (fun s12 wx => ∃ (bb ge : Nat), s12 = .pointer (some ⟨bb, 0, none⟩) ∧ CdSt [bb, ge] w.heap.size bb w.heap.size CC wx wx 0 (.slice (some ⟨ge, 0, none⟩) 0 0) (.slice A3 CC.limits.length c3) ∧ Kept w3 wx ∧ w3.heap.size ≤ bb ∧ w3.heap.size ≤ ge)
  case first =>
    refine region_pop (S := fun w' => w'.cell? ⟨g2, j2, none⟩ = some (.int .i64 CC.repeats) ∧ w'.cell? ⟨g2, j2 + 1, none⟩ = some (.int .i64 CC.bonus) ∧ w'.cell? ⟨g2, j2 + 2, none⟩ = some (.int .i64 CC.keeps) ∧ w'.cell? ⟨g2, j2 + 3, none⟩ = some (.int .i64 CC.fall)) 16 (by kernel_rfl) (by kernel_rfl) ?_
    simp only [List.take_succ_cons, List.take_zero, List.drop_succ_cons, List.drop_zero]
    refine startL (HW.out _ (Kept.refl w3).drew) (fun hS0 => ?_)
    obtain ⟨wd, hwd⟩ : ∃ x : World, x = w3.drew := ⟨_, rfl⟩
    rw [← hwd] at hS0 ⊢
    have kd : Kept w3 wd := hwd ▸ (Kept.refl w3).drew
    have szd := kd.size
    clear hwd
    refine takeL (i := 1) (v := ?_) rfl (by kernel_rfl) (by kernel_rfl) (by kernel_rfl) (fun _ _ _ h => h) (Or.inl ⟨by rfl, ?_⟩) hS0 ?_
    rotate_left 1
    · (intro w hSw; (try dsimp only at hSw); go_simp; try with_reducible rfl)
    try simp only [Act.put, List.setIfInBounds_toArray, List.set_cons_zero, List.set_cons_succ]
    refine takeL (i := 2) (v := ?_) rfl (by kernel_rfl) (by kernel_rfl) (by kernel_rfl) (fun _ _ _ h => h) (Or.inl ⟨by rfl, ?_⟩) hS0 ?_
    rotate_left 1
    · (intro w hSw; (try dsimp only at hSw); go_simp; try with_reducible rfl)
    try simp only [Act.put, List.setIfInBounds_toArray, List.set_cons_zero, List.set_cons_succ]
    refine takeL (i := 3) (v := ?_) rfl (by kernel_rfl) (by kernel_rfl) (by kernel_rfl) (fun _ _ _ h => h) (Or.inl ⟨by rfl, ?_⟩) hS0 ?_
    rotate_left 1
    · (intro w hSw; (try dsimp only at hSw); go_simp; try with_reducible rfl)
    try simp only [Act.put, List.setIfInBounds_toArray, List.set_cons_zero, List.set_cons_succ]
    refine takeL (i := 4) (v := ?_) rfl (by kernel_rfl) (by kernel_rfl) (by kernel_rfl) (fun _ _ _ h => h) (Or.inl ⟨by rfl, ?_⟩) hS0 ?_
    rotate_left 1
    · (intro w hSw; (try dsimp only at hSw); go_simp; try with_reducible rfl)
    try simp only [Act.put, List.setIfInBounds_toArray, List.set_cons_zero, List.set_cons_succ]
    refine takeL (i := 5) (v := ?_) rfl (by kernel_rfl) (by kernel_rfl) (by kernel_rfl) (fun _ _ _ h => h) (Or.inl ⟨by rfl, ?_⟩) hS0 ?_
    rotate_left 1
    · (intro w hSw; (try dsimp only at hSw); go_simp; try with_reducible rfl)
    try simp only [Act.put, List.setIfInBounds_toArray, List.set_cons_zero, List.set_cons_succ]
    refine takeL (i := 6) (v := ?_) rfl (by kernel_rfl) (by kernel_rfl) (by kernel_rfl) (fun _ _ _ h => h) (Or.inl ⟨by rfl, ?_⟩) hS0 ?_
    rotate_left 1
    · (intro w hSw; (try dsimp only at hSw); go_simp; try with_reducible rfl)
    try simp only [Act.put, List.setIfInBounds_toArray, List.set_cons_zero, List.set_cons_succ]
    refine takeL (i := 7) (v := ?_) rfl (by kernel_rfl) (by kernel_rfl) (by kernel_rfl) (fun _ _ _ h => h) (Or.inl ⟨by rfl, ?_⟩) hS0 ?_
    rotate_left 1
    · (intro w hSw; (try dsimp only at hSw); go_simp; try with_reducible rfl)
    try simp only [Act.put, List.setIfInBounds_toArray, List.set_cons_zero, List.set_cons_succ]
    refine takeL (i := 8) (v := ?_) rfl (by kernel_rfl) (by kernel_rfl) (by kernel_rfl) (fun _ _ _ h => h) (Or.inl ⟨by rfl, ?_⟩) hS0 ?_
    rotate_left 1
    · (intro w hSw; (try dsimp only at hSw); go_simp; try with_reducible rfl)
    try simp only [Act.put, List.setIfInBounds_toArray, List.set_cons_zero, List.set_cons_succ]
    refine takeL (i := 9) (v := ?_) rfl (by kernel_rfl) (by kernel_rfl) (by kernel_rfl) (fun _ _ _ h => h) (Or.inl ⟨by rfl, ?_⟩) hS0 ?_
    rotate_left 1
    · (intro w hSw; (try dsimp only at hSw); go_simp; try with_reducible rfl)
    try simp only [Act.put, List.setIfInBounds_toArray, List.set_cons_zero, List.set_cons_succ]
    refine takeL (i := 10) (v := ?_) rfl (by kernel_rfl) (by kernel_rfl) (by kernel_rfl) (fun _ _ _ h => h) (Or.inl ⟨by rfl, ?_⟩) hS0 ?_
    rotate_left 1
    · (intro w hSw; (try dsimp only at hSw); go_simp; try with_reducible rfl)
    try simp only [Act.put, List.setIfInBounds_toArray, List.set_cons_zero, List.set_cons_succ]
    refine takeL (i := 11) (v := ?_) rfl (by kernel_rfl) (by kernel_rfl) (by kernel_rfl) (fun _ _ _ h => h) (Or.inl ⟨by rfl, ?_⟩) hS0 ?_
    rotate_left 1
    · (intro w hSw; (try dsimp only at hSw); go_simp; try with_reducible rfl)
    try simp only [Act.put, List.setIfInBounds_toArray, List.set_cons_zero, List.set_cons_succ]
    refine takeL (i := 12) (v := ?_) rfl (by kernel_rfl) (by kernel_rfl) (by kernel_rfl) (fun _ _ _ h => h) (Or.inl ⟨by rfl, ?_⟩) hS0 ?_
    rotate_left 1
    · (intro w hSw; (try dsimp only at hSw); go_simp; try with_reducible rfl)
    try simp only [Act.put, List.setIfInBounds_toArray, List.set_cons_zero, List.set_cons_succ]
    refine takeL (i := 13) (v := ?_) rfl (by kernel_rfl) (by kernel_rfl) (by kernel_rfl) (fun _ _ _ h => h) (Or.inl ⟨by rfl, ?_⟩) hS0 ?_
    rotate_left 1
    · (intro w hSw; (try dsimp only at hSw); go_simp; try with_reducible rfl)
    try simp only [Act.put, List.setIfInBounds_toArray, List.set_cons_zero, List.set_cons_succ]
    refine readyL (rs := [0, 15]) (by kernel_rfl) (by simp) ?_
    refine consL (i := 0) rfl (fun K hK => ?_) (consL (i := 15) rfl (fun K hK => ?_) (allNil))
    ·
      go_simp
      obtain ⟨we, hwe⟩ : ∃ x : World, x = wd.alloc (.cells #[] 31) := ⟨_, rfl⟩
      rw [← hwe]
      have Be : Box we wd.heap.size 31 #[] := hwe ▸ Box.new wd _ _ _ rfl
      have ke : Kept w3 we := hwe ▸ kd.alloc _
      have kwe : Kept wd we := hwe ▸ (Kept.refl wd).alloc _
      have sze : wd.heap.size < we.heap.size := Be.lt
      clear hwe
      refine hK.out _ _ (HW.out _ ke) (fun hS1 => ?_)
      clear hK K hS0
      try simp only [Act.put, List.setIfInBounds_toArray, List.set_cons_zero, List.set_cons_succ]
      refine takeL (i := 14) (v := ?_) rfl (by kernel_rfl) (by kernel_rfl) (by kernel_rfl) (fun _ _ _ h => h) (Or.inl ⟨by rfl, ?_⟩) hS1 ?_
      rotate_left 1
      · (intro w hSw; (try dsimp only at hSw); go_simp; try with_reducible rfl)
      try simp only [Act.put, List.setIfInBounds_toArray, List.set_cons_zero, List.set_cons_succ]
      refine onlyL (i := 15) rfl (by kernel_rfl) (fun K hK => ?_)
      go_simp
      obtain ⟨wa, hwa⟩ : ∃ x : World, x = we.alloc (.cells #[.slice none 0 0, .slice none 0 0, .int .i64 0, .int .i64 0, .int .i64 0, .int .i64 0] 26) := ⟨_, rfl⟩
      rw [← hwa]
      have Ba : Box wa we.heap.size 26 #[.slice none 0 0, .slice none 0 0, .int .i64 0, .int .i64 0, .int .i64 0, .int .i64 0] := hwa ▸ Box.new we _ _ _ rfl
      have ka : Kept w3 wa := hwa ▸ ke.alloc _
      have kwa : Kept we wa := hwa ▸ (Kept.refl we).alloc _
      have sza : we.heap.size < wa.heap.size := Ba.lt
      clear hwa
      refine hK.out _ _ (HW.out _ ka) (fun hS2 => ?_)
      clear hK K hS1
      try simp only [Act.put, List.setIfInBounds_toArray, List.set_cons_zero, List.set_cons_succ]
      refine doneL (by kernel_rfl) ?_
      clear hS2
      obtain ⟨x4, y4⟩ := Ba.six
      go_wp2_with fail
      clear x4 y4
      obtain ⟨w9, hw9, B9, Q9⟩ := set6 Ba (.slice (some ⟨wd.heap.size, 0, none⟩) 0 0) (.slice A3 CC.limits.length c3) (.int .i64 CC.repeats) (.int .i64 CC.bonus) (.int .i64 CC.keeps) (.int .i64 CC.fall)
      rw [← hw9]
      clear hw9
      go_meet
      obtain ⟨h1, h2⟩ := MK.out wa w9 we.heap.size wd.heap.size ka Q9 (by omega) (by omega) (by omega) B9 (Be.kept kwa)
      exact ⟨_, _, rfl, h1, h2, by omega, by omega⟩
    ·
      go_simp
      obtain ⟨wa, hwa⟩ : ∃ x : World, x = wd.alloc (.cells #[.slice none 0 0, .slice none 0 0, .int .i64 0, .int .i64 0, .int .i64 0, .int .i64 0] 26) := ⟨_, rfl⟩
      rw [← hwa]
      have Ba : Box wa wd.heap.size 26 #[.slice none 0 0, .slice none 0 0, .int .i64 0, .int .i64 0, .int .i64 0, .int .i64 0] := hwa ▸ Box.new wd _ _ _ rfl
      have ka : Kept w3 wa := hwa ▸ kd.alloc _
      have kwa : Kept wd wa := hwa ▸ (Kept.refl wd).alloc _
      have sza : wd.heap.size < wa.heap.size := Ba.lt
      clear hwa
      refine hK.out _ _ (HW.out _ ka) (fun hS3 => ?_)
      clear hK K hS0
      try simp only [Act.put, List.setIfInBounds_toArray, List.set_cons_zero, List.set_cons_succ]
      refine onlyL (i := 0) rfl (by kernel_rfl) (fun K hK => ?_)
      go_simp
      obtain ⟨we, hwe⟩ : ∃ x : World, x = wa.alloc (.cells #[] 31) := ⟨_, rfl⟩
      rw [← hwe]
      have Be : Box we wa.heap.size 31 #[] := hwe ▸ Box.new wa _ _ _ rfl
      have ke : Kept w3 we := hwe ▸ ka.alloc _
      have kwe : Kept wa we := hwe ▸ (Kept.refl wa).alloc _
      have sze : wa.heap.size < we.heap.size := Be.lt
      clear hwe
      refine hK.out _ _ (HW.out _ ke) (fun hS4 => ?_)
      clear hK K hS3
      try simp only [Act.put, List.setIfInBounds_toArray, List.set_cons_zero, List.set_cons_succ]
      refine takeL (i := 14) (v := ?_) rfl (by kernel_rfl) (by kernel_rfl) (by kernel_rfl) (fun _ _ _ h => h) (Or.inl ⟨by rfl, ?_⟩) hS4 ?_
      rotate_left 1
      · (intro w hSw; (try dsimp only at hSw); go_simp; try with_reducible rfl)
      try simp only [Act.put, List.setIfInBounds_toArray, List.set_cons_zero, List.set_cons_succ]
      have Bb := Ba.kept kwe
      refine doneL (by kernel_rfl) ?_
      clear hS4
      obtain ⟨x4, y4⟩ := Bb.six
      go_wp2_with fail
      clear x4 y4
      obtain ⟨w9, hw9, B9, Q9⟩ := set6 Bb (.slice (some ⟨wa.heap.size, 0, none⟩) 0 0) (.slice A3 CC.limits.length c3) (.int .i64 CC.repeats) (.int .i64 CC.bonus) (.int .i64 CC.keeps) (.int .i64 CC.fall)
      rw [← hw9]
      clear hw9
      go_meet
      obtain ⟨h1, h2⟩ := MK.out we w9 wd.heap.size wa.heap.size ke Q9 (by omega) (by omega) (by omega) B9 Be
      exact ⟨_, _, rfl, h1, h2, by omega, by omega⟩
  case rest =>
    clear MK HW HA2 O2 HB2
    obtain ⟨bb, ge, rfl, hst0, kx, hbb, hge⟩ := hcut
    have HST0 := Lib.hid hst0
    clear hst0
    have hr3 : rest.length + 2 - 2 = rest.length := by omega
    have HEL : Hid (CC.elems.length = rest.length) := Lib.hid (by rw [HCE.out]; simp)
    go_wp2_with fail
    try rw [hr3]
    clear hr3
    go_loopw [81] (fun i wr => ∃ (k : Nat) (ev : Value), k ≤ rest.length ∧ i = .int .i64 k ∧ (∀ z ∈ rest.take k, ∃ ns, rdI z.data.toList = some ns ∧ ns.length = 3) ∧ CdSt [bb, ge] w.heap.size bb w.heap.size CC wc wr k ev (.slice A3 CC.limits.length c3)) (fun i _ => rest.length - (RowKit.intOf i).toNat)
    case atStart => exact ⟨0, _, Nat.zero_le _, rfl, (fun z hz => by cases hz), HST0.out⟩
    case round =>
      clear HST0
      obtain ⟨k, ev, hk, rfl, hrk, hst⟩ := hrel
      have HRR := Lib.hid hrk
      clear hrk
      obtain ⟨Ae, ce, rfl, _⟩ := own_form hst.elems.1
      have hkk : (CC.elems.take k).length = k := by rw [List.length_take, HEL.out]; omega
      rw [hkk] at hst
      have HKK := Lib.hid hkk
      clear hkk
      have KR : Kept w3 wr := hst.only.above kx (fun x hx => by simp only [List.mem_cons, List.not_mem_nil, or_false] at hx; omega)
      have HST := Lib.hid hst
      clear hst
      by_cases hlt : k < rest.length
      · obtain ⟨gz, iz, z, e1, hgz, hz, hx⟩ := strs_at (k := k + 2) (HS.out.kept (k23.trans KR)).1.addr (by rw [HLEN.out]; omega)
        cases e1
        have hi2 : i1 + (k + 2) = i1 + 2 + k := by omega
        rw [hi2] at hx
        clear hi2
        have hz' : rest[k]? = some z := by
          rw [HLN.out, List.getElem?_cons_succ, List.getElem?_cons_succ] at hz
          exact hz
        have hzm : z ∈ rest := List.mem_of_getElem? hz'
        have hzs : z.size ≤ 1048576 := HSZ.out z (List.mem_of_getElem? hz)
        have HSN : Hid (CC.elems.take (k + 1) = CC.elems.take k ++ [elI z]) := Lib.hid (by rw [HCE.out]; exact elI_snoc hz')
        have HTK : Hid (rest.take (k + 1) = rest.take k ++ [z]) := Lib.hid (take_snoc hz')
        have HZM := Lib.hid hzm
        clear hz hz' hzm
        go_wp2_with fail
        have CS := Lib.hid (wordsAndNumbers_any z 3 wr hzs (HMX.out.kept (HK3.out.trans KR)))
        with_reducible refine CS.out.mono ?_
        clear CS
        rintro e w4 hwn
        obtain ⟨v4, b2, rfl, hb2, o4, k4⟩ := wn_post hwn
        clear hwn
        obtain ⟨A4, c4, rfl, hn4, hm4, _⟩ := own_form o4
        clear hx
        cases b2 with
        | false =>
          have HP := Lib.hid (pcI_el HLN.out HZM.out hb2)
          have B2 := HST.out.hbox.kept k4
          clear hb2 o4
          obtain ⟨x2, y2⟩ := B2.six
          go_wp2_with fail
          clear x2 y2
          obtain ⟨w5, hw5, B5, Q5⟩ := set6 B2 (.slice none 0 0) (.slice none 0 0) (.int .i64 0) (.int .i64 0) (.int .i64 0) (.int .i64 0)
          rw [← hw5]
          clear hw5
          obtain ⟨cc, ff⟩ := B5.six
          refine bodyPost_ret (v := .tuple #[.agg #[.slice none 0 0, .slice none 0 0, .int .i64 0, .int .i64 0, .int .i64 0, .int .i64 0], .bool false]) (by simp [results, Tryz.results15, go_sem, cc, ff]) rfl ?_
          exact NO.out _ _ (HK3.out.trans (KR.trans k4)) B2 HP.out Q5
        | true =>
        obtain ⟨ns, hrn, hln⟩ := wnB_yes (n := 3) hb2
        have HRK : Hid (∀ y ∈ rest.take (k + 1), ∃ ns, rdI y.data.toList = some ns ∧ ns.length = 3) := Lib.hid (fun y hy => by
          rw [HTK.out] at hy
          rcases List.mem_append.1 hy with hy | hy
          · exact HRR.out y hy
          · rw [List.mem_singleton] at hy; subst hy; exact ⟨ns, hrn, hln⟩)
        obtain ⟨n0, n1, n2, hns⟩ : ∃ n0 n1 n2, ns = [n0, n1, n2] := ⟨_, _, _, list3 hln⟩
        subst hns
        have HES : Hid (elI z = ElemD.mk (tx (wdS z.data.toList)) n0 n1 n2) := Lib.hid (by rw [elI_of hrn]; rfl)
        rw [hrn, Option.getD_some] at o4 hn4 ⊢
        have O4 := Lib.hid o4
        have HA4 := Lib.hid o4.ints
        have HG4 : Hid (∀ b ∈ fp (.slice A4 [n0, n1, n2].length c4), wr.heap.size ≤ b ∧ b < w4.heap.size) := Lib.hid (own_fp o4)
        clear hrn hln hb2 o4
        obtain ⟨g4, j4, y, rfl, hg4, hy, hd0⟩ := ints_at (k := 0) HA4.out.addr (by simp)
        obtain rfl : n0 = y := by simpa using hy
        obtain ⟨g4', j4', y, e1, _, hy, hd1⟩ := ints_at (k := 1) HA4.out.addr (by simp)
        cases e1
        obtain rfl : n1 = y := by simpa using hy
        obtain ⟨g4', j4', y, e1, _, hy, hd2⟩ := ints_at (k := 2) HA4.out.addr (by simp)
        cases e1
        obtain rfl : n2 = y := by simpa using hy
        rw [Nat.add_zero] at hd0
        simp only [List.length_cons, List.length_nil, Nat.zero_add, Nat.reduceAdd] at hn4 ⊢
        have hgw : wr.heap.size ≤ g4 := (HG4.out g4 (by simp [fp_some])).1
        have hz0s : (tx (wdS z.data.toList)).size ≤ maxLen := by
          obtain ⟨z0, t, hsp, hzw, _⟩ := spB_words z
          have := spB_sz (b := 32) (t := z) (z := z0) (by rw [hsp]; exact List.mem_cons_self)
          rw [← hzw, tx_of]
          unfold maxLen
          omega
        clear hy
        have hbl := HST.out.bbox.lt
        have HB : Hid (∀ w' : World, Box w' bb 26 #[.slice Ae k ce, .slice A3 CC.limits.length c3, .int .i64 CC.repeats, .int .i64 CC.bonus, .int .i64 CC.keeps, .int .i64 CC.fall] → (∀ i, w'.cell? ⟨g4, i, none⟩ = w4.cell? ⟨g4, i, none⟩) → w'.cell? ⟨bb, 0, none⟩ = some (.slice Ae k ce) ∧ w'.cell? ⟨g4, j4, none⟩ = some (.int .i64 n0) ∧ w'.cell? ⟨g4, j4 + 1, none⟩ = some (.int .i64 n1) ∧ w'.cell? ⟨g4, j4 + 2, none⟩ = some (.int .i64 n2)) := Lib.hid (fun w' b hq => ⟨b.cell 0, (hq _).trans hd0, (hq _).trans hd1, (hq _).trans hd2⟩)
        have HW3 : Hid (∀ w' : World, Kept w4 w' → w'.cell? ⟨bb, 0, none⟩ = some (.slice Ae k ce) ∧ w'.cell? ⟨g4, j4, none⟩ = some (.int .i64 n0) ∧ w'.cell? ⟨g4, j4 + 1, none⟩ = some (.int .i64 n1) ∧ w'.cell? ⟨g4, j4 + 2, none⟩ = some (.int .i64 n2)) := Lib.hid (fun w' k' => HB.out w' (HST.out.bbox.kept (k4.trans k')) (fun i => k'.cell (by exact hg4)))
        clear hd0 hd1 hd2
        go_upto_region 15 with (fail)
        refine region_pop (S := fun w' => w'.cell? ⟨bb, 0, none⟩ = some (.slice Ae k ce) ∧ w'.cell? ⟨g4, j4, none⟩ = some (.int .i64 n0) ∧ w'.cell? ⟨g4, j4 + 1, none⟩ = some (.int .i64 n1) ∧ w'.cell? ⟨g4, j4 + 2, none⟩ = some (.int .i64 n2)) 16 (by kernel_rfl) (by kernel_rfl) ?_
        simp only [List.take_succ_cons, List.take_zero, List.drop_succ_cons, List.drop_zero]
        refine startL (HW3.out _ (Kept.refl w4).drew) (fun hS0 => ?_)
        obtain ⟨wd, hwd⟩ : ∃ x : World, x = w4.drew := ⟨_, rfl⟩
        rw [← hwd] at hS0 ⊢
        have kd : Kept w4 wd := hwd ▸ (Kept.refl w4).drew
        clear hwd
        refine takeL (i := 0) (v := ?_) rfl (by kernel_rfl) (by kernel_rfl) (by kernel_rfl) (fun _ _ _ h => h) (Or.inl ⟨by rfl, ?_⟩) hS0 ?_
        rotate_left 1
        · (intro w hSw; (try dsimp only at hSw); go_simp; try with_reducible rfl)
        try simp only [Act.put, List.setIfInBounds_toArray, List.set_cons_zero, List.set_cons_succ]
        refine takeL (i := 1) (v := ?_) rfl (by kernel_rfl) (by kernel_rfl) (by kernel_rfl) (fun _ _ _ h => h) (Or.inl ⟨by rfl, ?_⟩) hS0 ?_
        rotate_left 1
        · (intro w hSw; (try dsimp only at hSw); go_simp; try with_reducible rfl)
        try simp only [Act.put, List.setIfInBounds_toArray, List.set_cons_zero, List.set_cons_succ]
        refine takeL (i := 2) (v := ?_) rfl (by kernel_rfl) (by kernel_rfl) (by kernel_rfl) (fun _ _ _ h => h) (Or.inl ⟨by rfl, ?_⟩) hS0 ?_
        rotate_left 1
        · (intro w hSw; (try dsimp only at hSw); go_simp; try with_reducible rfl)
        try simp only [Act.put, List.setIfInBounds_toArray, List.set_cons_zero, List.set_cons_succ]
        refine takeL (i := 3) (v := ?_) rfl (by kernel_rfl) (by kernel_rfl) (by kernel_rfl) (fun _ _ _ h => h) (Or.inl ⟨by rfl, ?_⟩) hS0 ?_
        rotate_left 1
        · (intro w hSw; (try dsimp only at hSw); go_simp; try with_reducible rfl)
        try simp only [Act.put, List.setIfInBounds_toArray, List.set_cons_zero, List.set_cons_succ]
        refine takeL (i := 4) (v := ?_) rfl (by kernel_rfl) (by kernel_rfl) (by kernel_rfl) (fun _ _ _ h => h) (Or.inl ⟨by rfl, ?_⟩) hS0 ?_
        rotate_left 1
        · (intro w hSw; (try dsimp only at hSw); go_simp; try with_reducible rfl)
        try simp only [Act.put, List.setIfInBounds_toArray, List.set_cons_zero, List.set_cons_succ]
        refine takeL (i := 5) (v := ?_) rfl (by kernel_rfl) (by kernel_rfl) (by kernel_rfl) (fun _ _ _ h => h) (Or.inl ⟨by rfl, ?_⟩) hS0 ?_
        rotate_left 1
        · (intro w hSw; (try dsimp only at hSw); go_simp; try with_reducible rfl)
        try simp only [Act.put, List.setIfInBounds_toArray, List.set_cons_zero, List.set_cons_succ]
        refine takeL (i := 6) (v := ?_) rfl (by kernel_rfl) (by kernel_rfl) (by kernel_rfl) (fun _ _ _ h => h) (Or.inl ⟨by rfl, ?_⟩) hS0 ?_
        rotate_left 1
        · (intro w hSw; (try dsimp only at hSw); go_simp; try with_reducible rfl)
        try simp only [Act.put, List.setIfInBounds_toArray, List.set_cons_zero, List.set_cons_succ]
        refine takeL (i := 7) (v := ?_) rfl (by kernel_rfl) (by kernel_rfl) (by kernel_rfl) (fun _ _ _ h => h) (Or.inl ⟨by rfl, ?_⟩) hS0 ?_
        rotate_left 1
        · (intro w hSw; (try dsimp only at hSw); go_simp; try with_reducible rfl)
        try simp only [Act.put, List.setIfInBounds_toArray, List.set_cons_zero, List.set_cons_succ]
        refine takeL (i := 8) (v := ?_) rfl (by kernel_rfl) (by kernel_rfl) (by kernel_rfl) (fun _ _ _ h => h) (Or.inl ⟨by rfl, ?_⟩) hS0 ?_
        rotate_left 1
        · (intro w hSw; (try dsimp only at hSw); go_simp; try with_reducible rfl)
        try simp only [Act.put, List.setIfInBounds_toArray, List.set_cons_zero, List.set_cons_succ]
        refine takeL (i := 9) (v := ?_) rfl (by kernel_rfl) (by kernel_rfl) (by kernel_rfl) (fun _ _ _ h => h) (Or.inl ⟨by rfl, ?_⟩) hS0 ?_
        rotate_left 1
        · (intro w hSw; (try dsimp only at hSw); go_simp; try with_reducible rfl)
        try simp only [Act.put, List.setIfInBounds_toArray, List.set_cons_zero, List.set_cons_succ]
        refine takeL (i := 10) (v := ?_) rfl (by kernel_rfl) (by kernel_rfl) (by kernel_rfl) (fun _ _ _ h => h) (Or.inl ⟨by rfl, ?_⟩) hS0 ?_
        rotate_left 1
        · (intro w hSw; (try dsimp only at hSw); go_simp; try with_reducible rfl)
        try simp only [Act.put, List.setIfInBounds_toArray, List.set_cons_zero, List.set_cons_succ]
        refine takeL (i := 11) (v := ?_) rfl (by kernel_rfl) (by kernel_rfl) (by kernel_rfl) (fun _ _ _ h => h) (Or.inl ⟨by rfl, ?_⟩) hS0 ?_
        rotate_left 1
        · (intro w hSw; (try dsimp only at hSw); go_simp; try with_reducible rfl)
        try simp only [Act.put, List.setIfInBounds_toArray, List.set_cons_zero, List.set_cons_succ]
        refine takeL (i := 12) (v := ?_) rfl (by kernel_rfl) (by kernel_rfl) (by kernel_rfl) (fun _ _ _ h => h) (Or.inl ⟨by rfl, ?_⟩) hS0 ?_
        rotate_left 1
        · (intro w hSw; (try dsimp only at hSw); go_simp; try with_reducible rfl)
        try simp only [Act.put, List.setIfInBounds_toArray, List.set_cons_zero, List.set_cons_succ]
        refine onlyL (i := 13) rfl (by kernel_rfl) (fun K hK => ?_)
        go_simp
        obtain ⟨w5, hw5⟩ : ∃ x : World, x = wd.alloc (.cells #[.string (tx (wdS z.data.toList)), .int .i64 n0, .int .i64 n1, .int .i64 n2] 31) := ⟨_, rfl⟩
        rw [← hw5]
        have B5 : Box w5 wd.heap.size 31 #[.string (tx (wdS z.data.toList)), .int .i64 n0, .int .i64 n1, .int .i64 n2] := hw5 ▸ Box.new wd _ _ _ rfl
        have k5 : Kept w4 w5 := hw5 ▸ kd.alloc _
        have K5 : Kept wr w5 := k4.trans k5
        have sz5 : w.heap.size ≤ w5.heap.size := (HK3.out.trans (KR.trans K5)).size
        clear hw5
        refine hK.out _ _ (HW3.out _ k5) (fun hS1 => ?_)
        clear hK K hS0
        try simp only [Act.put, List.setIfInBounds_toArray, List.set_cons_zero, List.set_cons_succ]
        refine onlyL (i := 14) rfl (by kernel_rfl) (fun K hK => ?_)
        rw [if_pos (wanted_none rfl _)]
        refine wp_append_ED w5 _ _ rfl w.heap.size (.slice Ae k ce) (CC.elems.take k) rfl (HST.out.elems.kept K5) _ [ElemD.mk (tx (wdS z.data.toList)) n0 n1 n2] rfl (elems_one (ElemD.mk (tx (wdS z.data.toList)) n0 n1 n2) B5 hz0s) (by rw [HKK.out]; simp only [List.length_cons, List.length_nil]; omega) sz5 ?_
        intro v6 w6 o6 on6 f6
        rw [← HES.out, ← HSN.out] at o6
        have hl6 : (CC.elems.take (k + 1)).length = k + 1 := by rw [List.length_take, HEL.out]; omega
        obtain ⟨A6, c6, rfl, _⟩ := own_form o6.1
        rw [hl6] at o6 f6 ⊢
        have ST := Lib.hid (HST.out.step K5 on6 o6 f6)
        have B6 := HST.out.mid K5 on6
        have hq6 : ∀ i, w6.cell? ⟨g4, i, none⟩ = w4.cell? ⟨g4, i, none⟩ := fun i => World.cell?_of_block (w := w4) ((on6.block g4 (by have := k5.size; omega) (fun hb => by have := own_fp HST.out.elems.1 g4 hb; omega)).trans (k5.block g4 hg4))
        clear o6 on6 f6 hl6
        refine hK.out _ _ (HB.out _ B6 hq6) (fun hS2 => ?_)
        clear hK K hS1
        try simp only [Act.put, List.setIfInBounds_toArray, List.set_cons_zero, List.set_cons_succ]
        refine takeL (i := 15) (v := ?_) rfl (by kernel_rfl) (by kernel_rfl) (by kernel_rfl) (fun _ _ _ h => h) (Or.inl ⟨by rfl, ?_⟩) hS2 ?_
        rotate_left 1
        · (intro w hSw; (try dsimp only at hSw); go_simp; try with_reducible rfl)
        try simp only [Act.put, List.setIfInBounds_toArray, List.set_cons_zero, List.set_cons_succ]
        refine doneL (by kernel_rfl) ?_
        clear hS2
        clear hq6
        obtain ⟨x6, y6⟩ := B6.six
        go_wp2_with fail
        go_roundw
        case rel => exact ⟨k + 1, _, by omega, by go_num, HRK.out, ST.out⟩
        case measure => simp [RowKit.intOf]; omega
      · have HFIN : Hid (CC.elems.length ≤ k) := Lib.hid (by rw [HEL.out]; omega)
        have HRA : Hid (∀ z ∈ rest, ∃ ns, rdI z.data.toList = some ns ∧ ns.length = 3) := Lib.hid (fun z hz => HRR.out z (by rw [List.take_of_length_le (by omega)]; exact hz))
        have OT := Lib.hid (HST.out.whole HFIN.out)
        have FIN : Hid (∀ w3 w4 : World, Kept wr w3 → Only [w.heap.size] w3 w4 → OwnK w4 w.heap.size (.agg #[.slice Ae k ce, .slice A3 CC.limits.length c3, .int .i64 CC.repeats, .int .i64 CC.bonus, .int .i64 CC.keeps, .int .i64 CC.fall]) CC) := Lib.hid (fun w3 w4 k3 q => HST.out.fin HFIN.out k3 q)
        have b4 := HST.out.bbox
        have b2 := HST.out.hbox
        obtain ⟨x4, y4⟩ := b4.six
        go_wp2_with fail
        clear x4 y4
        refine (isCode_any _ CC _ OT.out.code).mono ?_
        rintro e w4 ⟨rfl, k4⟩
        cases hpb : codeB CC with
        | false =>
          have HP : Hid (IsPC s.data.toList zeroC false) := Lib.hid (pcI_bad HLN.out HR0.out HR1.out (by rw [HCC.out]; exact hpb))
          clear hpb
          have B2 := b2.kept k4
          obtain ⟨x2, y2⟩ := B2.six
          go_wp2_with fail
          clear x2 y2
          obtain ⟨w5, hw5, B5, Q5⟩ := set6 B2 (.slice none 0 0) (.slice none 0 0) (.int .i64 0) (.int .i64 0) (.int .i64 0) (.int .i64 0)
          rw [← hw5]
          clear hw5
          obtain ⟨cc, ff⟩ := B5.six
          refine bodyPost_ret (v := .tuple #[.agg #[.slice none 0 0, .slice none 0 0, .int .i64 0, .int .i64 0, .int .i64 0, .int .i64 0], .bool false]) (by simp [results, Tryz.results15, go_sem, cc, ff]) rfl ?_
          exact NO.out _ _ (HK3.out.trans (KR.trans k4)) B2 HP.out Q5
        | true =>
          have HP : Hid (IsPC s.data.toList CC true) := Lib.hid (by have := pcI_yes HLN.out HOK.out HR0.out HR1.out HL0.out HW0.out HW1.out HRA.out (by rw [HCC.out]; exact hpb); rw [HCC.out] at this; exact this)
          clear hpb
          obtain ⟨x4, y4⟩ := (b4.kept k4).six
          obtain ⟨x2, y2⟩ := (b2.kept k4).six
          go_wp2_with fail
          clear x4 y4 x2 y2
          obtain ⟨w9, hw9, B9, Q9⟩ := set6 (b2.kept k4) (.slice Ae k ce) (.slice A3 CC.limits.length c3) (.int .i64 CC.repeats) (.int .i64 CC.bonus) (.int .i64 CC.keeps) (.int .i64 CC.fall)
          rw [← hw9]
          clear hw9
          obtain ⟨cc, ff⟩ := B9.six
          refine bodyPost_ret (v := .tuple #[.agg #[.slice Ae k ce, .slice A3 CC.limits.length c3, .int .i64 CC.repeats, .int .i64 CC.bonus, .int .i64 CC.keeps, .int .i64 CC.fall], .bool true]) (by simp [results, Tryz.results15, go_sem, cc, ff]) rfl ?_
          exact PcPost.yes HP.out (FIN.out _ _ k4 Q9) (Q9.above (HK3.out.trans (KR.trans k4)) (by simp))
end Go.Proofs.YtkekpolfdmmgeaaGreatDoor

/- How often numbers occur, in plain lists. -/
namespace Go.Proofs.YtkekpolfdmmgeaaGreatDoor
set_option linter.unusedVariables false
set_option linter.unusedSimpArgs false
open Go.RowKit

def cn (l : List Int) (d : Int) : Int := ((l.filter fun x => decide (x = d)).length : Int)
def cns (m : Nat) (l : List Int) : List Int := (List.range m).map fun (d : Nat) => cn l (d : Int)
theorem cn_snoc (l : List Int) (m d : Int) : cn (l ++ [m]) d = cn l d + if m = d then 1 else 0 := by
  unfold cn
  rw [List.filter_append]
  by_cases h : m = d <;> simp [List.filter_cons, h]
theorem cn_bd (l : List Int) (d : Int) : 0 ≤ cn l d ∧ cn l d ≤ l.length := by
  unfold cn
  have := List.length_filter_le (fun x => decide (x = d)) l
  omega
theorem cns_length (m : Nat) (l : List Int) : (cns m l).length = m := by simp [cns]
theorem cns_get {m : Nat} (l : List Int) {z : Int} (h0 : 0 ≤ z) (h1 : z < m) : (cns m l)[z.toNat]? = some (cn l z) := by
  unfold cns
  rw [List.getElem?_map, List.getElem?_range (by omega)]
  simp only [Option.map_some]
  rw [Int.toNat_of_nonneg h0]
theorem cns_snoc {m : Nat} (l : List Int) {z : Int} (h0 : 0 ≤ z) (h1 : z < m) : cns m (l ++ [z]) = (cns m l).set z.toNat (cn l z + 1) := by
  apply List.ext_getElem?
  intro i
  by_cases hi : i < m
  · rw [List.getElem?_set]
    unfold cns
    simp only [List.getElem?_map, List.getElem?_range hi, Option.map_some, cn_snoc, List.length_map, List.length_range]
    by_cases e : z.toNat = i
    · have : z = (i : Int) := by omega
      rw [if_pos e, if_pos this, if_pos (by omega), this]
    · rw [if_neg e, if_neg (by omega)]
      simp
  · rw [List.getElem?_eq_none (by rw [cns_length]; omega), List.getElem?_eq_none (by rw [List.length_set, cns_length]; omega)]
theorem cns_nil5 : cns 5 [] = [0, 0, 0, 0, 0] := by decide
end Go.Proofs.YtkekpolfdmmgeaaGreatDoor

/- Codes: LevelsOf. -/
namespace Go.Proofs.YtkekpolfdmmgeaaGreatDoor
set_option linter.unusedVariables false
set_option linter.unusedSimpArgs false
open Go.RowKit

def lvls (es : List ElemD) (f : Int) : List Int := (es.filter fun y => decide (y.family = f)).map ElemD.level
theorem lvls_yes {es : List ElemD} {k : Nat} {y : ElemD} {f : Int} (h : es[k]? = some y) (hf : y.family = f) : lvls (es.take (k + 1)) f = lvls (es.take k) f ++ [y.level] := by
  unfold lvls
  rw [take_snoc h, List.filter_append, List.map_append]
  simp [hf]
theorem lvls_no {es : List ElemD} {k : Nat} {y : ElemD} {f : Int} (h : es[k]? = some y) (hf : ¬ y.family = f) : lvls (es.take (k + 1)) f = lvls (es.take k) f := by
  unfold lvls
  rw [take_snoc h, List.filter_append, List.map_append]
  simp [hf]
theorem lvls_len (es : List ElemD) (f : Int) (k : Nat) : (lvls (es.take k) f).length ≤ es.length := by
  unfold lvls
  rw [List.length_map]
  have := List.length_filter_le (fun y : ElemD => decide (y.family = f)) (es.take k)
  rw [List.length_take] at this
  omega
def lvV (x : CodeD) (f : Int) : List Int := if askedB x f then cns 5 (lvls x.elems f) else []
theorem lvV_len (x : CodeD) (f : Int) : (lvV x f).length ≤ 5 := by unfold lvV; split <;> simp [cns_length]
theorem lvV_no {x : CodeD} {f : Int} (h : askedB x f = false) : lvV x f = [] := by unfold lvV; rw [h]; rfl
theorem lvV_yes {x : CodeD} {f : Int} (h : askedB x f = true) : lvV x f = cns 5 (lvls x.elems f) := if_pos h
theorem asked_code {x : CodeD} {f : Int} (h : askedB x f = true) : codeB x = true := by unfold askedB at h; rw [Bool.and_eq_true] at h; exact h.1
theorem asked_fam {x : CodeD} {f : Int} (h : askedB x f = true) : inB f 0 4 = true := by unfold askedB at h; rw [Bool.and_eq_true] at h; exact h.2
theorem ret_vb {v : Value} {b b' : Bool} (h : b = b') : Ending.returned (.tuple #[v, .bool b]) = .returned (.tuple #[v, .bool b']) := by rw [h]
end Go.Proofs.YtkekpolfdmmgeaaGreatDoor

/- Codes: OfFamily. -/
namespace Go.Proofs.YtkekpolfdmmgeaaGreatDoor
set_option linter.unusedVariables false
set_option linter.unusedSimpArgs false
open Go.RowKit

def famIs (es : List ElemD) (f : Int) (i : Nat) : Bool := match es[i]? with | some y => y.family == f | none => false
theorem famIs_at {es : List ElemD} {f : Int} {i : Nat} {y : ElemD} (h : es[i]? = some y) : famIs es f i = (y.family == f) := by unfold famIs; rw [h]
def ofF (es : List ElemD) (f : Int) (k : Nat) : List Int := ((List.range k).filter (famIs es f)).map fun (i : Nat) => (i : Int)
theorem ofF_yes {es : List ElemD} {f : Int} {k : Nat} (h : famIs es f k = true) : ofF es f (k + 1) = ofF es f k ++ [(k : Int)] := by
  unfold ofF
  rw [List.range_succ, List.filter_append, List.map_append]
  simp [h]
theorem ofF_no {es : List ElemD} {f : Int} {k : Nat} (h : famIs es f k = false) : ofF es f (k + 1) = ofF es f k := by
  unfold ofF
  rw [List.range_succ, List.filter_append, List.map_append]
  simp [h]
theorem ofF_len (es : List ElemD) (f : Int) (k : Nat) : (ofF es f k).length ≤ k := by
  unfold ofF
  rw [List.length_map]
  have := List.length_filter_le (famIs es f) (List.range k)
  rwa [List.length_range] at this
def ofV (x : CodeD) (f : Int) : List Int := if askedB x f then ofF x.elems f x.elems.length else []
theorem ofV_no {x : CodeD} {f : Int} (h : askedB x f = false) : ofV x f = [] := by unfold ofV; rw [h]; rfl
theorem ofV_yes {x : CodeD} {f : Int} (h : askedB x f = true) : ofV x f = ofF x.elems f x.elems.length := if_pos h
theorem ofV_len (x : CodeD) (f : Int) : (ofV x f).length ≤ x.elems.length := by
  unfold ofV
  split
  · exact ofF_len _ _ _
  · simp
end Go.Proofs.YtkekpolfdmmgeaaGreatDoor

/- FnElements, plain: families have all elements once, levels add up, the greatest base, scaled bases, found names. -/
namespace Go.Proofs.YtkekpolfdmmgeaaGreatDoor
set_option linter.unusedVariables false
set_option linter.unusedSimpArgs false
open Go.RowKit

theorem ofF_lvls (es : List ElemD) (f : Int) : ∀ k, k ≤ es.length → (ofF es f k).length = (lvls (es.take k) f).length
  | 0, _ => rfl
  | k + 1, h => by
    have ih := ofF_lvls es f k (by omega)
    have hy : es[k]? = some es[k] := List.getElem?_eq_getElem (by omega)
    by_cases hf : es[k].family = f
    · rw [ofF_yes (by rw [famIs_at hy]; simp [hf]), lvls_yes hy hf, List.length_append, List.length_append, ih]
      rfl
    · rw [ofF_no (by rw [famIs_at hy]; simp [hf]), lvls_no hy hf, ih]
theorem ofF_all (es : List ElemD) (f : Int) : (ofF es f es.length).length = (lvls es f).length := by
  rw [ofF_lvls es f es.length (Nat.le_refl _), List.take_length]
/-- how many elements have a family below n -/
def famN (es : List ElemD) (n : Int) : Nat := (es.filter fun y => decide (0 ≤ y.family) && decide (y.family < n)).length
theorem famN_zero (es : List ElemD) : famN es 0 = 0 := by
  unfold famN
  rw [List.length_eq_zero_iff, List.filter_eq_nil_iff]
  intro y _ h
  simp at h
  omega
theorem famN_succ (es : List ElemD) (n : Nat) : famN es ((n : Int) + 1) = famN es n + (lvls es n).length := by
  induction es with
  | nil => rfl
  | cons y t ih =>
    unfold famN lvls at *
    simp only [List.filter_cons, List.length_map] at *
    by_cases h1 : y.family = (n : Int)
    · have a1 : (decide (0 ≤ y.family) && decide (y.family < (n : Int) + 1)) = true := by simp; omega
      have a2 : (decide (0 ≤ y.family) && decide (y.family < (n : Int))) = false := by simp; omega
      rw [a1, a2, if_pos rfl, if_neg (by simp), decide_eq_true h1, if_pos rfl]
      simp only [List.length_cons]
      omega
    · have a3 : (decide (0 ≤ y.family) && decide (y.family < (n : Int) + 1)) = (decide (0 ≤ y.family) && decide (y.family < (n : Int))) := by
        by_cases h2 : y.family < (n : Int)
        · rw [decide_eq_true h2, decide_eq_true (by omega : y.family < (n : Int) + 1)]
        · rw [decide_eq_false h2, decide_eq_false (by omega : ¬ y.family < (n : Int) + 1)]
      rw [a3, decide_eq_false h1]
      cases hq : (decide (0 ≤ y.family) && decide (y.family < (n : Int))) with
      | false => exact ih
      | true =>
        show (y :: _).length = (y :: _).length + _
        rw [List.length_cons, List.length_cons, ih]
        show _ = _ + 1 + (List.filter _ t).length
        omega
theorem famN_le (es : List ElemD) (n : Int) : famN es n ≤ es.length := List.length_filter_le _ _
theorem elem_of {x : CodeD} (h : codeB x = true) {k : Nat} {y : ElemD} (hy : x.elems[k]? = some y) : nameB y.name = true ∧ (0 ≤ y.family ∧ y.family ≤ 4) ∧ (0 ≤ y.level ∧ y.level ≤ 4) ∧ 1 ≤ y.base ∧ y.base ≤ 2000 := by
  unfold codeB at h
  rw [Bool.and_eq_true] at h
  have h2 := h.2
  unfold elemsB at h2
  obtain ⟨hk, _⟩ := List.getElem?_eq_some_iff.1 hy
  have h3 := List.all_eq_true.1 h2 k (List.mem_range.2 hk)
  unfold stepB at h3
  rw [hy] at h3
  have h4 : elemB y = true := by
    revert h3
    cases hb : elemB y with
    | true => intro _; rfl
    | false => simp [hb]
  unfold elemB at h4
  simp only [Bool.and_eq_true] at h4
  exact ⟨h4.1.1.1, inB_true h4.1.1.2, inB_true h4.1.2, inB_true h4.2⟩
theorem famN_all {x : CodeD} (h : codeB x = true) : famN x.elems 5 = x.elems.length := by
  unfold famN
  rw [List.filter_eq_self.2 (fun y hy => ?_)]
  obtain ⟨k, hk⟩ := List.getElem?_of_mem hy
  have := (elem_of h hk).2.1
  simp
  omega
theorem asked_at {x : CodeD} {f : Int} (h : askedB x f = true) {n : Nat} (hn : n < 5) : askedB x (n : Int) = true := by
  unfold askedB
  rw [asked_code h, inB_of (by omega) (by omega)]
  rfl
theorem ofV_at {x : CodeD} {f : Int} (h : askedB x f = true) {n : Nat} (hn : n < 5) : (ofV x n).length = (lvls x.elems n).length := by
  rw [ofV_yes (asked_at h hn), ofF_all]
/-- an index of a family -/
theorem ofV_mem {x : CodeD} {f : Int} {j : Nat} {z : Int} (h : askedB x f = true) (hz : (ofV x f)[j]? = some z) : ∃ (i : Nat) (y : ElemD), z = (i : Int) ∧ i < x.elems.length ∧ x.elems[i]? = some y ∧ y.family = f := by
  rw [ofV_yes h] at hz
  have hm := List.mem_of_getElem? hz
  unfold ofF at hm
  obtain ⟨i, hi, rfl⟩ := List.mem_map.1 hm
  obtain ⟨h1, h2⟩ := List.mem_filter.1 hi
  have h3 := List.mem_range.1 h1
  have hy : x.elems[i]? = some x.elems[i] := List.getElem?_eq_getElem h3
  rw [famIs_at hy] at h2
  exact ⟨i, _, rfl, h3, hy, by simpa using h2⟩
def bsAt (es : List ElemD) (z : Int) : Int := match es[z.toNat]? with | some y => y.base | none => 0
/-- the greatest base among indices -/
def mxB (es : List ElemD) (l : List Int) : Int := l.foldl (fun m z => max m (bsAt es z)) 0
theorem mxB_snoc {es : List ElemD} {l : List Int} {j i : Nat} {y : ElemD} (h : l[j]? = some (i : Int)) (hy : es[i]? = some y) : mxB es (l.take (j + 1)) = max (mxB es (l.take j)) y.base := by
  unfold mxB
  rw [take_snoc h, List.foldl_append]
  show max _ (bsAt es (i : Int)) = _
  unfold bsAt
  rw [Int.toNat_natCast, hy]
theorem mxB_ofF (es : List ElemD) (f : Int) : ∀ k, k ≤ es.length → mxB es (ofF es f k) = mostB (es.take k) f
  | 0, _ => rfl
  | k + 1, h => by
    have ih := mxB_ofF es f k (by omega)
    have hy : es[k]? = some es[k] := List.getElem?_eq_getElem (by omega)
    rw [mostB_snoc f hy]
    by_cases hf : es[k].family = f
    · rw [ofF_yes (by rw [famIs_at hy]; simp [hf]), if_pos hf, ← ih]
      unfold mxB
      rw [List.foldl_append]
      show max _ (bsAt es (k : Int)) = _
      unfold bsAt
      rw [Int.toNat_natCast, hy]
    · rw [ofF_no (by rw [famIs_at hy]; simp [hf]), if_neg hf, ih]
theorem mxB_all {x : CodeD} {f : Int} (h : askedB x f = true) : mxB x.elems (ofV x f) = gbV x f := by
  unfold gbV
  rw [if_pos h, ofV_yes h, mxB_ofF _ _ _ (Nat.le_refl _), List.take_length]
theorem mxB_nonneg (es : List ElemD) (l : List Int) : ∀ j, 0 ≤ mxB es (l.take j) ∧ True := by
  intro j
  refine ⟨?_, trivial⟩
  unfold mxB
  have : ∀ (l : List Int) (a : Int), 0 ≤ a → 0 ≤ l.foldl (fun m z => max m (bsAt es z)) a := by
    intro l
    induction l with
    | nil => exact fun a h => h
    | cons z t ih => exact fun a h => ih _ (Int.le_trans h (Int.le_max_left _ _))
  exact this _ 0 (Int.le_refl _)
/-- the numbers of five levels add up -/
theorem cn_cons (z : Int) (t : List Int) (d : Int) : cn (z :: t) d = (if z = d then 1 else 0) + cn t d := by
  unfold cn
  by_cases h : z = d
  · simp [List.filter_cons, h]; omega
  · simp [List.filter_cons, h]
theorem cn_five : ∀ (l : List Int), (∀ z ∈ l, 0 ≤ z ∧ z ≤ 4) → cn l 0 + cn l 1 + cn l 2 + cn l 3 + cn l 4 = l.length
  | [], _ => rfl
  | z :: t, h => by
    have ih := cn_five t (fun y hy => h y (List.mem_cons_of_mem _ hy))
    have hz := h z List.mem_cons_self
    rw [cn_cons, cn_cons, cn_cons, cn_cons, cn_cons, List.length_cons]
    have : z = 0 ∨ z = 1 ∨ z = 2 ∨ z = 3 ∨ z = 4 := by omega
    rcases this with rfl | rfl | rfl | rfl | rfl <;> simp <;> omega
theorem lvV_sum {x : CodeD} {f : Int} (h : askedB x f = true) : (lvV x f).sum = ((ofV x f).length : Int) := by
  rw [lvV_yes h, ofV_yes h, ofF_all]
  have hl : ∀ z ∈ lvls x.elems f, 0 ≤ z ∧ z ≤ 4 := by
    intro z hz
    unfold lvls at hz
    obtain ⟨y, hy, rfl⟩ := List.mem_map.1 hz
    obtain ⟨k, hk⟩ := List.getElem?_of_mem (List.mem_filter.1 hy).1
    exact (elem_of (asked_code h) hk).2.2.1
  have h5 := cn_five _ hl
  have e : cns 5 (lvls x.elems f) = [cn (lvls x.elems f) 0, cn (lvls x.elems f) 1, cn (lvls x.elems f) 2, cn (lvls x.elems f) 3, cn (lvls x.elems f) 4] := rfl
  rw [e]
  simp only [List.sum_cons, List.sum_nil]
  omega
theorem lvV_bd {x : CodeD} {f : Int} (h25 : x.elems.length ≤ 25) : ∀ z ∈ lvV x f, 0 ≤ z ∧ z ≤ 25 := by
  intro z hz
  unfold lvV at hz
  split at hz
  · unfold cns at hz
    obtain ⟨d, _, rfl⟩ := List.mem_map.1 hz
    have h1 := cn_bd (lvls x.elems f) (d : Int)
    have h2 := lvls_len x.elems f x.elems.length
    rw [List.take_length] at h2
    omega
  · cases hz
/-- a scaled element -/
theorem sc_elem {x : CodeD} {p : Int} (h : scB x p = true) {k : Nat} {y : ElemD} (hy : x.elems[k]? = some y) :
    (scV x p).elems[k]? = some (scaleE p y) ∧ (scaleE p y).name = y.name ∧ 1 ≤ (scaleE p y).base ∧ (p ≤ 100 → (scaleE p y).base ≤ y.base) ∧ (100 ≤ p → y.base ≤ (scaleE p y).base) := by
  have hs : scOk x p = true := by
    cases hq : scOk x p with
    | true => rfl
    | false => rw [scB_no hq] at h; cases h
  have hc : codeB (scaleC x p) = true := by rw [scB_yes hs] at h; exact h
  have e : scV x p = scaleC x p := by
    rw [scV_yes hs]
    unfold ifC
    rw [hc]
    rfl
  have hp := inB_true (sc_in hs)
  have hb := (elem_of (sc_code hs) hy).2.2.2
  refine ⟨by rw [e]; show (x.elems.map (scaleE p))[k]? = _; rw [List.getElem?_map, hy]; rfl, rfl, ?_, fun h1 => ?_, fun h1 => ?_⟩
  · show 1 ≤ max (y.base * p / 100) 1
    omega
  · show max (y.base * p / 100) 1 ≤ y.base
    have h2 : y.base * p ≤ y.base * 100 := Int.mul_le_mul_of_nonneg_left h1 (by omega)
    omega
  · show y.base ≤ max (y.base * p / 100) 1
    have h2 : y.base * 100 ≤ y.base * p := Int.mul_le_mul_of_nonneg_left h1 (by omega)
    omega
theorem sc_lens {x : CodeD} {p : Int} (h : scB x p = true) : (scV x p).elems.length = x.elems.length := by
  have hs : scOk x p = true := by
    cases hq : scOk x p with
    | true => rfl
    | false => rw [scB_no hq] at h; cases h
  have hc : codeB (scaleC x p) = true := by rw [scB_yes hs] at h; exact h
  rw [scV_yes hs]
  unfold ifC
  rw [hc]
  show (x.elems.map (scaleE p)).length = _
  rw [List.length_map]
theorem fe_found {x : CodeD} {s : ByteArray} (h : feOk x s = true) : ∃ (k : Nat) (y : ElemD), feV x s = (k : Int) ∧ k < x.elems.length ∧ x.elems[k]? = some y ∧ y.name = s ∧ nameB s = true := by
  rw [feV_yes h]
  unfold feOk at h
  rw [Bool.and_eq_true] at h
  rcases findV_cases x.elems s with e | ⟨k, y, e, hy, hh⟩
  · have h2 := of_decide_eq_true h.2
    omega
  · have hn : y.name = s := by
      unfold hitB at hh
      have h1 := beq_iff_eq.1 hh
      rw [ByteArray.toList_eq, ByteArray.toList_eq] at h1
      exact ByteArray.ext (Array.ext' h1)
    refine ⟨k, y, e, (List.getElem?_eq_some_iff.1 hy).1, hy, hn, ?_⟩
    rw [← hn]
    exact (elem_of h.1 hy).1
end Go.Proofs.YtkekpolfdmmgeaaGreatDoor
