/- Contracts of functions that the proof leans on. No condition. -/
import Derived.Test.YtfonfekejbmamaaDoorM671727dd40
import Derived.Deep.DeepCutAuto
/- Codes: reading a code's text, the program's side. -/
namespace Go.Proofs.YtfonfekejbmamaaDoor
set_option linter.unusedVariables false
set_option linter.unusedSimpArgs false
open Go.RowKit Go.Lib

def wnB (s : ByteArray) (n : Int) : Bool := match rdI s.data.toList with | none => false | some ns => decide ((ns.length : Int) = n)
theorem wn_post {s : ByteArray} {n : Int} {w w' : World} {e : Ending} (h : WnPost s n w e w') : ∃ v' b, e = .returned (.tuple #[.string (tx (wdS s.data.toList)), v', .bool b]) ∧ wnB s n = b ∧ OwnI w' w.heap.size v' ((rdI s.data.toList).getD []) ∧ Kept w w' := by
  obtain ⟨v', e1, h1, h2⟩ := h
  exact ⟨v', _, e1, rfl, h1, h2⟩
theorem wnB_yes {s : ByteArray} {n : Nat} (h : wnB s n = true) : ∃ ns, rdI s.data.toList = some ns ∧ ns.length = n := by
  unfold wnB at h
  cases hr : rdI s.data.toList with
  | none => rw [hr] at h; cases h
  | some ns => rw [hr] at h; exact ⟨ns, rfl, by simp at h; omega⟩
set_option maxRecDepth 100000 in
set_option maxHeartbeats 16000000 in
theorem implParseCode_any (s : ByteArray) (w : World) (hs : s.size ≤ 1048576) (hmx : HasMax w) :
    Calls Tryd.prog 26 #[.string s] w fun e w' => PcPost s w e w' := by
  have HMX := Lib.hid hmx
  clear hmx
  go_enter Tryd.func26, Tryd.ntmps26
  go_wp2_with fail
  obtain ⟨w0, hw0⟩ : ∃ x : World, x = w.alloc (.cells #[.slice none 0 0, .slice none 0 0, .int .i64 0, .int .i64 0, .int .i64 0, .int .i64 0] 41) := ⟨_, rfl⟩
  rw [← hw0]
  have B2 : Box w0 w.heap.size 41 #[.slice none 0 0, .slice none 0 0, .int .i64 0, .int .i64 0, .int .i64 0, .int .i64 0] := hw0 ▸ Box.new w _ _ _ rfl
  have K0 : Kept w w0 := hw0 ▸ (Kept.refl w).alloc _
  have sz0 : w.heap.size < w0.heap.size := by rw [hw0]; simp
  clear hw0
  have CS := Lib.hid (linesOf_any s w0 hs (HMX.out.kept K0))
  with_reducible refine CS.out.mono ?_
  clear CS
  rintro e w1 ⟨v1, rfl, hy1, hn1, k1⟩
  have K1 := K0.trans k1
  have sz1 := k1.size
  replace B2 := B2.kept k1
  clear k1
  have NO : Hid (∀ w3 w4 : World, Kept w w3 → Box w3 w.heap.size 41 #[.slice none 0 0, .slice none 0 0, .int .i64 0, .int .i64 0, .int .i64 0, .int .i64 0] → IsPC s.data.toList zeroC false → Only [w.heap.size] w3 w4 → PcPost s w (.returned (.tuple #[.agg #[.slice none 0 0, .slice none 0 0, .int .i64 0, .int .i64 0, .int .i64 0, .int .i64 0], .bool false])) w4) := Lib.hid (fun w3 w4 k b h q => PcPost.no h (q.above k (by simp)))
  cases hln : lnOk s.data.toList with
  | false =>
    have HP := Lib.hid (pc_ok hln)
    obtain rfl := hn1 hln
    clear hy1 hn1 hln
    obtain ⟨x2, y2⟩ := B2.six
    go_wp2_with fail
    clear x2 y2
    obtain ⟨w5, hw5, B5, Q5⟩ := set6 B2 (.slice none 0 0) (.slice none 0 0) (.int .i64 0) (.int .i64 0) (.int .i64 0) (.int .i64 0)
    rw [← hw5]
    clear hw5
    obtain ⟨cc, ff⟩ := B5.six
    refine bodyPost_ret (v := .tuple #[.agg #[.slice none 0 0, .slice none 0 0, .int .i64 0, .int .i64 0, .int .i64 0, .int .i64 0], .bool false]) (by simp [results, Tryd.results26, go_sem, cc, ff]) rfl ?_
    exact NO.out _ _ K1 B2 HP.out Q5
  | true =>
  have o1 := hy1 hln
  have HOK := Lib.hid hln
  clear hy1 hn1 hln
  have HS := Lib.hid o1.strs
  obtain ⟨A1, c1, rfl, hn1, hm1, _⟩ := own_form o1.1
  unfold maxLen at hm1
  clear o1
  have hle := lnsB_le s
  go_wp2_with fail
  refine (within_any _ _ _ _).mono ?_
  rintro e w1' ⟨rfl, rfl⟩
  cases hin : inB ((lnsB s).length : Int) 3 26 with
  | false =>
    have HP : Hid (IsPC s.data.toList zeroC false) := Lib.hid (pc_len (by
      by_cases h : (lnsB s).length < 3
      · exact .inl h
      · refine .inr (Nat.lt_of_not_le fun h2 => ?_)
        rw [inB_of (by omega) (by omega)] at hin
        cases hin))
    clear hin
    obtain ⟨x2, y2⟩ := B2.six
    go_wp2_with fail
    clear x2 y2
    obtain ⟨w5, hw5, B5, Q5⟩ := set6 B2 (.slice none 0 0) (.slice none 0 0) (.int .i64 0) (.int .i64 0) (.int .i64 0) (.int .i64 0)
    rw [← hw5]
    clear hw5
    obtain ⟨cc, ff⟩ := B5.six
    refine bodyPost_ret (v := .tuple #[.agg #[.slice none 0 0, .slice none 0 0, .int .i64 0, .int .i64 0, .int .i64 0, .int .i64 0], .bool false]) (by simp [results, Tryd.results26, go_sem, cc, ff]) rfl ?_
    exact NO.out _ _ K1 B2 HP.out Q5
  | true =>
  have hin' := inB_true hin
  clear hin
  obtain ⟨z0, z1, rest, hln⟩ : ∃ z0 z1 rest, lnsB s = z0 :: z1 :: rest := by
    match h : lnsB s with
    | [] => rw [h] at hin'; simp at hin'
    | [a] => rw [h] at hin'; simp at hin'
    | a :: b :: t => exact ⟨a, b, t, rfl⟩
  have HLN := Lib.hid hln
  have hlen : (lnsB s).length = rest.length + 2 := by rw [hln]; simp
  have HSZ : Hid (∀ z ∈ lnsB s, z.size ≤ 1048576) := Lib.hid (fun z hz => Nat.le_trans (lnsB_sz hz) hs)
  have hz0 : z0.size ≤ 1048576 := HSZ.out z0 (by rw [hln]; simp)
  have hz1 : z1.size ≤ 1048576 := HSZ.out z1 (by rw [hln]; simp)
  clear hln
  obtain ⟨g1, i1, y0, rfl, hg1, hy0, hc0⟩ := strs_at (k := 0) HS.out.1.addr (by omega)
  obtain ⟨g1', i1', y1, e1, _, hy1, hc1⟩ := strs_at (k := 1) HS.out.1.addr (by omega)
  cases e1
  rw [HLN.out] at hy0 hy1
  obtain rfl : z0 = y0 := by simpa using hy0
  obtain rfl : z1 = y1 := by simpa using hy1
  clear hy0 hy1
  rw [Nat.add_zero] at hc0
  rw [hlen] at hn1 hin' ⊢
  have HLEN := Lib.hid hlen
  clear hlen hle
  have hr1 : 1 ≤ rest.length := by omega
  have hr24 : rest.length ≤ 24 := by omega
  have hL0 : (0 : Int) < (rest.length : Int) + 2 := by omega
  have hL1 : (1 : Int) < (rest.length : Int) + 2 := by omega
  go_wp2_with fail
  have CS := Lib.hid (wordsAndNumbers_any z0 4 w1 hz0 (HMX.out.kept K1))
  with_reducible refine CS.out.mono ?_
  clear CS
  rintro e w2 hwn
  obtain ⟨v2, b0, rfl, hb0, o2, k2⟩ := wn_post hwn
  clear hwn
  have hc1' : w2.cell? ⟨g1, i1 + 1, none⟩ = some (.string z1) := (k2.cell (by exact hg1)).trans hc1
  have K2 := K1.trans k2
  have sz2 := k2.size
  replace B2 := B2.kept k2
  obtain ⟨A2, c2, rfl, hn2, hm2, _⟩ := own_form o2
  have O2 := Lib.hid o2
  clear o2 hc0 hc1
  have HB0 := Lib.hid hb0
  clear hb0
  go_wp2_with fail
  have CS := Lib.hid (wordsAndNumbers_any z1 5 w2 hz1 (HMX.out.kept K2))
  with_reducible refine CS.out.mono ?_
  clear CS
  rintro e w3 hwn
  obtain ⟨v3, b1, rfl, hb1, o3, k3⟩ := wn_post hwn
  clear hwn
  have K3 := K2.trans k3
  have sz3 := k3.size
  replace B2 := B2.kept k3
  obtain ⟨A3, c3, rfl, hn3, hm3, _⟩ := own_form o3
  have O3 := Lib.hid o3
  clear o3 hc1'
  have HB1 := Lib.hid hb1
  clear hb1
  cases b0 with
  | false =>
    have HP := Lib.hid (pcI_rep HLN.out HB0.out)
    obtain ⟨x2, y2⟩ := B2.six
    go_wp2_with fail
    clear x2 y2
    obtain ⟨w5, hw5, B5, Q5⟩ := set6 B2 (.slice none 0 0) (.slice none 0 0) (.int .i64 0) (.int .i64 0) (.int .i64 0) (.int .i64 0)
    rw [← hw5]
    clear hw5
    obtain ⟨cc, ff⟩ := B5.six
    refine bodyPost_ret (v := .tuple #[.agg #[.slice none 0 0, .slice none 0 0, .int .i64 0, .int .i64 0, .int .i64 0, .int .i64 0], .bool false]) (by simp [results, Tryd.results26, go_sem, cc, ff]) rfl ?_
    exact NO.out _ _ K3 B2 HP.out Q5
  | true =>
  cases b1 with
  | false =>
    have HP := Lib.hid (pcI_lim HLN.out HB1.out)
    obtain ⟨x2, y2⟩ := B2.six
    go_wp2_with fail
    clear x2 y2
    obtain ⟨w5, hw5, B5, Q5⟩ := set6 B2 (.slice none 0 0) (.slice none 0 0) (.int .i64 0) (.int .i64 0) (.int .i64 0) (.int .i64 0)
    rw [← hw5]
    clear hw5
    obtain ⟨cc, ff⟩ := B5.six
    refine bodyPost_ret (v := .tuple #[.agg #[.slice none 0 0, .slice none 0 0, .int .i64 0, .int .i64 0, .int .i64 0, .int .i64 0], .bool false]) (by simp [results, Tryd.results26, go_sem, cc, ff]) rfl ?_
    exact NO.out _ _ K3 B2 HP.out Q5
  | true =>
  by_cases hw0 : wdS z0.data.toList = codeW
  case neg =>
    have HP := Lib.hid (pcI_w0 HLN.out hw0)
    have hq : ((tx (wdS z0.data.toList)).toList == [99, 111, 100, 101]) = false := beq_eq_false_iff_ne.2 (fun e => hw0 (by rw [toList_data, tx_data] at e; exact e))
    clear hw0
    obtain ⟨x2, y2⟩ := B2.six
    go_wp2_with fail
    clear x2 y2
    obtain ⟨w5, hw5, B5, Q5⟩ := set6 B2 (.slice none 0 0) (.slice none 0 0) (.int .i64 0) (.int .i64 0) (.int .i64 0) (.int .i64 0)
    rw [← hw5]
    clear hw5
    obtain ⟨cc, ff⟩ := B5.six
    refine bodyPost_ret (v := .tuple #[.agg #[.slice none 0 0, .slice none 0 0, .int .i64 0, .int .i64 0, .int .i64 0, .int .i64 0], .bool false]) (by simp [results, Tryd.results26, go_sem, cc, ff]) rfl ?_
    exact NO.out _ _ K3 B2 HP.out Q5
  by_cases hw1 : wdS z1.data.toList = limitsW
  case neg =>
    have HP := Lib.hid (pcI_w1 HLN.out hw1)
    have hq : ((tx (wdS z1.data.toList)).toList == [108, 105, 109, 105, 116, 115]) = false := beq_eq_false_iff_ne.2 (fun e => hw1 (by rw [toList_data, tx_data] at e; exact e))
    have hq0 : tx (wdS z0.data.toList) = ⟨#[99, 111, 100, 101]⟩ := by rw [hw0]; rfl
    rw [hq0]
    clear hw1 hw0 hq0
    obtain ⟨x2, y2⟩ := B2.six
    go_wp2_with fail
    clear x2 y2
    obtain ⟨w5, hw5, B5, Q5⟩ := set6 B2 (.slice none 0 0) (.slice none 0 0) (.int .i64 0) (.int .i64 0) (.int .i64 0) (.int .i64 0)
    rw [← hw5]
    clear hw5
    obtain ⟨cc, ff⟩ := B5.six
    refine bodyPost_ret (v := .tuple #[.agg #[.slice none 0 0, .slice none 0 0, .int .i64 0, .int .i64 0, .int .i64 0, .int .i64 0], .bool false]) (by simp [results, Tryd.results26, go_sem, cc, ff]) rfl ?_
    exact NO.out _ _ K3 B2 HP.out Q5
  have HW0 := Lib.hid hw0
  have HW1 := Lib.hid hw1
  have hq0 : tx (wdS z0.data.toList) = ⟨#[99, 111, 100, 101]⟩ := by rw [hw0]; rfl
  have hq1 : tx (wdS z1.data.toList) = ⟨#[108, 105, 109, 105, 116, 115]⟩ := by rw [hw1]; rfl
  rw [hq0, hq1]
  clear hq0 hq1 hw0 hw1
  obtain ⟨ns0, hr0, hl0⟩ := wnB_yes (n := 4) HB0.out
  obtain ⟨ns1, hr1', hl1⟩ := wnB_yes (n := 5) HB1.out
  rw [hr0, Option.getD_some] at O2 hn2 ⊢
  rw [hr1', Option.getD_some] at O3 hn3 ⊢
  obtain ⟨n0, n1, n2, n3, hns⟩ : ∃ n0 n1 n2 n3, ns0 = [n0, n1, n2, n3] := ⟨_, _, _, _, list4 hl0⟩
  obtain ⟨CC, hCC, hCE, rfl, rfl, rfl, rfl, rfl⟩ : ∃ CC : CodeD, mkC (rest.map elI) ns1 ns0 = CC ∧ CC.elems = rest.map elI ∧ CC.limits = ns1 ∧ CC.repeats = n0 ∧ CC.bonus = n1 ∧ CC.keeps = n2 ∧ CC.fall = n3 := ⟨_, rfl, rfl, rfl, by rw [hns]; rfl, by rw [hns]; rfl, by rw [hns]; rfl, by rw [hns]; rfl⟩
  have HCC := Lib.hid hCC
  have HCE := Lib.hid hCE
  have HR0 := Lib.hid hr0
  have HR1 := Lib.hid hr1'
  have HL0 := Lib.hid hl0
  rw [hns] at O2 hn2 ⊢
  have HA2 := Lib.hid O2.out.ints
  clear hCC hCE hr0 hr1' hl0 hl1 hns HB0 HB1
  obtain ⟨g2, j2, y, rfl, hg2, hy, hd0⟩ := ints_at (k := 0) HA2.out.addr (by simp)
  obtain rfl : CC.repeats = y := by simpa using hy
  obtain ⟨g2', j2', y, e1, _, hy, hd1⟩ := ints_at (k := 1) HA2.out.addr (by simp)
  cases e1
  obtain rfl : CC.bonus = y := by simpa using hy
  obtain ⟨g2', j2', y, e1, _, hy, hd2⟩ := ints_at (k := 2) HA2.out.addr (by simp)
  cases e1
  obtain rfl : CC.keeps = y := by simpa using hy
  obtain ⟨g2', j2', y, e1, _, hy, hd3⟩ := ints_at (k := 3) HA2.out.addr (by simp)
  cases e1
  obtain rfl : CC.fall = y := by simpa using hy
  rw [Nat.add_zero] at hd0
  simp only [List.length_cons, List.length_nil, Nat.zero_add, Nat.reduceAdd] at hn2 ⊢
  have HW : Hid (∀ w' : World, Kept w3 w' → w'.cell? ⟨g2, j2, none⟩ = some (.int .i64 CC.repeats) ∧ w'.cell? ⟨g2, j2 + 1, none⟩ = some (.int .i64 CC.bonus) ∧ w'.cell? ⟨g2, j2 + 2, none⟩ = some (.int .i64 CC.keeps) ∧ w'.cell? ⟨g2, j2 + 3, none⟩ = some (.int .i64 CC.fall)) := Lib.hid (fun w' k => by
    refine ⟨?_, ?_, ?_, ?_⟩
    · rw [(k3.trans k).cell (by exact hg2), hd0]
    · rw [(k3.trans k).cell (by exact hg2), hd1]
    · rw [(k3.trans k).cell (by exact hg2), hd2]
    · rw [(k3.trans k).cell (by exact hg2), hd3])
  clear hd0 hd1 hd2 hd3 hy
  have hh3 : w.heap.size < w3.heap.size := B2.lt
  have HB2 := Lib.hid B2
  have HK3 := Lib.hid K3
  have k23 := k2.trans k3
  have HFL : Hid (∀ b ∈ fp (.slice A3 CC.limits.length c3), w2.heap.size ≤ b ∧ b < w3.heap.size) := Lib.hid (own_fp O3.out)
  have MK : Hid (∀ (w4 w9 : World) (bb ge : Nat), Kept w3 w4 → Only [bb] w4 w9 → w3.heap.size ≤ bb → w3.heap.size ≤ ge → ge ≠ bb → Box w9 bb 41 #[.slice (some ⟨ge, 0, none⟩) 0 0, .slice A3 CC.limits.length c3, .int .i64 CC.repeats, .int .i64 CC.bonus, .int .i64 CC.keeps, .int .i64 CC.fall] → Box w4 ge 83 #[] →
      CdSt [bb, ge] w.heap.size bb w.heap.size CC w9 w9 0 (.slice (some ⟨ge, 0, none⟩) 0 0) (.slice A3 CC.limits.length c3) ∧ Kept w3 w9) := Lib.hid (fun w4 w9 bb ge k q hb hge hne b9 be => by
    have k9 : Kept w3 w9 := q.above k (fun x hx => by rw [List.mem_singleton] at hx; omega)
    have s9 := k9.size
    have s4 := k.size
    have be9 := be.only q (fun hm => by rw [List.mem_singleton] at hm; exact hne hm)
    refine ⟨⟨HB2.out.kept k9, b9, ?_, own_base ((O3.out.kept k).only q (fun b h => by have := HFL.out b h; rw [List.mem_singleton]; omega)) (by omega), fun b h h' => ?_, Only.refl _ _, by simp, by omega, fun b h => ?_, fun b h => ?_, by omega⟩, k9⟩
    · rw [List.take_zero]
      exact ⟨own_made ge _ 4 (by omega) be9, fun _ h => by cases h⟩
    · rw [fp_some, List.mem_singleton] at h
      have := HFL.out b h'
      simp only at h
      omega
    · rw [fp_some, List.mem_singleton] at h
      simp only at h
      subst h
      exact ⟨.inl (by simp), hne, by omega⟩
    · have := HFL.out b h
      exact ⟨by omega, by omega, by omega⟩)
  clear B2
  go_upto_region 8 with (fail)
  go_cut [12] (fun s12 wx => ∃ (bb ge : Nat), s12 = .pointer (some ⟨bb, 0, none⟩) ∧ CdSt [bb, ge] w.heap.size bb w.heap.size CC wx wx 0 (.slice (some ⟨ge, 0, none⟩) 0 0) (.slice A3 CC.limits.length c3) ∧ Kept w3 wx ∧ w3.heap.size ≤ bb ∧ w3.heap.size ≤ ge)
  case first =>
    refine region_pop (S := fun w' => w'.cell? ⟨g2, j2, none⟩ = some (.int .i64 CC.repeats) ∧ w'.cell? ⟨g2, j2 + 1, none⟩ = some (.int .i64 CC.bonus) ∧ w'.cell? ⟨g2, j2 + 2, none⟩ = some (.int .i64 CC.keeps) ∧ w'.cell? ⟨g2, j2 + 3, none⟩ = some (.int .i64 CC.fall)) 16 (by kernel_rfl) (by kernel_rfl) ?_
    simp only [List.take_succ_cons, List.take_zero, List.drop_succ_cons, List.drop_zero]
    refine startL (HW.out _ (Kept.refl w3).drew) (fun hS0 => ?_)
    obtain ⟨wd, hwd⟩ : ∃ x : World, x = w3.drew := ⟨_, rfl⟩
    rw [← hwd] at hS0 ⊢
    have kd : Kept w3 wd := hwd ▸ (Kept.refl w3).drew
    have szd := kd.size
    clear hwd
    refine takeL (i := 1) (v := ?_) rfl (by kernel_rfl) (by kernel_rfl) (by kernel_rfl) (fun _ _ _ h => h) (Or.inl ⟨by rfl, ?_⟩) hS0 ?_
    rotate_left 1
    · (intro w hSw; (try dsimp only at hSw); go_simp; try with_reducible rfl)
    try simp only [Act.put, List.setIfInBounds_toArray, List.set_cons_zero, List.set_cons_succ]
    refine takeL (i := 2) (v := ?_) rfl (by kernel_rfl) (by kernel_rfl) (by kernel_rfl) (fun _ _ _ h => h) (Or.inl ⟨by rfl, ?_⟩) hS0 ?_
    rotate_left 1
    · (intro w hSw; (try dsimp only at hSw); go_simp; try with_reducible rfl)
    try simp only [Act.put, List.setIfInBounds_toArray, List.set_cons_zero, List.set_cons_succ]
    refine takeL (i := 3) (v := ?_) rfl (by kernel_rfl) (by kernel_rfl) (by kernel_rfl) (fun _ _ _ h => h) (Or.inl ⟨by rfl, ?_⟩) hS0 ?_
    rotate_left 1
    · (intro w hSw; (try dsimp only at hSw); go_simp; try with_reducible rfl)
    try simp only [Act.put, List.setIfInBounds_toArray, List.set_cons_zero, List.set_cons_succ]
    refine takeL (i := 4) (v := ?_) rfl (by kernel_rfl) (by kernel_rfl) (by kernel_rfl) (fun _ _ _ h => h) (Or.inl ⟨by rfl, ?_⟩) hS0 ?_
    rotate_left 1
    · (intro w hSw; (try dsimp only at hSw); go_simp; try with_reducible rfl)
    try simp only [Act.put, List.setIfInBounds_toArray, List.set_cons_zero, List.set_cons_succ]
    refine takeL (i := 5) (v := ?_) rfl (by kernel_rfl) (by kernel_rfl) (by kernel_rfl) (fun _ _ _ h => h) (Or.inl ⟨by rfl, ?_⟩) hS0 ?_
    rotate_left 1
    · (intro w hSw; (try dsimp only at hSw); go_simp; try with_reducible rfl)
    try simp only [Act.put, List.setIfInBounds_toArray, List.set_cons_zero, List.set_cons_succ]
    refine takeL (i := 6) (v := ?_) rfl (by kernel_rfl) (by kernel_rfl) (by kernel_rfl) (fun _ _ _ h => h) (Or.inl ⟨by rfl, ?_⟩) hS0 ?_
    rotate_left 1
    · (intro w hSw; (try dsimp only at hSw); go_simp; try with_reducible rfl)
    try simp only [Act.put, List.setIfInBounds_toArray, List.set_cons_zero, List.set_cons_succ]
    refine takeL (i := 7) (v := ?_) rfl (by kernel_rfl) (by kernel_rfl) (by kernel_rfl) (fun _ _ _ h => h) (Or.inl ⟨by rfl, ?_⟩) hS0 ?_
    rotate_left 1
    · (intro w hSw; (try dsimp only at hSw); go_simp; try with_reducible rfl)
    try simp only [Act.put, List.setIfInBounds_toArray, List.set_cons_zero, List.set_cons_succ]
    refine takeL (i := 8) (v := ?_) rfl (by kernel_rfl) (by kernel_rfl) (by kernel_rfl) (fun _ _ _ h => h) (Or.inl ⟨by rfl, ?_⟩) hS0 ?_
    rotate_left 1
    · (intro w hSw; (try dsimp only at hSw); go_simp; try with_reducible rfl)
    try simp only [Act.put, List.setIfInBounds_toArray, List.set_cons_zero, List.set_cons_succ]
    refine takeL (i := 9) (v := ?_) rfl (by kernel_rfl) (by kernel_rfl) (by kernel_rfl) (fun _ _ _ h => h) (Or.inl ⟨by rfl, ?_⟩) hS0 ?_
    rotate_left 1
    · (intro w hSw; (try dsimp only at hSw); go_simp; try with_reducible rfl)
    try simp only [Act.put, List.setIfInBounds_toArray, List.set_cons_zero, List.set_cons_succ]
    refine takeL (i := 10) (v := ?_) rfl (by kernel_rfl) (by kernel_rfl) (by kernel_rfl) (fun _ _ _ h => h) (Or.inl ⟨by rfl, ?_⟩) hS0 ?_
    rotate_left 1
    · (intro w hSw; (try dsimp only at hSw); go_simp; try with_reducible rfl)
    try simp only [Act.put, List.setIfInBounds_toArray, List.set_cons_zero, List.set_cons_succ]
    refine takeL (i := 11) (v := ?_) rfl (by kernel_rfl) (by kernel_rfl) (by kernel_rfl) (fun _ _ _ h => h) (Or.inl ⟨by rfl, ?_⟩) hS0 ?_
    rotate_left 1
    · (intro w hSw; (try dsimp only at hSw); go_simp; try with_reducible rfl)
    try simp only [Act.put, List.setIfInBounds_toArray, List.set_cons_zero, List.set_cons_succ]
    refine takeL (i := 12) (v := ?_) rfl (by kernel_rfl) (by kernel_rfl) (by kernel_rfl) (fun _ _ _ h => h) (Or.inl ⟨by rfl, ?_⟩) hS0 ?_
    rotate_left 1
    · (intro w hSw; (try dsimp only at hSw); go_simp; try with_reducible rfl)
    try simp only [Act.put, List.setIfInBounds_toArray, List.set_cons_zero, List.set_cons_succ]
    refine takeL (i := 13) (v := ?_) rfl (by kernel_rfl) (by kernel_rfl) (by kernel_rfl) (fun _ _ _ h => h) (Or.inl ⟨by rfl, ?_⟩) hS0 ?_
    rotate_left 1
    · (intro w hSw; (try dsimp only at hSw); go_simp; try with_reducible rfl)
    try simp only [Act.put, List.setIfInBounds_toArray, List.set_cons_zero, List.set_cons_succ]
    refine readyL (rs := [0, 15]) (by kernel_rfl) (by simp) ?_
    refine consL (i := 0) rfl (fun K hK => ?_) (consL (i := 15) rfl (fun K hK => ?_) (allNil))
    ·
      go_simp
      obtain ⟨we, hwe⟩ : ∃ x : World, x = wd.alloc (.cells #[] 83) := ⟨_, rfl⟩
      rw [← hwe]
      have Be : Box we wd.heap.size 83 #[] := hwe ▸ Box.new wd _ _ _ rfl
      have ke : Kept w3 we := hwe ▸ kd.alloc _
      have kwe : Kept wd we := hwe ▸ (Kept.refl wd).alloc _
      have sze : wd.heap.size < we.heap.size := Be.lt
      clear hwe
      refine hK.out _ _ (HW.out _ ke) (fun hS1 => ?_)
      clear hK K hS0
      try simp only [Act.put, List.setIfInBounds_toArray, List.set_cons_zero, List.set_cons_succ]
      refine takeL (i := 14) (v := ?_) rfl (by kernel_rfl) (by kernel_rfl) (by kernel_rfl) (fun _ _ _ h => h) (Or.inl ⟨by rfl, ?_⟩) hS1 ?_
      rotate_left 1
      · (intro w hSw; (try dsimp only at hSw); go_simp; try with_reducible rfl)
      try simp only [Act.put, List.setIfInBounds_toArray, List.set_cons_zero, List.set_cons_succ]
      refine onlyL (i := 15) rfl (by kernel_rfl) (fun K hK => ?_)
      go_simp
      obtain ⟨wa, hwa⟩ : ∃ x : World, x = we.alloc (.cells #[.slice none 0 0, .slice none 0 0, .int .i64 0, .int .i64 0, .int .i64 0, .int .i64 0] 41) := ⟨_, rfl⟩
      rw [← hwa]
      have Ba : Box wa we.heap.size 41 #[.slice none 0 0, .slice none 0 0, .int .i64 0, .int .i64 0, .int .i64 0, .int .i64 0] := hwa ▸ Box.new we _ _ _ rfl
      have ka : Kept w3 wa := hwa ▸ ke.alloc _
      have kwa : Kept we wa := hwa ▸ (Kept.refl we).alloc _
      have sza : we.heap.size < wa.heap.size := Ba.lt
      clear hwa
      refine hK.out _ _ (HW.out _ ka) (fun hS2 => ?_)
      clear hK K hS1
      try simp only [Act.put, List.setIfInBounds_toArray, List.set_cons_zero, List.set_cons_succ]
      refine doneL (by kernel_rfl) ?_
      clear hS2
      obtain ⟨x4, y4⟩ := Ba.six
      go_wp2_with fail
      clear x4 y4
      obtain ⟨w9, hw9, B9, Q9⟩ := set6 Ba (.slice (some ⟨wd.heap.size, 0, none⟩) 0 0) (.slice A3 CC.limits.length c3) (.int .i64 CC.repeats) (.int .i64 CC.bonus) (.int .i64 CC.keeps) (.int .i64 CC.fall)
      rw [← hw9]
      clear hw9
      go_meet
      obtain ⟨h1, h2⟩ := MK.out wa w9 we.heap.size wd.heap.size ka Q9 (by omega) (by omega) (by omega) B9 (Be.kept kwa)
      exact ⟨_, _, rfl, h1, h2, by omega, by omega⟩
    ·
      go_simp
      obtain ⟨wa, hwa⟩ : ∃ x : World, x = wd.alloc (.cells #[.slice none 0 0, .slice none 0 0, .int .i64 0, .int .i64 0, .int .i64 0, .int .i64 0] 41) := ⟨_, rfl⟩
      rw [← hwa]
      have Ba : Box wa wd.heap.size 41 #[.slice none 0 0, .slice none 0 0, .int .i64 0, .int .i64 0, .int .i64 0, .int .i64 0] := hwa ▸ Box.new wd _ _ _ rfl
      have ka : Kept w3 wa := hwa ▸ kd.alloc _
      have kwa : Kept wd wa := hwa ▸ (Kept.refl wd).alloc _
      have sza : wd.heap.size < wa.heap.size := Ba.lt
      clear hwa
      refine hK.out _ _ (HW.out _ ka) (fun hS3 => ?_)
      clear hK K hS0
      try simp only [Act.put, List.setIfInBounds_toArray, List.set_cons_zero, List.set_cons_succ]
      refine onlyL (i := 0) rfl (by kernel_rfl) (fun K hK => ?_)
      go_simp
      obtain ⟨we, hwe⟩ : ∃ x : World, x = wa.alloc (.cells #[] 83) := ⟨_, rfl⟩
      rw [← hwe]
      have Be : Box we wa.heap.size 83 #[] := hwe ▸ Box.new wa _ _ _ rfl
      have ke : Kept w3 we := hwe ▸ ka.alloc _
      have kwe : Kept wa we := hwe ▸ (Kept.refl wa).alloc _
      have sze : wa.heap.size < we.heap.size := Be.lt
      clear hwe
      refine hK.out _ _ (HW.out _ ke) (fun hS4 => ?_)
      clear hK K hS3
      try simp only [Act.put, List.setIfInBounds_toArray, List.set_cons_zero, List.set_cons_succ]
      refine takeL (i := 14) (v := ?_) rfl (by kernel_rfl) (by kernel_rfl) (by kernel_rfl) (fun _ _ _ h => h) (Or.inl ⟨by rfl, ?_⟩) hS4 ?_
      rotate_left 1
      · (intro w hSw; (try dsimp only at hSw); go_simp; try with_reducible rfl)
      try simp only [Act.put, List.setIfInBounds_toArray, List.set_cons_zero, List.set_cons_succ]
      have Bb := Ba.kept kwe
      refine doneL (by kernel_rfl) ?_
      clear hS4
      obtain ⟨x4, y4⟩ := Bb.six
      go_wp2_with fail
      clear x4 y4
      obtain ⟨w9, hw9, B9, Q9⟩ := set6 Bb (.slice (some ⟨wa.heap.size, 0, none⟩) 0 0) (.slice A3 CC.limits.length c3) (.int .i64 CC.repeats) (.int .i64 CC.bonus) (.int .i64 CC.keeps) (.int .i64 CC.fall)
      rw [← hw9]
      clear hw9
      go_meet
      obtain ⟨h1, h2⟩ := MK.out we w9 wd.heap.size wa.heap.size ke Q9 (by omega) (by omega) (by omega) B9 Be
      exact ⟨_, _, rfl, h1, h2, by omega, by omega⟩
  case rest =>
    clear MK HW HA2 O2 HB2
    obtain ⟨bb, ge, rfl, hst0, kx, hbb, hge⟩ := hcut
    have HST0 := Lib.hid hst0
    clear hst0
    have hr3 : rest.length + 2 - 2 = rest.length := by omega
    have HEL : Hid (CC.elems.length = rest.length) := Lib.hid (by rw [HCE.out]; simp)
    go_wp2_with fail
    try rw [hr3]
    clear hr3
    go_loopw [81] (fun i wr => ∃ (k : Nat) (ev : Value), k ≤ rest.length ∧ i = .int .i64 k ∧ (∀ z ∈ rest.take k, ∃ ns, rdI z.data.toList = some ns ∧ ns.length = 3) ∧ CdSt [bb, ge] w.heap.size bb w.heap.size CC wc wr k ev (.slice A3 CC.limits.length c3)) (fun i _ => rest.length - (RowKit.intOf i).toNat)
    case atStart => exact ⟨0, _, Nat.zero_le _, rfl, (fun z hz => by cases hz), HST0.out⟩
    case round =>
      clear HST0
      obtain ⟨k, ev, hk, rfl, hrk, hst⟩ := hrel
      have HRR := Lib.hid hrk
      clear hrk
      obtain ⟨Ae, ce, rfl, _⟩ := own_form hst.elems.1
      have hkk : (CC.elems.take k).length = k := by rw [List.length_take, HEL.out]; omega
      rw [hkk] at hst
      have HKK := Lib.hid hkk
      clear hkk
      have KR : Kept w3 wr := hst.only.above kx (fun x hx => by simp only [List.mem_cons, List.not_mem_nil, or_false] at hx; omega)
      have HST := Lib.hid hst
      clear hst
      by_cases hlt : k < rest.length
      · obtain ⟨gz, iz, z, e1, hgz, hz, hx⟩ := strs_at (k := k + 2) (HS.out.kept (k23.trans KR)).1.addr (by rw [HLEN.out]; omega)
        cases e1
        have hi2 : i1 + (k + 2) = i1 + 2 + k := by omega
        rw [hi2] at hx
        clear hi2
        have hz' : rest[k]? = some z := by
          rw [HLN.out, List.getElem?_cons_succ, List.getElem?_cons_succ] at hz
          exact hz
        have hzm : z ∈ rest := List.mem_of_getElem? hz'
        have hzs : z.size ≤ 1048576 := HSZ.out z (List.mem_of_getElem? hz)
        have HSN : Hid (CC.elems.take (k + 1) = CC.elems.take k ++ [elI z]) := Lib.hid (by rw [HCE.out]; exact elI_snoc hz')
        have HTK : Hid (rest.take (k + 1) = rest.take k ++ [z]) := Lib.hid (take_snoc hz')
        have HZM := Lib.hid hzm
        clear hz hz' hzm
        go_wp2_with fail
        have CS := Lib.hid (wordsAndNumbers_any z 3 wr hzs (HMX.out.kept (HK3.out.trans KR)))
        with_reducible refine CS.out.mono ?_
        clear CS
        rintro e w4 hwn
        obtain ⟨v4, b2, rfl, hb2, o4, k4⟩ := wn_post hwn
        clear hwn
        obtain ⟨A4, c4, rfl, hn4, hm4, _⟩ := own_form o4
        clear hx
        cases b2 with
        | false =>
          have HP := Lib.hid (pcI_el HLN.out HZM.out hb2)
          have B2 := HST.out.hbox.kept k4
          clear hb2 o4
          obtain ⟨x2, y2⟩ := B2.six
          go_wp2_with fail
          clear x2 y2
          obtain ⟨w5, hw5, B5, Q5⟩ := set6 B2 (.slice none 0 0) (.slice none 0 0) (.int .i64 0) (.int .i64 0) (.int .i64 0) (.int .i64 0)
          rw [← hw5]
          clear hw5
          obtain ⟨cc, ff⟩ := B5.six
          refine bodyPost_ret (v := .tuple #[.agg #[.slice none 0 0, .slice none 0 0, .int .i64 0, .int .i64 0, .int .i64 0, .int .i64 0], .bool false]) (by simp [results, Tryd.results26, go_sem, cc, ff]) rfl ?_
          exact NO.out _ _ (HK3.out.trans (KR.trans k4)) B2 HP.out Q5
        | true =>
        obtain ⟨ns, hrn, hln⟩ := wnB_yes (n := 3) hb2
        have HRK : Hid (∀ y ∈ rest.take (k + 1), ∃ ns, rdI y.data.toList = some ns ∧ ns.length = 3) := Lib.hid (fun y hy => by
          rw [HTK.out] at hy
          rcases List.mem_append.1 hy with hy | hy
          · exact HRR.out y hy
          · rw [List.mem_singleton] at hy; subst hy; exact ⟨ns, hrn, hln⟩)
        obtain ⟨n0, n1, n2, hns⟩ : ∃ n0 n1 n2, ns = [n0, n1, n2] := ⟨_, _, _, list3 hln⟩
        subst hns
        have HES : Hid (elI z = ElemD.mk (tx (wdS z.data.toList)) n0 n1 n2) := Lib.hid (by rw [elI_of hrn]; rfl)
        rw [hrn, Option.getD_some] at o4 hn4 ⊢
        have O4 := Lib.hid o4
        have HA4 := Lib.hid o4.ints
        have HG4 : Hid (∀ b ∈ fp (.slice A4 [n0, n1, n2].length c4), wr.heap.size ≤ b ∧ b < w4.heap.size) := Lib.hid (own_fp o4)
        clear hrn hln hb2 o4
        obtain ⟨g4, j4, y, rfl, hg4, hy, hd0⟩ := ints_at (k := 0) HA4.out.addr (by simp)
        obtain rfl : n0 = y := by simpa using hy
        obtain ⟨g4', j4', y, e1, _, hy, hd1⟩ := ints_at (k := 1) HA4.out.addr (by simp)
        cases e1
        obtain rfl : n1 = y := by simpa using hy
        obtain ⟨g4', j4', y, e1, _, hy, hd2⟩ := ints_at (k := 2) HA4.out.addr (by simp)
        cases e1
        obtain rfl : n2 = y := by simpa using hy
        rw [Nat.add_zero] at hd0
        simp only [List.length_cons, List.length_nil, Nat.zero_add, Nat.reduceAdd] at hn4 ⊢
        have hgw : wr.heap.size ≤ g4 := (HG4.out g4 (by simp [fp_some])).1
        have hz0s : (tx (wdS z.data.toList)).size ≤ maxLen := by
          obtain ⟨z0, t, hsp, hzw, _⟩ := spB_words z
          have := spB_sz (b := 32) (t := z) (z := z0) (by rw [hsp]; exact List.mem_cons_self)
          rw [← hzw, tx_of]
          unfold maxLen
          omega
        clear hy
        have hbl := HST.out.bbox.lt
        have HB : Hid (∀ w' : World, Box w' bb 41 #[.slice Ae k ce, .slice A3 CC.limits.length c3, .int .i64 CC.repeats, .int .i64 CC.bonus, .int .i64 CC.keeps, .int .i64 CC.fall] → (∀ i, w'.cell? ⟨g4, i, none⟩ = w4.cell? ⟨g4, i, none⟩) → w'.cell? ⟨bb, 0, none⟩ = some (.slice Ae k ce) ∧ w'.cell? ⟨g4, j4, none⟩ = some (.int .i64 n0) ∧ w'.cell? ⟨g4, j4 + 1, none⟩ = some (.int .i64 n1) ∧ w'.cell? ⟨g4, j4 + 2, none⟩ = some (.int .i64 n2)) := Lib.hid (fun w' b hq => ⟨b.cell 0, (hq _).trans hd0, (hq _).trans hd1, (hq _).trans hd2⟩)
        have HW3 : Hid (∀ w' : World, Kept w4 w' → w'.cell? ⟨bb, 0, none⟩ = some (.slice Ae k ce) ∧ w'.cell? ⟨g4, j4, none⟩ = some (.int .i64 n0) ∧ w'.cell? ⟨g4, j4 + 1, none⟩ = some (.int .i64 n1) ∧ w'.cell? ⟨g4, j4 + 2, none⟩ = some (.int .i64 n2)) := Lib.hid (fun w' k' => HB.out w' (HST.out.bbox.kept (k4.trans k')) (fun i => k'.cell (by exact hg4)))
        clear hd0 hd1 hd2
        go_upto_region 15 with (fail)
        refine region_pop (S := fun w' => w'.cell? ⟨bb, 0, none⟩ = some (.slice Ae k ce) ∧ w'.cell? ⟨g4, j4, none⟩ = some (.int .i64 n0) ∧ w'.cell? ⟨g4, j4 + 1, none⟩ = some (.int .i64 n1) ∧ w'.cell? ⟨g4, j4 + 2, none⟩ = some (.int .i64 n2)) 16 (by kernel_rfl) (by kernel_rfl) ?_
        simp only [List.take_succ_cons, List.take_zero, List.drop_succ_cons, List.drop_zero]
        refine startL (HW3.out _ (Kept.refl w4).drew) (fun hS0 => ?_)
        obtain ⟨wd, hwd⟩ : ∃ x : World, x = w4.drew := ⟨_, rfl⟩
        rw [← hwd] at hS0 ⊢
        have kd : Kept w4 wd := hwd ▸ (Kept.refl w4).drew
        clear hwd
        refine takeL (i := 0) (v := ?_) rfl (by kernel_rfl) (by kernel_rfl) (by kernel_rfl) (fun _ _ _ h => h) (Or.inl ⟨by rfl, ?_⟩) hS0 ?_
        rotate_left 1
        · (intro w hSw; (try dsimp only at hSw); go_simp; try with_reducible rfl)
        try simp only [Act.put, List.setIfInBounds_toArray, List.set_cons_zero, List.set_cons_succ]
        refine takeL (i := 1) (v := ?_) rfl (by kernel_rfl) (by kernel_rfl) (by kernel_rfl) (fun _ _ _ h => h) (Or.inl ⟨by rfl, ?_⟩) hS0 ?_
        rotate_left 1
        · (intro w hSw; (try dsimp only at hSw); go_simp; try with_reducible rfl)
        try simp only [Act.put, List.setIfInBounds_toArray, List.set_cons_zero, List.set_cons_succ]
        refine takeL (i := 2) (v := ?_) rfl (by kernel_rfl) (by kernel_rfl) (by kernel_rfl) (fun _ _ _ h => h) (Or.inl ⟨by rfl, ?_⟩) hS0 ?_
        rotate_left 1
        · (intro w hSw; (try dsimp only at hSw); go_simp; try with_reducible rfl)
        try simp only [Act.put, List.setIfInBounds_toArray, List.set_cons_zero, List.set_cons_succ]
        refine takeL (i := 3) (v := ?_) rfl (by kernel_rfl) (by kernel_rfl) (by kernel_rfl) (fun _ _ _ h => h) (Or.inl ⟨by rfl, ?_⟩) hS0 ?_
        rotate_left 1
        · (intro w hSw; (try dsimp only at hSw); go_simp; try with_reducible rfl)
        try simp only [Act.put, List.setIfInBounds_toArray, List.set_cons_zero, List.set_cons_succ]
        refine takeL (i := 4) (v := ?_) rfl (by kernel_rfl) (by kernel_rfl) (by kernel_rfl) (fun _ _ _ h => h) (Or.inl ⟨by rfl, ?_⟩) hS0 ?_
        rotate_left 1
        · (intro w hSw; (try dsimp only at hSw); go_simp; try with_reducible rfl)
        try simp only [Act.put, List.setIfInBounds_toArray, List.set_cons_zero, List.set_cons_succ]
        refine takeL (i := 5) (v := ?_) rfl (by kernel_rfl) (by kernel_rfl) (by kernel_rfl) (fun _ _ _ h => h) (Or.inl ⟨by rfl, ?_⟩) hS0 ?_
        rotate_left 1
        · (intro w hSw; (try dsimp only at hSw); go_simp; try with_reducible rfl)
        try simp only [Act.put, List.setIfInBounds_toArray, List.set_cons_zero, List.set_cons_succ]
        refine takeL (i := 6) (v := ?_) rfl (by kernel_rfl) (by kernel_rfl) (by kernel_rfl) (fun _ _ _ h => h) (Or.inl ⟨by rfl, ?_⟩) hS0 ?_
        rotate_left 1
        · (intro w hSw; (try dsimp only at hSw); go_simp; try with_reducible rfl)
        try simp only [Act.put, List.setIfInBounds_toArray, List.set_cons_zero, List.set_cons_succ]
        refine takeL (i := 7) (v := ?_) rfl (by kernel_rfl) (by kernel_rfl) (by kernel_rfl) (fun _ _ _ h => h) (Or.inl ⟨by rfl, ?_⟩) hS0 ?_
        rotate_left 1
        · (intro w hSw; (try dsimp only at hSw); go_simp; try with_reducible rfl)
        try simp only [Act.put, List.setIfInBounds_toArray, List.set_cons_zero, List.set_cons_succ]
        refine takeL (i := 8) (v := ?_) rfl (by kernel_rfl) (by kernel_rfl) (by kernel_rfl) (fun _ _ _ h => h) (Or.inl ⟨by rfl, ?_⟩) hS0 ?_
        rotate_left 1
        · (intro w hSw; (try dsimp only at hSw); go_simp; try with_reducible rfl)
        try simp only [Act.put, List.setIfInBounds_toArray, List.set_cons_zero, List.set_cons_succ]
        refine takeL (i := 9) (v := ?_) rfl (by kernel_rfl) (by kernel_rfl) (by kernel_rfl) (fun _ _ _ h => h) (Or.inl ⟨by rfl, ?_⟩) hS0 ?_
        rotate_left 1
        · (intro w hSw; (try dsimp only at hSw); go_simp; try with_reducible rfl)
        try simp only [Act.put, List.setIfInBounds_toArray, List.set_cons_zero, List.set_cons_succ]
        refine takeL (i := 10) (v := ?_) rfl (by kernel_rfl) (by kernel_rfl) (by kernel_rfl) (fun _ _ _ h => h) (Or.inl ⟨by rfl, ?_⟩) hS0 ?_
        rotate_left 1
        · (intro w hSw; (try dsimp only at hSw); go_simp; try with_reducible rfl)
        try simp only [Act.put, List.setIfInBounds_toArray, List.set_cons_zero, List.set_cons_succ]
        refine takeL (i := 11) (v := ?_) rfl (by kernel_rfl) (by kernel_rfl) (by kernel_rfl) (fun _ _ _ h => h) (Or.inl ⟨by rfl, ?_⟩) hS0 ?_
        rotate_left 1
        · (intro w hSw; (try dsimp only at hSw); go_simp; try with_reducible rfl)
        try simp only [Act.put, List.setIfInBounds_toArray, List.set_cons_zero, List.set_cons_succ]
        refine takeL (i := 12) (v := ?_) rfl (by kernel_rfl) (by kernel_rfl) (by kernel_rfl) (fun _ _ _ h => h) (Or.inl ⟨by rfl, ?_⟩) hS0 ?_
        rotate_left 1
        · (intro w hSw; (try dsimp only at hSw); go_simp; try with_reducible rfl)
        try simp only [Act.put, List.setIfInBounds_toArray, List.set_cons_zero, List.set_cons_succ]
        refine onlyL (i := 13) rfl (by kernel_rfl) (fun K hK => ?_)
        go_simp
        obtain ⟨w5, hw5⟩ : ∃ x : World, x = wd.alloc (.cells #[.string (tx (wdS z.data.toList)), .int .i64 n0, .int .i64 n1, .int .i64 n2] 83) := ⟨_, rfl⟩
        rw [← hw5]
        have B5 : Box w5 wd.heap.size 83 #[.string (tx (wdS z.data.toList)), .int .i64 n0, .int .i64 n1, .int .i64 n2] := hw5 ▸ Box.new wd _ _ _ rfl
        have k5 : Kept w4 w5 := hw5 ▸ kd.alloc _
        have K5 : Kept wr w5 := k4.trans k5
        have sz5 : w.heap.size ≤ w5.heap.size := (HK3.out.trans (KR.trans K5)).size
        clear hw5
        refine hK.out _ _ (HW3.out _ k5) (fun hS1 => ?_)
        clear hK K hS0
        try simp only [Act.put, List.setIfInBounds_toArray, List.set_cons_zero, List.set_cons_succ]
        refine onlyL (i := 14) rfl (by kernel_rfl) (fun K hK => ?_)
        rw [if_pos (wanted_none rfl _)]
        refine wp_append_ED w5 _ _ rfl w.heap.size (.slice Ae k ce) (CC.elems.take k) rfl (HST.out.elems.kept K5) _ [ElemD.mk (tx (wdS z.data.toList)) n0 n1 n2] rfl (elems_one (ElemD.mk (tx (wdS z.data.toList)) n0 n1 n2) B5 hz0s) (by rw [HKK.out]; simp only [List.length_cons, List.length_nil]; omega) sz5 ?_
        intro v6 w6 o6 on6 f6
        rw [← HES.out, ← HSN.out] at o6
        have hl6 : (CC.elems.take (k + 1)).length = k + 1 := by rw [List.length_take, HEL.out]; omega
        obtain ⟨A6, c6, rfl, _⟩ := own_form o6.1
        rw [hl6] at o6 f6 ⊢
        have ST := Lib.hid (HST.out.step K5 on6 o6 f6)
        have B6 := HST.out.mid K5 on6
        have hq6 : ∀ i, w6.cell? ⟨g4, i, none⟩ = w4.cell? ⟨g4, i, none⟩ := fun i => World.cell?_of_block (w := w4) ((on6.block g4 (by have := k5.size; omega) (fun hb => by have := own_fp HST.out.elems.1 g4 hb; omega)).trans (k5.block g4 hg4))
        clear o6 on6 f6 hl6
        refine hK.out _ _ (HB.out _ B6 hq6) (fun hS2 => ?_)
        clear hK K hS1
        try simp only [Act.put, List.setIfInBounds_toArray, List.set_cons_zero, List.set_cons_succ]
        refine takeL (i := 15) (v := ?_) rfl (by kernel_rfl) (by kernel_rfl) (by kernel_rfl) (fun _ _ _ h => h) (Or.inl ⟨by rfl, ?_⟩) hS2 ?_
        rotate_left 1
        · (intro w hSw; (try dsimp only at hSw); go_simp; try with_reducible rfl)
        try simp only [Act.put, List.setIfInBounds_toArray, List.set_cons_zero, List.set_cons_succ]
        refine doneL (by kernel_rfl) ?_
        clear hS2
        clear hq6
        obtain ⟨x6, y6⟩ := B6.six
        go_wp2_with fail
        go_roundw
        case rel => exact ⟨k + 1, _, by omega, by go_num, HRK.out, ST.out⟩
        case measure => simp [RowKit.intOf]; omega
      · have HFIN : Hid (CC.elems.length ≤ k) := Lib.hid (by rw [HEL.out]; omega)
        have HRA : Hid (∀ z ∈ rest, ∃ ns, rdI z.data.toList = some ns ∧ ns.length = 3) := Lib.hid (fun z hz => HRR.out z (by rw [List.take_of_length_le (by omega)]; exact hz))
        have OT := Lib.hid (HST.out.whole HFIN.out)
        have FIN : Hid (∀ w3 w4 : World, Kept wr w3 → Only [w.heap.size] w3 w4 → OwnK w4 w.heap.size (.agg #[.slice Ae k ce, .slice A3 CC.limits.length c3, .int .i64 CC.repeats, .int .i64 CC.bonus, .int .i64 CC.keeps, .int .i64 CC.fall]) CC) := Lib.hid (fun w3 w4 k3 q => HST.out.fin HFIN.out k3 q)
        have b4 := HST.out.bbox
        have b2 := HST.out.hbox
        obtain ⟨x4, y4⟩ := b4.six
        go_wp2_with fail
        clear x4 y4
        refine (isCode_any _ CC _ OT.out.code).mono ?_
        rintro e w4 ⟨rfl, k4⟩
        cases hpb : codeB CC with
        | false =>
          have HP : Hid (IsPC s.data.toList zeroC false) := Lib.hid (pcI_bad HLN.out HR0.out HR1.out (by rw [HCC.out]; exact hpb))
          clear hpb
          have B2 := b2.kept k4
          obtain ⟨x2, y2⟩ := B2.six
          go_wp2_with fail
          clear x2 y2
          obtain ⟨w5, hw5, B5, Q5⟩ := set6 B2 (.slice none 0 0) (.slice none 0 0) (.int .i64 0) (.int .i64 0) (.int .i64 0) (.int .i64 0)
          rw [← hw5]
          clear hw5
          obtain ⟨cc, ff⟩ := B5.six
          refine bodyPost_ret (v := .tuple #[.agg #[.slice none 0 0, .slice none 0 0, .int .i64 0, .int .i64 0, .int .i64 0, .int .i64 0], .bool false]) (by simp [results, Tryd.results26, go_sem, cc, ff]) rfl ?_
          exact NO.out _ _ (HK3.out.trans (KR.trans k4)) B2 HP.out Q5
        | true =>
          have HP : Hid (IsPC s.data.toList CC true) := Lib.hid (by have := pcI_yes HLN.out HOK.out HR0.out HR1.out HL0.out HW0.out HW1.out HRA.out (by rw [HCC.out]; exact hpb); rw [HCC.out] at this; exact this)
          clear hpb
          obtain ⟨x4, y4⟩ := (b4.kept k4).six
          obtain ⟨x2, y2⟩ := (b2.kept k4).six
          go_wp2_with fail
          clear x4 y4 x2 y2
          obtain ⟨w9, hw9, B9, Q9⟩ := set6 (b2.kept k4) (.slice Ae k ce) (.slice A3 CC.limits.length c3) (.int .i64 CC.repeats) (.int .i64 CC.bonus) (.int .i64 CC.keeps) (.int .i64 CC.fall)
          rw [← hw9]
          clear hw9
          obtain ⟨cc, ff⟩ := B9.six
          refine bodyPost_ret (v := .tuple #[.agg #[.slice Ae k ce, .slice A3 CC.limits.length c3, .int .i64 CC.repeats, .int .i64 CC.bonus, .int .i64 CC.keeps, .int .i64 CC.fall], .bool true]) (by simp [results, Tryd.results26, go_sem, cc, ff]) rfl ?_
          exact PcPost.yes HP.out (FIN.out _ _ k4 Q9) (Q9.above (HK3.out.trans (KR.trans k4)) (by simp))
end Go.Proofs.YtfonfekejbmamaaDoor

/- Codes: the law ParseCode. -/
namespace Go.Proofs.YtfonfekejbmamaaDoor
set_option linter.unusedVariables false
set_option linter.unusedSimpArgs false
open Go.RowKit Go.Lib

theorem pc_ex (s : ByteArray) : ∃ c ok, IsPC s.data.toList c ok := by
  by_cases h : ∃ c, codeB c = true ∧ cdTxt c = s.data.toList
  · obtain ⟨c, h1, h2⟩ := h
    exact ⟨c, true, IsPC.yes h1 h2⟩
  · exact ⟨zeroC, false, IsPC.no (fun c h1 h2 => h ⟨c, h1, h2⟩)⟩
theorem pc_bd {s : List UInt8} {c : CodeD} {ok : Bool} (h : IsPC s c ok) : c.elems.length ≤ 24 ∧ c.limits.length ≤ 5 := by
  rcases h with ⟨_, g, _⟩ | ⟨_, rfl, _⟩
  · have := code_of g
    omega
  · exact ⟨by decide, by decide⟩
theorem PcPost.at_ {s : ByteArray} {c : CodeD} {ok : Bool} {w w' : World} {e : Ending} (h : IsPC s.data.toList c ok) (p : PcPost s w e w') : ∃ v', e = .returned (.tuple #[v', .bool ok]) ∧ OwnK w' w.heap.size v' c ∧ Kept w w' := by
  obtain ⟨v', c', ok', rfl, h', o, k⟩ := p
  obtain ⟨rfl, rfl⟩ := IsPC.same h h' (fun _ _ g g' e e' => code_inj g g' e e')
  exact ⟨v', rfl, o, k⟩
theorem specParseCode_at {s : ByteArray} {c : CodeD} {ok : Bool} (h : IsPC s.data.toList c ok) (w : World) (hs : s.size ≤ 1048576) :
    Calls Tryd.prog 25 #[.string s] w fun e w' => ∃ v', e = .returned (.tuple #[v', .bool ok]) ∧ OwnK w' w.heap.size v' c ∧ Kept w w' :=
  (specParseCode_any s w hs).mono fun _ _ p => p.at_ h
theorem implParseCode_at {s : ByteArray} {c : CodeD} {ok : Bool} (h : IsPC s.data.toList c ok) (w : World) (hs : s.size ≤ 1048576) (hm : HasMax w) :
    Calls Tryd.prog 26 #[.string s] w fun e w' => ∃ v', e = .returned (.tuple #[v', .bool ok]) ∧ OwnK w' w.heap.size v' c ∧ Kept w w' :=
  (implParseCode_any s w hs hm).mono fun _ _ p => p.at_ h
set_option maxHeartbeats 4000000 in
theorem lawParseCode_any {w : World}  (a0 : ByteArray) (hs0 : a0.size ≤ maxLen) (hm : HasMax w) :
    Calls Tryd.prog 7 #[.string a0] w fun e w' => e = .returned (.bool true) ∧ Kept w w' := by
  have HMX := Lib.hid hm
  clear hm
  go_enter Tryd.func7, Tryd.ntmps7
  have K0 := Kept.refl w
  have hm0 := hs0
  unfold maxLen at hm0
  by_cases hbig0 : a0.size ≤ 1048576
  case neg =>
    go_wp2_with fail
    go_ret
    first | exact ⟨rfl, K0⟩ | exact ⟨rfl, K0.alloc _⟩ | exact ⟨rfl, (K0.alloc _).alloc _⟩
  obtain ⟨cX, ok, hpc⟩ := pc_ex a0
  obtain ⟨hXe, hXl⟩ := pc_bd hpc
  have HPC := Lib.hid hpc
  clear hpc
  go_wp2_with fail
  refine (specParseCode_at HPC.out _ hbig0).mono ?_
  rintro e w1 ⟨u1, rfl, o1, k1⟩
  have sz1 := k1.size
  have K1 := K0.trans k1
  obtain ⟨n1, m1, rfl, p1, q1, nd1⟩ := o1
  obtain ⟨A1, c1, rfl, _⟩ := own_form p1.1
  obtain ⟨D1, d1, rfl, _⟩ := own_form q1
  have o1 : OwnK w1 _ (.agg #[.slice A1 (cX).elems.length c1, .slice D1 (cX).limits.length d1, .int .i64 (cX).repeats, .int .i64 (cX).bonus, .int .i64 (cX).keeps, .int .i64 (cX).fall]) (cX) := ⟨_, _, rfl, p1, q1, nd1⟩
  clear p1 q1 nd1
  have RS := Lib.hid o1.code
  clear o1
  have KS := Kept.refl w1
  go_wp2_with fail
  obtain ⟨wb1, hwb1⟩ : ∃ w' : World, w' = w1.alloc (.cells #[.slice A1 (cX).elems.length c1, .slice D1 (cX).limits.length d1, .int .i64 (cX).repeats, .int .i64 (cX).bonus, .int .i64 (cX).keeps, .int .i64 (cX).fall] 41) := ⟨_, rfl⟩
  rw [← hwb1]
  have KB1 : Kept w1 wb1 := hwb1 ▸ (Kept.refl w1).alloc _
  have B1 : Box wb1 (w1.heap.size) 41 #[.slice A1 (cX).elems.length c1, .slice D1 (cX).limits.length d1, .int .i64 (cX).repeats, .int .i64 (cX).bonus, .int .i64 (cX).keeps, .int .i64 (cX).fall] := hwb1 ▸ Box.new w1 (w1.heap.size) 41 #[.slice A1 (cX).elems.length c1, .slice D1 (cX).limits.length d1, .int .i64 (cX).repeats, .int .i64 (cX).bonus, .int .i64 (cX).keeps, .int .i64 (cX).fall] rfl
  have szwb1 : wb1.heap.size = w1.heap.size + 1 := by rw [hwb1]; simp
  clear hwb1
  replace KS := KS.trans KB1
  have Kwb1 := K1.trans KB1
  refine (implParseCode_at HPC.out _ hbig0 (HMX.out.kept Kwb1)).mono ?_
  rintro e w2 ⟨u2, rfl, o2, k2⟩
  replace B1 := B1.kept k2
  replace KS := KS.trans k2
  have sz2 := k2.size
  have K2 := Kwb1.trans k2
  obtain ⟨n2, m2, rfl, p2, q2, nd2⟩ := o2
  obtain ⟨A2, c2, rfl, _⟩ := own_form p2.1
  obtain ⟨D2, d2, rfl, _⟩ := own_form q2
  have o2 : OwnK w2 _ (.agg #[.slice A2 (cX).elems.length c2, .slice D2 (cX).limits.length d2, .int .i64 (cX).repeats, .int .i64 (cX).bonus, .int .i64 (cX).keeps, .int .i64 (cX).fall]) (cX) := ⟨_, _, rfl, p2, q2, nd2⟩
  clear p2 q2 nd2
  have F2 := Lib.hid o2.fps
  have O2 := Lib.hid o2
  clear o2
  obtain ⟨x1, y1⟩ := B1.six
  have l1 := B1.lt
  go_wp2_with fail
  clear x1 y1 l1
  obtain ⟨wb2, hwb2⟩ : ∃ w' : World, w' = w2.alloc (.cells #[.slice A2 (cX).elems.length c2, .slice D2 (cX).limits.length d2, .int .i64 (cX).repeats, .int .i64 (cX).bonus, .int .i64 (cX).keeps, .int .i64 (cX).fall] 41) := ⟨_, rfl⟩
  rw [← hwb2]
  have KB2 : Kept w2 wb2 := hwb2 ▸ (Kept.refl w2).alloc _
  have B2 : Box wb2 (w2.heap.size) 41 #[.slice A2 (cX).elems.length c2, .slice D2 (cX).limits.length d2, .int .i64 (cX).repeats, .int .i64 (cX).bonus, .int .i64 (cX).keeps, .int .i64 (cX).fall] := hwb2 ▸ Box.new w2 (w2.heap.size) 41 #[.slice A2 (cX).elems.length c2, .slice D2 (cX).limits.length d2, .int .i64 (cX).repeats, .int .i64 (cX).bonus, .int .i64 (cX).keeps, .int .i64 (cX).fall] rfl
  have szwb2 : wb2.heap.size = w2.heap.size + 1 := by rw [hwb2]; simp
  clear hwb2
  replace B1 := B1.kept KB2
  replace O2 := Lib.hid (O2.out.kept KB2)
  replace KS := KS.trans KB2
  have Kwb2 := K2.trans KB2
  refine (eqCode_any _ _ (cX) _ O2.out.code (RS.out.kept KS)).mono ?_
  rintro e w3 ⟨rfl, k3⟩
  replace B1 := B1.kept k3
  replace B2 := B2.kept k3
  replace O2 := Lib.hid (O2.out.kept k3)
  replace KS := KS.trans k3
  have sz3 := k3.size
  have K3 := Kwb2.trans k3
  have nbR : 1 ≤ nextC 1 (cX) ∧ nextC 1 (cX) ≤ 5242881 := ⟨by unfold nextC; omega, by unfold nextC; omega⟩
  obtain ⟨x1, y1⟩ := B1.six
  obtain ⟨x2, y2⟩ := B2.six
  go_wp2_with fail
  clear x1 y1 x2 y2
  refine (markCode_any _ (cX) _ _ _ O2.out (by omega) (by omega) (by omega) (by omega)).mono ?_
  rintro e w4 ⟨rfl, o4, on4⟩
  have sz4 := on4.size
  replace B1 := B1.only on4 (fun hb => by have := F2.out _ hb; omega)
  replace B2 := B2.only on4 (fun hb => by have := F2.out _ hb; omega)
  replace KS := on4.above KS (fun b hb => by have := F2.out b hb; omega)
  have K4 := on4.above K3 (fun b hb => by have := F2.out b hb; omega)
  replace O2 := Lib.hid o4
  clear o4 on4
  obtain ⟨x1, y1⟩ := B1.six
  obtain ⟨x2, y2⟩ := B2.six
  go_wp2_with fail
  clear x1 y1 x2 y2
  refine (heldCode_any _ (cX) _ _ O2.out.code (by omega) (by omega) (by omega) (by omega)).mono ?_
  rintro e w5 ⟨rfl, k5⟩
  replace B1 := B1.kept k5
  replace B2 := B2.kept k5
  replace O2 := Lib.hid (O2.out.kept k5)
  replace KS := KS.trans k5
  have sz5 := k5.size
  have K5 := K4.trans k5
  obtain ⟨x1, y1⟩ := B1.six
  obtain ⟨x2, y2⟩ := B2.six
  go_wp2_with fail
  clear x1 y1 x2 y2
  refine (implParseCode_at HPC.out _ hbig0 (HMX.out.kept K5)).mono ?_
  rintro e w6 ⟨u6, rfl, o6, k6⟩
  replace B1 := B1.kept k6
  replace B2 := B2.kept k6
  replace O2 := Lib.hid (O2.out.kept k6)
  replace KS := KS.trans k6
  have sz6 := k6.size
  have K6 := K5.trans k6
  obtain ⟨n6, m6, rfl, p6, q6, nd6⟩ := o6
  obtain ⟨A6, c6, rfl, _⟩ := own_form p6.1
  obtain ⟨D6, d6, rfl, _⟩ := own_form q6
  have o6 : OwnK w6 _ (.agg #[.slice A6 (cX).elems.length c6, .slice D6 (cX).limits.length d6, .int .i64 (cX).repeats, .int .i64 (cX).bonus, .int .i64 (cX).keeps, .int .i64 (cX).fall]) (cX) := ⟨_, _, rfl, p6, q6, nd6⟩
  clear p6 q6 nd6
  have RH := Lib.hid o6.code
  clear o6
  obtain ⟨x1, y1⟩ := B1.six
  have l1 := B1.lt
  obtain ⟨x2, y2⟩ := B2.six
  have l2 := B2.lt
  go_wp2_with fail
  clear x1 y1 l1 x2 y2 l2
  obtain ⟨wb3, hwb3⟩ : ∃ w' : World, w' = w6.alloc (.cells #[.slice A6 (cX).elems.length c6, .slice D6 (cX).limits.length d6, .int .i64 (cX).repeats, .int .i64 (cX).bonus, .int .i64 (cX).keeps, .int .i64 (cX).fall] 41) := ⟨_, rfl⟩
  rw [← hwb3]
  have KB6 : Kept w6 wb3 := hwb3 ▸ (Kept.refl w6).alloc _
  have B6 : Box wb3 (w6.heap.size) 41 #[.slice A6 (cX).elems.length c6, .slice D6 (cX).limits.length d6, .int .i64 (cX).repeats, .int .i64 (cX).bonus, .int .i64 (cX).keeps, .int .i64 (cX).fall] := hwb3 ▸ Box.new w6 (w6.heap.size) 41 #[.slice A6 (cX).elems.length c6, .slice D6 (cX).limits.length d6, .int .i64 (cX).repeats, .int .i64 (cX).bonus, .int .i64 (cX).keeps, .int .i64 (cX).fall] rfl
  have szwb3 : wb3.heap.size = w6.heap.size + 1 := by rw [hwb3]; simp
  clear hwb3
  replace B1 := B1.kept KB6
  replace B2 := B2.kept KB6
  replace RH := Lib.hid (RH.out.kept KB6)
  replace O2 := Lib.hid (O2.out.kept KB6)
  replace KS := KS.trans KB6
  have Kwb3 := K6.trans KB6
  refine (eqCode_any _ _ (cX) _ RH.out (RS.out.kept KS)).mono ?_
  rintro e w7 ⟨rfl, k7⟩
  replace B1 := B1.kept k7
  replace B2 := B2.kept k7
  replace B6 := B6.kept k7
  replace RH := Lib.hid (RH.out.kept k7)
  replace O2 := Lib.hid (O2.out.kept k7)
  replace KS := KS.trans k7
  have sz7 := k7.size
  have K7 := Kwb3.trans k7
  obtain ⟨x1, y1⟩ := B1.six
  obtain ⟨x2, y2⟩ := B2.six
  obtain ⟨x6, y6⟩ := B6.six
  go_wp2_with fail
  clear x1 y1 x2 y2 x6 y6
  refine (heldCode_any _ (cX) _ _ O2.out.code (by omega) (by omega) (by omega) (by omega)).mono ?_
  rintro e w8 ⟨rfl, k8⟩
  replace B1 := B1.kept k8
  replace B2 := B2.kept k8
  replace B6 := B6.kept k8
  replace RH := Lib.hid (RH.out.kept k8)
  replace O2 := Lib.hid (O2.out.kept k8)
  replace KS := KS.trans k8
  have sz8 := k8.size
  have K8 := K7.trans k8
  go_wp2_with fail
  go_ret
  exact ⟨rfl, K8⟩
end Go.Proofs.YtfonfekejbmamaaDoor
