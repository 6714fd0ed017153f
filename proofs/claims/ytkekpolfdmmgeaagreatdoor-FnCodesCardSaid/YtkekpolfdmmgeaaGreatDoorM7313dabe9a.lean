/- Contracts of functions that the proof leans on. No condition. -/
import Derived.Test.YtkekpolfdmmgeaaGreatDoorM144494cfd9
import Derived.Deep.DeepCutAuto
/- Codes: reading a code's text, the reference's side. -/
namespace Go.Proofs.YtkekpolfdmmgeaaGreatDoor
set_option linter.unusedVariables false
set_option linter.unusedSimpArgs false
open Go.RowKit Go.Lib

set_option maxRecDepth 100000 in
set_option maxHeartbeats 16000000 in
theorem specParseCode_any (s : ByteArray) (w : World) (hs : s.size ≤ 1048576) :
    Calls Tryz.prog 16 #[.string s] w fun e w' => PcPost s w e w' := by
  go_enter Tryz.func16, Tryz.ntmps16
  go_wp2_with fail
  obtain ⟨w0, hw0⟩ : ∃ x : World, x = w.alloc (.cells #[.slice none 0 0, .slice none 0 0, .int .i64 0, .int .i64 0, .int .i64 0, .int .i64 0] 26) := ⟨_, rfl⟩
  rw [← hw0]
  have B2 : Box w0 w.heap.size 26 #[.slice none 0 0, .slice none 0 0, .int .i64 0, .int .i64 0, .int .i64 0, .int .i64 0] := hw0 ▸ Box.new w _ _ _ rfl
  have K0 : Kept w w0 := hw0 ▸ (Kept.refl w).alloc _
  have sz0 : w.heap.size < w0.heap.size := by rw [hw0]; simp
  clear hw0
  have CS : Hid (Calls Tryz.prog 70 #[.string s, .int .u8 10] w0 fun e w' => ∃ v', e = .returned v' ∧ OwnS w' w0.heap.size v' (spB 10 s) ∧ Kept w0 w') := Lib.hid (l1Split_any s 10 w0 hs)
  with_reducible refine CS.out.mono ?_
  clear CS
  rintro e w1 ⟨v1, rfl, o1, k1⟩
  have HS := Lib.hid o1.strs
  obtain ⟨A1, c1, rfl, hn1, hm1, _⟩ := own_form o1.1
  unfold maxLen at hm1
  have K1 := K0.trans k1
  have sz1 := k1.size
  replace B2 := B2.kept k1
  clear k1
  have NO : Hid (∀ w3 w4 : World, Kept w w3 → Box w3 w.heap.size 26 #[.slice none 0 0, .slice none 0 0, .int .i64 0, .int .i64 0, .int .i64 0, .int .i64 0] → IsPC s.data.toList zeroC false → Only [w.heap.size] w3 w4 → PcPost s w (.returned (.tuple #[.agg #[.slice none 0 0, .slice none 0 0, .int .i64 0, .int .i64 0, .int .i64 0, .int .i64 0], .bool false])) w4) := Lib.hid (fun w3 w4 k b h q => PcPost.no h (q.above k (by simp)))
  have FAIL : True := trivial
  by_cases hl : (spB 10 s).length < 4 ∨ 27 < (spB 10 s).length
  · have HP := Lib.hid (pc_len' hl)
    rcases hl with hl | hl
    · obtain ⟨x2, y2⟩ := B2.six
      go_wp2_with fail
      clear x2 y2
      obtain ⟨w5, hw5, B5, Q5⟩ := set6 B2 (.slice none 0 0) (.slice none 0 0) (.int .i64 0) (.int .i64 0) (.int .i64 0) (.int .i64 0)
      rw [← hw5]
      clear hw5
      obtain ⟨cc, ff⟩ := B5.six
      refine bodyPost_ret (v := .tuple #[.agg #[.slice none 0 0, .slice none 0 0, .int .i64 0, .int .i64 0, .int .i64 0, .int .i64 0], .bool false]) (by simp [results, Tryz.results16, go_sem, cc, ff]) rfl ?_
      exact NO.out _ _ K1 B2 HP.out Q5
    · obtain ⟨x2, y2⟩ := B2.six
      go_wp2_with fail
      clear x2 y2
      obtain ⟨w5, hw5, B5, Q5⟩ := set6 B2 (.slice none 0 0) (.slice none 0 0) (.int .i64 0) (.int .i64 0) (.int .i64 0) (.int .i64 0)
      rw [← hw5]
      clear hw5
      obtain ⟨cc, ff⟩ := B5.six
      refine bodyPost_ret (v := .tuple #[.agg #[.slice none 0 0, .slice none 0 0, .int .i64 0, .int .i64 0, .int .i64 0, .int .i64 0], .bool false]) (by simp [results, Tryz.results16, go_sem, cc, ff]) rfl ?_
      exact NO.out _ _ K1 B2 HP.out Q5
  obtain ⟨hl4, hl27⟩ : 4 ≤ (spB 10 s).length ∧ (spB 10 s).length ≤ 27 := by omega
  clear hl FAIL
  obtain ⟨x, hx, _⟩ := lnsB_split s
  obtain ⟨z0, z1, rest, hln⟩ : ∃ z0 z1 rest, lnsB s = z0 :: z1 :: rest := by
    rw [hx, List.length_append, List.length_singleton] at hl4
    match h : lnsB s with
    | [] => rw [h] at hl4; simp at hl4
    | [a] => rw [h] at hl4; simp at hl4
    | a :: b :: t => exact ⟨a, b, t, rfl⟩
  have HLX : Hid (spB 10 s = z0 :: z1 :: (rest ++ [x])) := Lib.hid (by rw [hx, hln]; rfl)
  have HLN := Lib.hid hln
  have hlen : (spB 10 s).length = rest.length + 3 := by rw [HLX.out]; simp
  have HSZ : Hid (∀ z ∈ spB 10 s, z.size ≤ 1048576) := Lib.hid (fun z hz => Nat.le_trans (spB_sz hz) hs)
  have hz0 : z0.size ≤ 1048576 := HSZ.out z0 (by rw [HLX.out]; simp)
  have hz1 : z1.size ≤ 1048576 := HSZ.out z1 (by rw [HLX.out]; simp)
  clear hx hln
  obtain ⟨g1, i1, y0, rfl, hg1, hy0, hc0⟩ := strs_at (k := 0) HS.out.1.addr (by omega)
  obtain ⟨g1', i1', y1, e1, _, hy1, hc1⟩ := strs_at (k := 1) HS.out.1.addr (by omega)
  cases e1
  rw [HLX.out] at hy0 hy1
  obtain rfl : z0 = y0 := by simpa using hy0
  obtain rfl : z1 = y1 := by simpa using hy1
  clear hy0 hy1
  rw [Nat.add_zero] at hc0
  rw [hlen]
  rw [hlen] at hn1 hl4 hl27
  go_wp2_with fail
  with_reducible refine (cdNumbers_any z0 w1 hz0).mono ?_
  rintro e w2 ⟨v2, rfl, o2, k2⟩
  have O2 := Lib.hid o2
  obtain ⟨A2, c2, rfl, hn2, hm2, _⟩ := own_form o2
  unfold maxLen at hm2
  have K2 := K1.trans k2
  have sz2 := k2.size
  replace B2 := B2.kept k2
  have hc1' := hc1
  clear o2 hc0
  by_cases h4 : (hdS z0.data.toList).length = 4
  case neg =>
    have HP := Lib.hid (pcS_rep HLN.out h4)
    have h4' : ¬ ((hdS z0.data.toList).length : Int) = 4 := by omega
    clear h4
    obtain ⟨x2, y2⟩ := B2.six
    go_wp2_with fail
    clear x2 y2
    obtain ⟨w5, hw5, B5, Q5⟩ := set6 B2 (.slice none 0 0) (.slice none 0 0) (.int .i64 0) (.int .i64 0) (.int .i64 0) (.int .i64 0)
    rw [← hw5]
    clear hw5
    obtain ⟨cc, ff⟩ := B5.six
    refine bodyPost_ret (v := .tuple #[.agg #[.slice none 0 0, .slice none 0 0, .int .i64 0, .int .i64 0, .int .i64 0, .int .i64 0], .bool false]) (by simp [results, Tryz.results16, go_sem, cc, ff]) rfl ?_
    exact NO.out _ _ K2 B2 HP.out Q5
  obtain ⟨n0, n1, n2, n3, hns⟩ : ∃ n0 n1 n2 n3, hdS z0.data.toList = [n0, n1, n2, n3] := ⟨_, _, _, _, list4 h4⟩
  obtain ⟨CC, hCC, hCE, hCL, rfl, rfl, rfl, rfl⟩ : ∃ CC : CodeD, mkC (rest.map elS) (hdS z1.data.toList) (hdS z0.data.toList) = CC ∧ CC.elems = rest.map elS ∧ CC.limits = hdS z1.data.toList ∧ CC.repeats = n0 ∧ CC.bonus = n1 ∧ CC.keeps = n2 ∧ CC.fall = n3 := ⟨_, rfl, rfl, rfl, by rw [hns]; rfl, by rw [hns]; rfl, by rw [hns]; rfl, by rw [hns]; rfl⟩
  have HCC := Lib.hid hCC
  have HCE := Lib.hid hCE
  rw [hns] at O2 hn2 ⊢
  have HA2 := Lib.hid O2.out.ints
  clear h4 hns hCC hCE
  obtain ⟨g2, j2, y, rfl, hg2, hy, hd0⟩ := ints_at (k := 0) HA2.out.addr (by simp)
  obtain rfl : CC.repeats = y := by simpa using hy
  obtain ⟨g2', j2', y, e1, _, hy, hd1⟩ := ints_at (k := 1) HA2.out.addr (by simp)
  cases e1
  obtain rfl : CC.bonus = y := by simpa using hy
  obtain ⟨g2', j2', y, e1, _, hy, hd2⟩ := ints_at (k := 2) HA2.out.addr (by simp)
  cases e1
  obtain rfl : CC.keeps = y := by simpa using hy
  obtain ⟨g2', j2', y, e1, _, hy, hd3⟩ := ints_at (k := 3) HA2.out.addr (by simp)
  cases e1
  obtain rfl : CC.fall = y := by simpa using hy
  rw [Nat.add_zero] at hd0
  simp only [List.length_cons, List.length_nil, Nat.zero_add, Nat.reduceAdd] at hn2 ⊢
  have HC1 := Lib.hid hc1
  have hg1' : g1 < w2.heap.size := by omega
  have HW : Hid (∀ w' : World, Kept w2 w' → w'.cell? ⟨g1, i1 + 1, none⟩ = some (.string z1) ∧ w'.cell? ⟨g2, j2, none⟩ = some (.int .i64 CC.repeats) ∧ w'.cell? ⟨g2, j2 + 1, none⟩ = some (.int .i64 CC.bonus) ∧ w'.cell? ⟨g2, j2 + 2, none⟩ = some (.int .i64 CC.keeps) ∧ w'.cell? ⟨g2, j2 + 3, none⟩ = some (.int .i64 CC.fall)) := Lib.hid (fun w' k => by
    refine ⟨?_, ?_, ?_, ?_, ?_⟩
    · rw [(k2.trans k).cell (by exact hg1), hc1]
    · rw [k.cell (by exact hg2), hd0]
    · rw [k.cell (by exact hg2), hd1]
    · rw [k.cell (by exact hg2), hd2]
    · rw [k.cell (by exact hg2), hd3])
  have C1 : Hid (∀ w3 : World, Calls Tryz.prog 71 #[.string z1] w3 fun e w' => ∃ v', e = .returned v' ∧ OwnI w' w3.heap.size v' CC.limits ∧ Kept w3 w') := Lib.hid (fun w3 => hCL ▸ cdNumbers_any z1 w3 hz1)
  clear hd0 hd1 hd2 hd3 hc1 hc1' hCL
  have hL1 : (1 : Int) < (rest.length : Int) + 3 := by omega
  have hL2 : 1 < rest.length + 3 := by omega
  have hh2 : w.heap.size < w2.heap.size := B2.lt
  have HB2 := Lib.hid B2
  have HK2 := Lib.hid K2
  have MK : Hid (∀ (w3 w9 : World) (bb B3 : Nat) (lv : Value), Kept w2 w3 → Only [bb] w3 w9 → w2.heap.size ≤ bb → Box w9 bb 26 #[.slice none 0 0, lv, .int .i64 CC.repeats, .int .i64 CC.bonus, .int .i64 CC.keeps, .int .i64 CC.fall] → OwnI w3 B3 lv CC.limits → w2.heap.size ≤ B3 → (∀ b ∈ fp lv, b ≠ bb) →
      CdSt [bb] w.heap.size bb w.heap.size CC w9 w9 0 (.slice none 0 0) lv ∧ Kept w2 w9) := Lib.hid (fun w3 w9 bb B3 lv k q hb b9 o3 h3 hne => by
    have k9 : Kept w2 w9 := q.above k (fun x hx => by rw [List.mem_singleton] at hx; omega)
    have s9 := k9.size
    have sq := q.size
    refine ⟨⟨HB2.out.kept k9, b9, by rw [List.take_zero]; exact ⟨⟨rfl, .inl ⟨rfl, rfl⟩⟩, fun _ h => by cases h⟩, own_base (o3.only q (fun b h => by rw [List.mem_singleton]; exact hne b h)) (by omega), fun b h => (by cases h), Only.refl _ _, by simp, by omega, fun b h => (by cases h), fun b h => ?_, by omega⟩, k9⟩
    have := own_fp o3 b h
    exact ⟨by omega, hne b h, by omega⟩)
  clear B2
  go_upto_region 7 with (fail)
  go_cut [6] (fun s6 wx => ∃ (bb : Nat) (lv : Value), s6 = .pointer (some ⟨bb, 0, none⟩) ∧ CdSt [bb] w.heap.size bb w.heap.size CC wx wx 0 (.slice none 0 0) lv ∧ Kept w2 wx ∧ w2.heap.size ≤ bb)
  case first =>
    refine region_pop (S := fun w' => w'.cell? ⟨g1, i1 + 1, none⟩ = some (.string z1) ∧ w'.cell? ⟨g2, j2, none⟩ = some (.int .i64 CC.repeats) ∧ w'.cell? ⟨g2, j2 + 1, none⟩ = some (.int .i64 CC.bonus) ∧ w'.cell? ⟨g2, j2 + 2, none⟩ = some (.int .i64 CC.keeps) ∧ w'.cell? ⟨g2, j2 + 3, none⟩ = some (.int .i64 CC.fall)) 18 (by kernel_rfl) (by kernel_rfl) ?_
    simp only [List.take_succ_cons, List.take_zero, List.drop_succ_cons, List.drop_zero]
    refine startL (HW.out _ (Kept.refl w2).drew) (fun hS0 => ?_)
    obtain ⟨wd, hwd⟩ : ∃ x : World, x = w2.drew := ⟨_, rfl⟩
    rw [← hwd] at hS0 ⊢
    have kd : Kept w2 wd := hwd ▸ (Kept.refl w2).drew
    clear hwd
    refine takeL (i := 0) (v := ?_) rfl (by kernel_rfl) (by kernel_rfl) (by kernel_rfl) (fun _ _ _ h => h) (Or.inl ⟨by rfl, ?_⟩) hS0 ?_
    rotate_left 1
    · (intro w hSw; (try dsimp only at hSw); go_simp; try with_reducible rfl)
    try simp only [Act.put, List.setIfInBounds_toArray, List.set_cons_zero, List.set_cons_succ]
    refine takeL (i := 1) (v := ?_) rfl (by kernel_rfl) (by kernel_rfl) (by kernel_rfl) (fun _ _ _ h => h) (Or.inl ⟨by rfl, ?_⟩) hS0 ?_
    rotate_left 1
    · (intro w hSw; (try dsimp only at hSw); go_simp; try with_reducible rfl)
    try simp only [Act.put, List.setIfInBounds_toArray, List.set_cons_zero, List.set_cons_succ]
    refine takeL (i := 2) (v := ?_) rfl (by kernel_rfl) (by kernel_rfl) (by kernel_rfl) (fun _ _ _ h => h) (Or.inl ⟨by rfl, ?_⟩) hS0 ?_
    rotate_left 1
    · (intro w hSw; (try dsimp only at hSw); go_simp; try with_reducible rfl)
    try simp only [Act.put, List.setIfInBounds_toArray, List.set_cons_zero, List.set_cons_succ]
    refine takeL (i := 4) (v := ?_) rfl (by kernel_rfl) (by kernel_rfl) (by kernel_rfl) (fun _ _ _ h => h) (Or.inl ⟨by rfl, ?_⟩) hS0 ?_
    rotate_left 1
    · (intro w hSw; (try dsimp only at hSw); go_simp; try with_reducible rfl)
    try simp only [Act.put, List.setIfInBounds_toArray, List.set_cons_zero, List.set_cons_succ]
    refine takeL (i := 5) (v := ?_) rfl (by kernel_rfl) (by kernel_rfl) (by kernel_rfl) (fun _ _ _ h => h) (Or.inl ⟨by rfl, ?_⟩) hS0 ?_
    rotate_left 1
    · (intro w hSw; (try dsimp only at hSw); go_simp; try with_reducible rfl)
    try simp only [Act.put, List.setIfInBounds_toArray, List.set_cons_zero, List.set_cons_succ]
    refine takeL (i := 6) (v := ?_) rfl (by kernel_rfl) (by kernel_rfl) (by kernel_rfl) (fun _ _ _ h => h) (Or.inl ⟨by rfl, ?_⟩) hS0 ?_
    rotate_left 1
    · (intro w hSw; (try dsimp only at hSw); go_simp; try with_reducible rfl)
    try simp only [Act.put, List.setIfInBounds_toArray, List.set_cons_zero, List.set_cons_succ]
    refine takeL (i := 7) (v := ?_) rfl (by kernel_rfl) (by kernel_rfl) (by kernel_rfl) (fun _ _ _ h => h) (Or.inl ⟨by rfl, ?_⟩) hS0 ?_
    rotate_left 1
    · (intro w hSw; (try dsimp only at hSw); go_simp; try with_reducible rfl)
    try simp only [Act.put, List.setIfInBounds_toArray, List.set_cons_zero, List.set_cons_succ]
    refine takeL (i := 8) (v := ?_) rfl (by kernel_rfl) (by kernel_rfl) (by kernel_rfl) (fun _ _ _ h => h) (Or.inl ⟨by rfl, ?_⟩) hS0 ?_
    rotate_left 1
    · (intro w hSw; (try dsimp only at hSw); go_simp; try with_reducible rfl)
    try simp only [Act.put, List.setIfInBounds_toArray, List.set_cons_zero, List.set_cons_succ]
    refine takeL (i := 9) (v := ?_) rfl (by kernel_rfl) (by kernel_rfl) (by kernel_rfl) (fun _ _ _ h => h) (Or.inl ⟨by rfl, ?_⟩) hS0 ?_
    rotate_left 1
    · (intro w hSw; (try dsimp only at hSw); go_simp; try with_reducible rfl)
    try simp only [Act.put, List.setIfInBounds_toArray, List.set_cons_zero, List.set_cons_succ]
    refine takeL (i := 10) (v := ?_) rfl (by kernel_rfl) (by kernel_rfl) (by kernel_rfl) (fun _ _ _ h => h) (Or.inl ⟨by rfl, ?_⟩) hS0 ?_
    rotate_left 1
    · (intro w hSw; (try dsimp only at hSw); go_simp; try with_reducible rfl)
    try simp only [Act.put, List.setIfInBounds_toArray, List.set_cons_zero, List.set_cons_succ]
    refine takeL (i := 11) (v := ?_) rfl (by kernel_rfl) (by kernel_rfl) (by kernel_rfl) (fun _ _ _ h => h) (Or.inl ⟨by rfl, ?_⟩) hS0 ?_
    rotate_left 1
    · (intro w hSw; (try dsimp only at hSw); go_simp; try with_reducible rfl)
    try simp only [Act.put, List.setIfInBounds_toArray, List.set_cons_zero, List.set_cons_succ]
    refine takeL (i := 12) (v := ?_) rfl (by kernel_rfl) (by kernel_rfl) (by kernel_rfl) (fun _ _ _ h => h) (Or.inl ⟨by rfl, ?_⟩) hS0 ?_
    rotate_left 1
    · (intro w hSw; (try dsimp only at hSw); go_simp; try with_reducible rfl)
    try simp only [Act.put, List.setIfInBounds_toArray, List.set_cons_zero, List.set_cons_succ]
    refine takeL (i := 13) (v := ?_) rfl (by kernel_rfl) (by kernel_rfl) (by kernel_rfl) (fun _ _ _ h => h) (Or.inl ⟨by rfl, ?_⟩) hS0 ?_
    rotate_left 1
    · (intro w hSw; (try dsimp only at hSw); go_simp; try with_reducible rfl)
    try simp only [Act.put, List.setIfInBounds_toArray, List.set_cons_zero, List.set_cons_succ]
    refine takeL (i := 14) (v := ?_) rfl (by kernel_rfl) (by kernel_rfl) (by kernel_rfl) (fun _ _ _ h => h) (Or.inl ⟨by rfl, ?_⟩) hS0 ?_
    rotate_left 1
    · (intro w hSw; (try dsimp only at hSw); go_simp; try with_reducible rfl)
    try simp only [Act.put, List.setIfInBounds_toArray, List.set_cons_zero, List.set_cons_succ]
    refine takeL (i := 15) (v := ?_) rfl (by kernel_rfl) (by kernel_rfl) (by kernel_rfl) (fun _ _ _ h => h) (Or.inl ⟨by rfl, ?_⟩) hS0 ?_
    rotate_left 1
    · (intro w hSw; (try dsimp only at hSw); go_simp; try with_reducible rfl)
    try simp only [Act.put, List.setIfInBounds_toArray, List.set_cons_zero, List.set_cons_succ]
    refine readyL (rs := [3, 17]) (by kernel_rfl) (by simp) ?_
    refine consL (i := 3) rfl (fun K hK => ?_) (consL (i := 17) rfl (fun K hK => ?_) (allNil))
    ·
      go_simp
      with_reducible refine (C1.out wd).mono ?_
      rintro e w3 ⟨v3, rfl, o3, k3'⟩
      have k3 : Kept w2 w3 := kd.trans k3'
      have O3 := Lib.hid o3
      obtain ⟨A3, c3, rfl, hn3, hm3, _⟩ := own_form o3
      clear o3
      go_wp2_with fail
      refine hK.out _ _ (HW.out _ k3) (fun hS1 => ?_)
      clear hK K hS0
      try simp only [Act.put, List.setIfInBounds_toArray, List.set_cons_zero, List.set_cons_succ]
      refine takeL (i := 16) (v := ?_) rfl (by kernel_rfl) (by kernel_rfl) (by kernel_rfl) (fun _ _ _ h => h) (Or.inl ⟨by rfl, ?_⟩) hS1 ?_
      rotate_left 1
      · (intro w hSw; (try dsimp only at hSw); go_simp; try with_reducible rfl)
      try simp only [Act.put, List.setIfInBounds_toArray, List.set_cons_zero, List.set_cons_succ]
      refine onlyL (i := 17) rfl (by kernel_rfl) (fun K hK => ?_)
      go_simp
      obtain ⟨wa, hwa⟩ : ∃ x : World, x = w3.alloc (.cells #[.slice none 0 0, .slice none 0 0, .int .i64 0, .int .i64 0, .int .i64 0, .int .i64 0] 26) := ⟨_, rfl⟩
      rw [← hwa]
      have Ba : Box wa w3.heap.size 26 #[.slice none 0 0, .slice none 0 0, .int .i64 0, .int .i64 0, .int .i64 0, .int .i64 0] := hwa ▸ Box.new w3 _ _ _ rfl
      have ka : Kept w2 wa := hwa ▸ k3.alloc _
      have kwa : Kept w3 wa := hwa ▸ (Kept.refl w3).alloc _
      have sza : w3.heap.size < wa.heap.size := Ba.lt
      clear hwa
      refine hK.out _ _ (HW.out _ ka) (fun hS2 => ?_)
      clear hK K hS1
      try simp only [Act.put, List.setIfInBounds_toArray, List.set_cons_zero, List.set_cons_succ]
      refine doneL (by kernel_rfl) ?_
      clear hS2
      obtain ⟨x4, y4⟩ := Ba.six
      go_wp2_with fail
      clear x4 y4
      obtain ⟨w9, hw9, B9, Q9⟩ := set6 Ba (.slice none 0 0) (.slice A3 CC.limits.length c3) (.int .i64 CC.repeats) (.int .i64 CC.bonus) (.int .i64 CC.keeps) (.int .i64 CC.fall)
      rw [← hw9]
      clear hw9
      go_meet
      have sd := kd.size
      have s3 := k3'.size
      obtain ⟨h1, h2⟩ := MK.out wa w9 w3.heap.size wd.heap.size _ ka Q9 (by omega) B9 (O3.out.kept kwa) (by omega) (fun x hx => by have := own_fp O3.out x hx; omega)
      exact ⟨_, _, rfl, h1, h2, by omega⟩
    ·
      go_simp
      obtain ⟨wa, hwa⟩ : ∃ x : World, x = wd.alloc (.cells #[.slice none 0 0, .slice none 0 0, .int .i64 0, .int .i64 0, .int .i64 0, .int .i64 0] 26) := ⟨_, rfl⟩
      rw [← hwa]
      have Ba : Box wa wd.heap.size 26 #[.slice none 0 0, .slice none 0 0, .int .i64 0, .int .i64 0, .int .i64 0, .int .i64 0] := hwa ▸ Box.new wd _ _ _ rfl
      have ka : Kept w2 wa := hwa ▸ kd.alloc _
      have kwa : Kept wd wa := hwa ▸ (Kept.refl wd).alloc _
      have sza : wd.heap.size < wa.heap.size := Ba.lt
      clear hwa
      refine hK.out _ _ (HW.out _ ka) (fun hS3 => ?_)
      clear hK K hS0
      try simp only [Act.put, List.setIfInBounds_toArray, List.set_cons_zero, List.set_cons_succ]
      refine onlyL (i := 3) rfl (by kernel_rfl) (fun K hK => ?_)
      go_simp
      with_reducible refine (C1.out wa).mono ?_
      rintro e w3 ⟨v3, rfl, o3, k3'⟩
      have k3 : Kept w2 w3 := ka.trans k3'
      have O3 := Lib.hid o3
      obtain ⟨A3, c3, rfl, hn3, hm3, _⟩ := own_form o3
      clear o3
      go_wp2_with fail
      refine hK.out _ _ (HW.out _ k3) (fun hS4 => ?_)
      clear hK K hS3
      try simp only [Act.put, List.setIfInBounds_toArray, List.set_cons_zero, List.set_cons_succ]
      refine takeL (i := 16) (v := ?_) rfl (by kernel_rfl) (by kernel_rfl) (by kernel_rfl) (fun _ _ _ h => h) (Or.inl ⟨by rfl, ?_⟩) hS4 ?_
      rotate_left 1
      · (intro w hSw; (try dsimp only at hSw); go_simp; try with_reducible rfl)
      try simp only [Act.put, List.setIfInBounds_toArray, List.set_cons_zero, List.set_cons_succ]
      have Bb := Ba.kept k3'
      refine doneL (by kernel_rfl) ?_
      clear hS4
      obtain ⟨x4, y4⟩ := Bb.six
      go_wp2_with fail
      clear x4 y4
      obtain ⟨w9, hw9, B9, Q9⟩ := set6 Bb (.slice none 0 0) (.slice A3 CC.limits.length c3) (.int .i64 CC.repeats) (.int .i64 CC.bonus) (.int .i64 CC.keeps) (.int .i64 CC.fall)
      rw [← hw9]
      clear hw9
      go_meet
      have sd := kd.size
      have s3 := k3'.size
      obtain ⟨h1, h2⟩ := MK.out w3 w9 wd.heap.size wa.heap.size _ k3 Q9 (by omega) B9 O3.out (by omega) (fun x hx => by have := own_fp O3.out x hx; omega)
      exact ⟨_, _, rfl, h1, h2, by omega⟩
  case rest =>
    clear MK C1 HW HC1 HA2 O2 HB2
    obtain ⟨bb, lv, rfl, hst0, kx, hbb⟩ := hcut
    have HST0 := Lib.hid hst0
    obtain ⟨Al, cl, rfl, hnl, hml, _⟩ := own_form hst0.lims
    clear hst0
    have hr3 : rest.length + 3 - 1 - 2 = rest.length := by omega
    have hEL : CC.elems.length = rest.length := by rw [HCE.out]; simp
    have HEL := Lib.hid hEL
    clear hEL
    go_wp2_with fail
    rw [hr3]
    clear hr3
    go_loopw [52] (fun i wr => ∃ (k : Nat) (ev : Value), k ≤ rest.length ∧ i = .int .i64 k ∧ CdSt [bb] w.heap.size bb w.heap.size CC wc wr k ev (.slice Al CC.limits.length cl)) (fun i _ => rest.length - (RowKit.intOf i).toNat)
    case atStart => exact ⟨0, _, Nat.zero_le _, rfl, HST0.out⟩
    case round =>
      clear HST0
      obtain ⟨k, ev, hk, rfl, hst⟩ := hrel
      obtain ⟨Ae, ce, rfl, _⟩ := own_form hst.elems.1
      have hkk : (CC.elems.take k).length = k := by rw [List.length_take, HEL.out]; omega
      rw [hkk] at hst
      have HKK := Lib.hid hkk
      clear hkk
      have KR : Kept w2 wr := hst.only.above kx (fun x hx => by rw [List.mem_singleton] at hx; omega)
      have HST := Lib.hid hst
      clear hst
      by_cases hlt : k < rest.length
      · obtain ⟨gz, iz, z, e1, hgz, hz, hx⟩ := strs_at (k := k + 2) (HS.out.kept (k2.trans KR)).1.addr (by have := HLX.out; rw [this]; simp; omega)
        cases e1
        have hi2 : i1 + (k + 2) = i1 + 2 + k := by omega
        rw [hi2] at hx
        clear hi2
        have hz' : rest[k]? = some z := by
          rw [HLX.out, List.getElem?_cons_succ, List.getElem?_cons_succ, List.getElem?_append_left hlt] at hz
          exact hz
        have hzm : z ∈ rest := List.mem_of_getElem? hz'
        have hzs : z.size ≤ 1048576 := HSZ.out z (List.mem_of_getElem? hz)
        have HSN : Hid (CC.elems.take (k + 1) = CC.elems.take k ++ [elS z]) := Lib.hid (by rw [HCE.out]; exact elS_snoc hz')
        have HZM := Lib.hid hzm
        clear hz hz' hzm
        go_wp2_with fail
        with_reducible refine (cdNumbers_any z wr hzs).mono ?_
        rintro e w3 ⟨v3, rfl, o3, k3⟩
        obtain ⟨A3, c3, rfl, hn3, hm3, _⟩ := own_form o3
        clear hx
        by_cases h3 : (hdS z.data.toList).length = 3
        case neg =>
          have HP := Lib.hid (pcS_el HLN.out HZM.out h3)
          have h3' : ¬ ((hdS z.data.toList).length : Int) = 3 := by omega
          have B2 := HST.out.hbox.kept k3
          clear h3 o3
          obtain ⟨x2, y2⟩ := B2.six
          go_wp2_with fail
          clear x2 y2
          obtain ⟨w5, hw5, B5, Q5⟩ := set6 B2 (.slice none 0 0) (.slice none 0 0) (.int .i64 0) (.int .i64 0) (.int .i64 0) (.int .i64 0)
          rw [← hw5]
          clear hw5
          obtain ⟨cc, ff⟩ := B5.six
          refine bodyPost_ret (v := .tuple #[.agg #[.slice none 0 0, .slice none 0 0, .int .i64 0, .int .i64 0, .int .i64 0, .int .i64 0], .bool false]) (by simp [results, Tryz.results16, go_sem, cc, ff]) rfl ?_
          exact NO.out _ _ (HK2.out.trans (KR.trans k3)) B2 HP.out Q5
        obtain ⟨n0, n1, n2, hns⟩ : ∃ n0 n1 n2, hdS z.data.toList = [n0, n1, n2] := ⟨_, _, _, list3 h3⟩
        have HES : Hid (elS z = ElemD.mk (tx (wdS z.data.toList)) n0 n1 n2) := Lib.hid (by unfold elS mkE; rw [hns]; rfl)
        rw [hns] at o3 hn3 ⊢
        have O3 := Lib.hid o3
        have HA3 := Lib.hid o3.ints
        have HG3 : Hid (∀ b ∈ fp (.slice A3 [n0, n1, n2].length c3), wr.heap.size ≤ b ∧ b < w3.heap.size) := Lib.hid (own_fp o3)
        clear h3 hns o3
        obtain ⟨g3, j3, y, rfl, hg3, hy, hd0⟩ := ints_at (k := 0) HA3.out.addr (by simp)
        obtain rfl : n0 = y := by simpa using hy
        obtain ⟨g3', j3', y, e1, _, hy, hd1⟩ := ints_at (k := 1) HA3.out.addr (by simp)
        cases e1
        obtain rfl : n1 = y := by simpa using hy
        obtain ⟨g3', j3', y, e1, _, hy, hd2⟩ := ints_at (k := 2) HA3.out.addr (by simp)
        cases e1
        obtain rfl : n2 = y := by simpa using hy
        rw [Nat.add_zero] at hd0
        simp only [List.length_cons, List.length_nil, Nat.zero_add, Nat.reduceAdd] at hn3 ⊢
        have hgw : wr.heap.size ≤ g3 := (HG3.out g3 (by simp [fp_some])).1
        obtain ⟨z0, t, hsp, hzw, _⟩ := spB_words z
        have hzn : tx (wdS z.data.toList) = z0 := by rw [← hzw, tx_of]
        rw [hzn] at HES
        have hz0s : z0.size ≤ maxLen := by have := spB_sz (b := 32) (t := z) (z := z0) (by rw [hsp]; exact List.mem_cons_self); unfold maxLen; omega
        have HSP := Lib.hid hsp
        clear hsp hzw hzn hy
        have hbl := HST.out.bbox.lt
        have HB : Hid (∀ w' : World, Box w' bb 26 #[.slice Ae k ce, .slice Al CC.limits.length cl, .int .i64 CC.repeats, .int .i64 CC.bonus, .int .i64 CC.keeps, .int .i64 CC.fall] → (∀ i, w'.cell? ⟨g3, i, none⟩ = w3.cell? ⟨g3, i, none⟩) → w'.cell? ⟨bb, 0, none⟩ = some (.slice Ae k ce) ∧ w'.cell? ⟨g3, j3, none⟩ = some (.int .i64 n0) ∧ w'.cell? ⟨g3, j3 + 1, none⟩ = some (.int .i64 n1) ∧ w'.cell? ⟨g3, j3 + 2, none⟩ = some (.int .i64 n2)) := Lib.hid (fun w' b hq => ⟨b.cell 0, (hq _).trans hd0, (hq _).trans hd1, (hq _).trans hd2⟩)
        have HW3 : Hid (∀ w' : World, Kept w3 w' → w'.cell? ⟨bb, 0, none⟩ = some (.slice Ae k ce) ∧ w'.cell? ⟨g3, j3, none⟩ = some (.int .i64 n0) ∧ w'.cell? ⟨g3, j3 + 1, none⟩ = some (.int .i64 n1) ∧ w'.cell? ⟨g3, j3 + 2, none⟩ = some (.int .i64 n2)) := Lib.hid (fun w' k' => HB.out w' (HST.out.bbox.kept (k3.trans k')) (fun i => k'.cell (by exact hg3)))
        have CS : Hid (∀ w' : World, Calls Tryz.prog 70 #[.string z, .int .u8 32] w' fun e w'' => ∃ v', e = .returned v' ∧ OwnS w'' w'.heap.size v' (spB 32 z) ∧ Kept w' w'') := Lib.hid (fun w' => l1Split_any z 32 w' hzs)
        clear hd0 hd1 hd2
        go_upto_region 14 with (fail)
        refine region_pop (S := fun w' => w'.cell? ⟨bb, 0, none⟩ = some (.slice Ae k ce) ∧ w'.cell? ⟨g3, j3, none⟩ = some (.int .i64 n0) ∧ w'.cell? ⟨g3, j3 + 1, none⟩ = some (.int .i64 n1) ∧ w'.cell? ⟨g3, j3 + 2, none⟩ = some (.int .i64 n2)) 19 (by kernel_rfl) (by kernel_rfl) ?_
        simp only [List.take_succ_cons, List.take_zero, List.drop_succ_cons, List.drop_zero]
        refine startL (HW3.out _ (Kept.refl w3).drew) (fun hS0 => ?_)
        obtain ⟨wd, hwd⟩ : ∃ x : World, x = w3.drew := ⟨_, rfl⟩
        rw [← hwd] at hS0 ⊢
        have kd : Kept w3 wd := hwd ▸ (Kept.refl w3).drew
        clear hwd
        refine takeL (i := 0) (v := ?_) rfl (by kernel_rfl) (by kernel_rfl) (by kernel_rfl) (fun _ _ _ h => h) (Or.inl ⟨by rfl, ?_⟩) hS0 ?_
        rotate_left 1
        · (intro w hSw; (try dsimp only at hSw); go_simp; try with_reducible rfl)
        try simp only [Act.put, List.setIfInBounds_toArray, List.set_cons_zero, List.set_cons_succ]
        refine takeL (i := 1) (v := ?_) rfl (by kernel_rfl) (by kernel_rfl) (by kernel_rfl) (fun _ _ _ h => h) (Or.inl ⟨by rfl, ?_⟩) hS0 ?_
        rotate_left 1
        · (intro w hSw; (try dsimp only at hSw); go_simp; try with_reducible rfl)
        try simp only [Act.put, List.setIfInBounds_toArray, List.set_cons_zero, List.set_cons_succ]
        refine takeL (i := 2) (v := ?_) rfl (by kernel_rfl) (by kernel_rfl) (by kernel_rfl) (fun _ _ _ h => h) (Or.inl ⟨by rfl, ?_⟩) hS0 ?_
        rotate_left 1
        · (intro w hSw; (try dsimp only at hSw); go_simp; try with_reducible rfl)
        try simp only [Act.put, List.setIfInBounds_toArray, List.set_cons_zero, List.set_cons_succ]
        refine takeL (i := 6) (v := ?_) rfl (by kernel_rfl) (by kernel_rfl) (by kernel_rfl) (fun _ _ _ h => h) (Or.inl ⟨by rfl, ?_⟩) hS0 ?_
        rotate_left 1
        · (intro w hSw; (try dsimp only at hSw); go_simp; try with_reducible rfl)
        try simp only [Act.put, List.setIfInBounds_toArray, List.set_cons_zero, List.set_cons_succ]
        refine takeL (i := 7) (v := ?_) rfl (by kernel_rfl) (by kernel_rfl) (by kernel_rfl) (fun _ _ _ h => h) (Or.inl ⟨by rfl, ?_⟩) hS0 ?_
        rotate_left 1
        · (intro w hSw; (try dsimp only at hSw); go_simp; try with_reducible rfl)
        try simp only [Act.put, List.setIfInBounds_toArray, List.set_cons_zero, List.set_cons_succ]
        refine takeL (i := 8) (v := ?_) rfl (by kernel_rfl) (by kernel_rfl) (by kernel_rfl) (fun _ _ _ h => h) (Or.inl ⟨by rfl, ?_⟩) hS0 ?_
        rotate_left 1
        · (intro w hSw; (try dsimp only at hSw); go_simp; try with_reducible rfl)
        try simp only [Act.put, List.setIfInBounds_toArray, List.set_cons_zero, List.set_cons_succ]
        refine takeL (i := 9) (v := ?_) rfl (by kernel_rfl) (by kernel_rfl) (by kernel_rfl) (fun _ _ _ h => h) (Or.inl ⟨by rfl, ?_⟩) hS0 ?_
        rotate_left 1
        · (intro w hSw; (try dsimp only at hSw); go_simp; try with_reducible rfl)
        try simp only [Act.put, List.setIfInBounds_toArray, List.set_cons_zero, List.set_cons_succ]
        refine takeL (i := 10) (v := ?_) rfl (by kernel_rfl) (by kernel_rfl) (by kernel_rfl) (fun _ _ _ h => h) (Or.inl ⟨by rfl, ?_⟩) hS0 ?_
        rotate_left 1
        · (intro w hSw; (try dsimp only at hSw); go_simp; try with_reducible rfl)
        try simp only [Act.put, List.setIfInBounds_toArray, List.set_cons_zero, List.set_cons_succ]
        refine takeL (i := 11) (v := ?_) rfl (by kernel_rfl) (by kernel_rfl) (by kernel_rfl) (fun _ _ _ h => h) (Or.inl ⟨by rfl, ?_⟩) hS0 ?_
        rotate_left 1
        · (intro w hSw; (try dsimp only at hSw); go_simp; try with_reducible rfl)
        try simp only [Act.put, List.setIfInBounds_toArray, List.set_cons_zero, List.set_cons_succ]
        refine takeL (i := 12) (v := ?_) rfl (by kernel_rfl) (by kernel_rfl) (by kernel_rfl) (fun _ _ _ h => h) (Or.inl ⟨by rfl, ?_⟩) hS0 ?_
        rotate_left 1
        · (intro w hSw; (try dsimp only at hSw); go_simp; try with_reducible rfl)
        try simp only [Act.put, List.setIfInBounds_toArray, List.set_cons_zero, List.set_cons_succ]
        refine takeL (i := 13) (v := ?_) rfl (by kernel_rfl) (by kernel_rfl) (by kernel_rfl) (fun _ _ _ h => h) (Or.inl ⟨by rfl, ?_⟩) hS0 ?_
        rotate_left 1
        · (intro w hSw; (try dsimp only at hSw); go_simp; try with_reducible rfl)
        try simp only [Act.put, List.setIfInBounds_toArray, List.set_cons_zero, List.set_cons_succ]
        refine takeL (i := 14) (v := ?_) rfl (by kernel_rfl) (by kernel_rfl) (by kernel_rfl) (fun _ _ _ h => h) (Or.inl ⟨by rfl, ?_⟩) hS0 ?_
        rotate_left 1
        · (intro w hSw; (try dsimp only at hSw); go_simp; try with_reducible rfl)
        try simp only [Act.put, List.setIfInBounds_toArray, List.set_cons_zero, List.set_cons_succ]
        refine onlyL (i := 3) rfl (by kernel_rfl) (fun K hK => ?_)
        go_simp
        refine (CS.out wd).mono ?_
        rintro e w4 ⟨v4, rfl, o4, k4'⟩
        have k4 : Kept w3 w4 := kd.trans k4'
        obtain ⟨A4, c4, rfl, hn4, hm4, _⟩ := own_form o4.1
        obtain ⟨g4, j4, y, rfl, _, hy, hx4⟩ := strs_at (k := 0) o4.strs.1.addr (by rw [HSP.out]; simp)
        obtain rfl : z0 = y := by rw [HSP.out] at hy; simpa using hy
        have hl4 : 0 < (spB 32 z).length := by rw [HSP.out]; simp
        have hl4' : (0 : Int) < ((spB 32 z).length : Int) := by omega
        rw [Nat.add_zero] at hx4
        clear o4 hy k4'
        go_wp2_with fail
        refine hK.out _ _ (HW3.out _ k4) (fun hS1 => ?_)
        clear hK K hS0
        try simp only [Act.put, List.setIfInBounds_toArray, List.set_cons_zero, List.set_cons_succ]
        refine takeL (i := 4) (v := ?_) rfl (by kernel_rfl) (by kernel_rfl) (by kernel_rfl) (fun _ _ _ h => h) (Or.inl ⟨by rfl, ?_⟩) hS1 ?_
        rotate_left 1
        · (intro w hSw; (try dsimp only at hSw); go_simp; try with_reducible rfl)
        try simp only [Act.put, List.setIfInBounds_toArray, List.set_cons_zero, List.set_cons_succ]
        refine onlyL (i := 5) rfl (by kernel_rfl) (fun K hK => ?_)
        go_simp
        refine hK.out _ _ (HW3.out _ k4) (fun hS2 => ?_)
        clear hK K hS1
        try simp only [Act.put, List.setIfInBounds_toArray, List.set_cons_zero, List.set_cons_succ]
        refine takeL (i := 15) (v := ?_) rfl (by kernel_rfl) (by kernel_rfl) (by kernel_rfl) (fun _ _ _ h => h) (Or.inl ⟨by rfl, ?_⟩) hS2 ?_
        rotate_left 1
        · (intro w hSw; (try dsimp only at hSw); go_simp; try with_reducible rfl)
        try simp only [Act.put, List.setIfInBounds_toArray, List.set_cons_zero, List.set_cons_succ]
        refine onlyL (i := 16) rfl (by kernel_rfl) (fun K hK => ?_)
        go_simp
        obtain ⟨w5, hw5⟩ : ∃ x : World, x = w4.alloc (.cells #[.string z0, .int .i64 n0, .int .i64 n1, .int .i64 n2] 31) := ⟨_, rfl⟩
        rw [← hw5]
        have B5 : Box w5 w4.heap.size 31 #[.string z0, .int .i64 n0, .int .i64 n1, .int .i64 n2] := hw5 ▸ Box.new w4 _ _ _ rfl
        have k5 : Kept w3 w5 := hw5 ▸ k4.alloc _
        have K5 : Kept wr w5 := k3.trans k5
        have sz5 : w.heap.size ≤ w5.heap.size := (HK2.out.trans (KR.trans K5)).size
        clear hw5 hx4
        refine hK.out _ _ (HW3.out _ k5) (fun hS3 => ?_)
        clear hK K hS2
        try simp only [Act.put, List.setIfInBounds_toArray, List.set_cons_zero, List.set_cons_succ]
        refine onlyL (i := 17) rfl (by kernel_rfl) (fun K hK => ?_)
        rw [if_pos (wanted_none rfl _)]
        refine wp_append_ED w5 _ _ rfl w.heap.size (.slice Ae k ce) (CC.elems.take k) rfl (HST.out.elems.kept K5) _ [ElemD.mk z0 n0 n1 n2] rfl (elems_one (ElemD.mk z0 n0 n1 n2) B5 hz0s) (by rw [HKK.out]; simp only [List.length_cons, List.length_nil]; omega) sz5 ?_
        intro v6 w6 o6 on6 f6
        rw [← HES.out, ← HSN.out] at o6
        have hl6 : (CC.elems.take (k + 1)).length = k + 1 := by rw [List.length_take, HEL.out]; omega
        obtain ⟨A6, c6, rfl, _⟩ := own_form o6.1
        rw [hl6] at o6 f6 ⊢
        have ST := Lib.hid (HST.out.step K5 on6 o6 f6)
        have B6 := HST.out.mid K5 on6
        have hq6 : ∀ i, w6.cell? ⟨g3, i, none⟩ = w3.cell? ⟨g3, i, none⟩ := fun i => World.cell?_of_block (w := w3) ((on6.block g3 (by have := k5.size; omega) (fun hb => by have := own_fp HST.out.elems.1 g3 hb; omega)).trans (k5.block g3 hg3))
        clear o6 on6 f6 hl6
        refine hK.out _ _ (HB.out _ B6 hq6) (fun hS4 => ?_)
        clear hK K hS3
        try simp only [Act.put, List.setIfInBounds_toArray, List.set_cons_zero, List.set_cons_succ]
        refine takeL (i := 18) (v := ?_) rfl (by kernel_rfl) (by kernel_rfl) (by kernel_rfl) (fun _ _ _ h => h) (Or.inl ⟨by rfl, ?_⟩) hS4 ?_
        rotate_left 1
        · (intro w hSw; (try dsimp only at hSw); go_simp; try with_reducible rfl)
        try simp only [Act.put, List.setIfInBounds_toArray, List.set_cons_zero, List.set_cons_succ]
        refine doneL (by kernel_rfl) ?_
        clear hS4
        clear hq6
        obtain ⟨x6, y6⟩ := B6.six
        go_wp2_with fail
        go_roundw
        case rel => exact ⟨k + 1, _, by omega, by go_num, ST.out⟩
        case measure => simp [RowKit.intOf]; omega
      · have HFIN : Hid (CC.elems.length ≤ k) := Lib.hid (by rw [HEL.out]; omega)
        have OT := Lib.hid (HST.out.whole HFIN.out)
        have FIN : Hid (∀ w3 w4 : World, Kept wr w3 → Only [w.heap.size] w3 w4 → OwnK w4 w.heap.size (.agg #[.slice Ae k ce, .slice Al CC.limits.length cl, .int .i64 CC.repeats, .int .i64 CC.bonus, .int .i64 CC.keeps, .int .i64 CC.fall]) CC) := Lib.hid (fun w3 w4 k3 q => HST.out.fin HFIN.out k3 q)
        have b4 := HST.out.bbox
        have b2 := HST.out.hbox
        obtain ⟨x4, y4⟩ := b4.six
        go_wp2_with fail
        clear x4 y4
        refine (cdGood_any _ CC _ OT.out.code).mono ?_
        rintro e w4 ⟨rfl, k4⟩
        cases hpb : codeB CC with
        | false =>
          have HP : Hid (IsPC s.data.toList zeroC false) := Lib.hid (pcS_bad HLN.out (by rw [HCC.out]; exact hpb))
          clear hpb
          have B2 := b2.kept k4
          obtain ⟨x2, y2⟩ := B2.six
          go_wp2_with fail
          clear x2 y2
          obtain ⟨w5, hw5, B5, Q5⟩ := set6 B2 (.slice none 0 0) (.slice none 0 0) (.int .i64 0) (.int .i64 0) (.int .i64 0) (.int .i64 0)
          rw [← hw5]
          clear hw5
          obtain ⟨cc, ff⟩ := B5.six
          refine bodyPost_ret (v := .tuple #[.agg #[.slice none 0 0, .slice none 0 0, .int .i64 0, .int .i64 0, .int .i64 0, .int .i64 0], .bool false]) (by simp [results, Tryz.results16, go_sem, cc, ff]) rfl ?_
          exact NO.out _ _ (HK2.out.trans (KR.trans k4)) B2 HP.out Q5
        | true =>
          have HB := Lib.hid hpb
          clear hpb
          obtain ⟨x4, y4⟩ := (b4.kept k4).six
          go_wp2_with fail
          clear x4 y4
          refine (cdText_any _ CC _ (OT.out.code.kept k4) HB.out).mono ?_
          rintro e w5 ⟨rfl, k5⟩
          have k45 := k4.trans k5
          by_cases hT : cdT CC = s
          · have HP : Hid (IsPC s.data.toList CC true) := Lib.hid (IsPC.yes HB.out (by have := congrArg (fun b : ByteArray => b.data.toList) hT; unfold cdT at this; simpa [tx_data] using this))
            rw [hT]
            clear hT
            obtain ⟨x4, y4⟩ := (b4.kept k45).six
            obtain ⟨x2, y2⟩ := (b2.kept k45).six
            go_wp2_with fail
            clear x4 y4 x2 y2
            obtain ⟨w9, hw9, B9, Q9⟩ := set6 (b2.kept k45) (.slice Ae k ce) (.slice Al CC.limits.length cl) (.int .i64 CC.repeats) (.int .i64 CC.bonus) (.int .i64 CC.keeps) (.int .i64 CC.fall)
            rw [← hw9]
            clear hw9
            obtain ⟨cc, ff⟩ := B9.six
            refine bodyPost_ret (v := .tuple #[.agg #[.slice Ae k ce, .slice Al CC.limits.length cl, .int .i64 CC.repeats, .int .i64 CC.bonus, .int .i64 CC.keeps, .int .i64 CC.fall], .bool true]) (by simp [results, Tryz.results16, go_sem, cc, ff]) rfl ?_
            exact PcPost.yes HP.out (FIN.out _ _ k45 Q9) (Q9.above (HK2.out.trans (KR.trans k45)) (by simp))
          · have HP : Hid (IsPC s.data.toList zeroC false) := Lib.hid (pcS_txt HLN.out (by rw [HCC.out]; exact fun e => hT (by unfold cdT; rw [e, tx_of])))
            have B2 := b2.kept k45
            have hT2 : ((cdT CC).toList == s.toList) = false := beq_eq_false_iff_ne.2 (fun e => hT (by rw [← tx_of (cdT CC), ← toList_data, e, toList_data, tx_of]))
            obtain ⟨x2, y2⟩ := B2.six
            go_wp2_with fail
            clear x2 y2
            obtain ⟨w9, hw9, B5, Q5⟩ := set6 B2 (.slice none 0 0) (.slice none 0 0) (.int .i64 0) (.int .i64 0) (.int .i64 0) (.int .i64 0)
            rw [← hw9]
            clear hw9
            obtain ⟨cc, ff⟩ := B5.six
            refine bodyPost_ret (v := .tuple #[.agg #[.slice none 0 0, .slice none 0 0, .int .i64 0, .int .i64 0, .int .i64 0, .int .i64 0], .bool false]) (by simp [results, Tryz.results16, go_sem, cc, ff]) rfl ?_
            exact NO.out _ _ (HK2.out.trans (KR.trans k45)) B2 HP.out Q5
end Go.Proofs.YtkekpolfdmmgeaaGreatDoor
