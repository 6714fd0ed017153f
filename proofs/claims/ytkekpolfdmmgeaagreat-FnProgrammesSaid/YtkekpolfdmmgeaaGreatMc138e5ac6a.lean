/- Contracts of functions that the proof leans on. No condition. -/
import Derived.Test.YtkekpolfdmmgeaaGreatM8d1b1b8c6c
import Derived.Deep.RegionHeld3
/- Draws of items: any item. -/
namespace Go.Proofs.YtkekpolfdmmgeaaGreat
set_option linter.unusedVariables false
set_option linter.unusedSimpArgs false
set_option linter.unnecessarySimpa false
open Go.RowKit Go.Lib

theorem ItSt.lenN {p bb B m : Nat} {w1 wr : World} {it : ItemD} {nv mv : Value} (H : ItSt p bb B m w1 wr it nv mv) : lenV ((wr.cell? ⟨bb, 0, none⟩).getD (.bool false)) = it.names.length := by
  rw [H.box.cell 0]
  exact lenV_own H.names.1
set_option maxRecDepth 100000 in
set_option maxHeartbeats 16000000 in
theorem anyItem_any (p m : Nat) (w : World) (h : Cur w p m) (hm : m ≤ 1000000000) :
    Calls Tryz.prog 22 #[.pointer (some ⟨p, 0, none⟩)] w fun e w' => ItPost w e w' 0 4 False ∧ Cur w' p (m + 70) ∧ Only [p] w w' := by
  have hpl := h.lt
  have CW := Lib.hid h
  clear h
  go_enter Tryz.func22, Tryz.ntmps22
  go_wp2_with fail
  obtain ⟨w0, hw0⟩ : ∃ x : World, x = w.alloc (.cells #[.slice none 0 0, .slice none 0 0, .bool false] 30) := ⟨_, rfl⟩
  have hws : w.heap.size + 1 = w0.heap.size := by rw [hw0]; simp
  rw [← hw0]
  have BR := Lib.hid (show Box w0 w.heap.size 30 #[.slice none 0 0, .slice none 0 0, .bool false] from hw0 ▸ Box.new w _ _ _ rfl)
  have K0 : Hid (Kept w w0) := Lib.hid (hw0 ▸ (Kept.refl w).alloc _)
  have C0 := Lib.hid (CW.out.kept K0.out)
  have sz0 : w.heap.size < w0.heap.size := by rw [hw0]; simp
  have hpl0 : p < w0.heap.size := by omega
  have FIN : Hid (∀ (bb M : Nat) (wr w9 : World) (it : ItemD) (nv mv : Value), ItSt p bb w0.heap.size M w0 wr it nv mv → Only [w.heap.size] wr w9 → M ≤ m + 70 → (0 ≤ it.names.length ∧ it.names.length ≤ 4 ∧ it.marks.length ≤ 4) → (False → it.marks.length = it.names.length) →
      ItPost w (.returned (.agg #[nv, mv, .bool it.late])) w9 0 4 False ∧ Cur w9 p (m + 70) ∧ Only [p] w w9) := Lib.hid (fun bb M wr w9 it nv mv H q h1 h2 h3 => by
    have a1 := H.names.only q (fun b hb => not_one (by have := (own_fp H.names.1 b hb).1; omega))
    have a2 := own_only H.marks q (fun b hb => not_one (by have := (own_fp H.marks b hb).1; omega))
    obtain ⟨_, _, e, _, _, a3⟩ := H.own
    refine ⟨⟨_, it, rfl, ⟨nv, mv, rfl, ⟨own_base a1.1 (by omega), a1.2⟩, own_base a2 (by omega), a3⟩, h2, h3⟩, (H.cur.far q (fun x hx => by rw [List.mem_singleton] at hx; omega)).le h1, ?_⟩
    exact ((K0.out.only _).trans H.only).overD q (fun x hx => by rw [List.mem_singleton] at hx; omega))
  clear hw0 CW
  try rw [hws]
  clear hws
  obtain ⟨wl, hwl⟩ : ∃ x : World, x = w0.alloc (.cells #[.string ⟨#[51, 65]⟩, .string ⟨#[50, 84]⟩, .string ⟨#[52, 83]⟩, .string ⟨#[67, 67, 79, 83, 80]⟩, .string ⟨#[83, 84]⟩, .string ⟨#[65]⟩, .string ⟨#[48]⟩] 9) := ⟨_, rfl⟩
  rw [← hwl]
  have BL : Box wl w0.heap.size 9 #[.string ⟨#[51, 65]⟩, .string ⟨#[50, 84]⟩, .string ⟨#[52, 83]⟩, .string ⟨#[67, 67, 79, 83, 80]⟩, .string ⟨#[83, 84]⟩, .string ⟨#[65]⟩, .string ⟨#[48]⟩] := hwl ▸ Box.new w0 _ _ _ rfl
  have kl : Kept w0 wl := hwl ▸ (Kept.refl w0).alloc _
  clear hwl
  have HQ7 : Hid (Strs wl (.slice (some ⟨w0.heap.size, 0, none⟩) 7 7) [⟨#[51, 65]⟩, ⟨#[50, 84]⟩, ⟨#[52, 83]⟩, ⟨#[67, 67, 79, 83, 80]⟩, ⟨#[83, 84]⟩, ⟨#[65]⟩, ⟨#[48]⟩]) := Lib.hid (strs_lit [⟨#[51, 65]⟩, ⟨#[50, 84]⟩, ⟨#[52, 83]⟩, ⟨#[67, 67, 79, 83, 80]⟩, ⟨#[83, 84]⟩, ⟨#[65]⟩, ⟨#[48]⟩] BL rfl (by decide) (by decide))
  with_reducible refine (called_any p m (some ⟨w0.heap.size, 0, none⟩) 7 7 [⟨#[51, 65]⟩, ⟨#[50, 84]⟩, ⟨#[52, 83]⟩, ⟨#[67, 67, 79, 83, 80]⟩, ⟨#[83, 84]⟩, ⟨#[65]⟩, ⟨#[48]⟩] wl (C0.out.kept kl) (by omega) HQ7.out rfl (by decide) (by decide) (fun a e => by cases e; exact Nat.ne_of_gt hpl0)).mono ?_
  rintro e w1 ⟨⟨v1, it, rfl, o1, ⟨hlo, hhi, hmh⟩, hsm⟩, c1, on1⟩
  have hmn : it.marks.length = it.names.length := hsm trivial
  obtain ⟨nv, mv, rfl, p1, q1, nd⟩ := o1
  have hl := kl.size
  have HD := Lib.hid (OwnT.boxed ⟨own_base p1.1 hl, p1.2⟩ (own_base q1 hl) nd c1 ((kl.only _).trans on1) hpl0 (Nat.le_refl _))
  rcases ownS_casesQ p1 with ⟨_, he⟩ | ⟨gn, cn, rfl⟩
  · rw [he] at hlo; simp at hlo
  rcases ownI_cases q1 with ⟨_, he⟩ | ⟨gm, cm, rfl, _, _⟩
  · rw [he] at hmn; simp at hmn; omega
  have hln : 0 < it.names.length := by omega
  have hlm : 0 < it.marks.length := by omega
  have hNM : Hid (it.marks.length = it.names.length) := Lib.hid hmn
  have hnm2 : it.marks.length ≤ it.names.length := by omega
  obtain ⟨An, hAn⟩ : ∃ A : Option Addr, A = some ⟨gn, 0, none⟩ := ⟨_, rfl⟩
  obtain ⟨Am, hAm⟩ : ∃ A : Option Addr, A = some ⟨gm, 0, none⟩ := ⟨_, rfl⟩
  clear p1 q1 nd c1 on1 kl BL hsm hl hmn C0 An hAn Am hAm
  go_wp2_with fail
  obtain ⟨wb, hwb⟩ : ∃ x : World, x = w1.alloc (.cells #[.slice (some ⟨gn, 0, none⟩) it.names.length cn, .slice (some ⟨gm, 0, none⟩) it.marks.length cm, .bool it.late] 30) := ⟨_, rfl⟩
  obtain ⟨bb, hbb⟩ : ∃ b : Nat, b = w1.heap.size := ⟨_, rfl⟩
  rw [← hwb, ← hbb] at HD ⊢
  clear hwb hbb
  with_reducible refine (pick_any p _ 24 wb HD.out.cur (by omega) (by omega)).mono ?_
  rintro e w3 ⟨s, rfl, ⟨los, his⟩, c3, on3⟩
  have HST := Lib.hid ((HD.out.drawn c3 on3).le (m' := m + 44) (by omega))
  have sz3 : w0.heap.size ≤ w3.heap.size := HST.out.only.size
  clear c3 on3 HD his los
  have HSB : Hid (∀ (w' : World) (v : Value), Box w' bb 30 #[Value.slice (some ⟨gn, 0, none⟩) it.names.length cn, v, .bool it.late] → w'.cell? ⟨bb, 0, none⟩ = some (Value.slice (some ⟨gn, 0, none⟩) it.names.length cn)) := Lib.hid (fun w' v b => b.cell 0)
  have HSM : Hid (∀ (w' : World) (v : Value), Box w' bb 30 #[v, Value.slice (some ⟨gm, 0, none⟩) it.marks.length cm, .bool it.late] → w'.cell? ⟨bb, 1, none⟩ = some (Value.slice (some ⟨gm, 0, none⟩) it.marks.length cm)) := Lib.hid (fun w' v b => b.cell 1)
  have hcase : s = 0 ∨ s = 1 ∨ s = 2 ∨ s = 3 ∨ s = 4 ∨ (¬ s = 0 ∧ ¬ s = 1 ∧ ¬ s = 2 ∧ ¬ s = 3 ∧ ¬ s = 4) := by omega
  rcases hcase with rfl | rfl | rfl | rfl | rfl | ⟨g0, g1, g2, g3, g4⟩
  · go_upto_region 4 with (fail)
    refine region_pop (S := fun w' => w'.cell? ⟨bb, 0, none⟩ = some (Value.slice (some ⟨gn, 0, none⟩) it.names.length cn)) 6 (by kernel_rfl) (by kernel_rfl) ?_
    simp only [List.take_succ_cons, List.take_zero, List.drop_succ_cons, List.drop_zero]
    refine startL (HSB.out _ _ (HST.out.kept (Kept.refl w3).drew).box) (fun hS0 => ?_)
    obtain ⟨wd, hwd⟩ : ∃ x : World, x = w3.drew := ⟨_, rfl⟩
    rw [← hwd] at hS0 ⊢
    have D0 := Lib.hid (HST.out.kept (hwd ▸ (Kept.refl w3).drew))
    have hpd : wd.heap.size ≠ p := Nat.ne_of_gt D0.out.cur.lt
    clear hwd
    refine takeL (i := 0) (v := ?_) rfl (by kernel_rfl) (by kernel_rfl) (by kernel_rfl) (fun _ _ _ h => h) (Or.inl ⟨by rfl, ?_⟩) hS0 ?_
    rotate_left 1
    · (intro w hSw; (try dsimp only at hSw); go_simp; try with_reducible rfl)
    try simp only [Act.put, List.setIfInBounds_toArray, List.set_cons_zero, List.set_cons_succ]
    refine takeL (i := 1) (v := ?_) rfl (by kernel_rfl) (by kernel_rfl) (by kernel_rfl) (fun _ _ _ h => h) (Or.inl ⟨by rfl, ?_⟩) hS0 ?_
    rotate_left 1
    · (intro w hSw; (try dsimp only at hSw); go_simp; try with_reducible rfl)
    try simp only [Act.put, List.setIfInBounds_toArray, List.set_cons_zero, List.set_cons_succ]
    refine takeL (i := 2) (v := ?_) rfl (by kernel_rfl) (by kernel_rfl) (by kernel_rfl) (fun _ _ _ h => h) (Or.inl ⟨by rfl, ?_⟩) hS0 ?_
    rotate_left 1
    · (intro w hSw; (try dsimp only at hSw); go_simp; try with_reducible rfl)
    try simp only [Act.put, List.setIfInBounds_toArray, List.set_cons_zero, List.set_cons_succ]
    refine onlyL (i := 3) rfl (by kernel_rfl) (fun K hK => ?_)
    go_simp
    obtain ⟨wa, hwa⟩ : ∃ x : World, x = wd.alloc (.cells #[.string ⟨#[]⟩, .string ⟨#[97]⟩, .string ⟨#[65, 66, 67, 68, 69]⟩, .string ⟨#[65, 66, 67, 68, 69, 70]⟩, .string ⟨#[51, 65, 60]⟩, .string ⟨#[65, 32, 66]⟩] 9) := ⟨_, rfl⟩
    rw [← hwa]
    have BL : Box wa wd.heap.size 9 #[.string ⟨#[]⟩, .string ⟨#[97]⟩, .string ⟨#[65, 66, 67, 68, 69]⟩, .string ⟨#[65, 66, 67, 68, 69, 70]⟩, .string ⟨#[51, 65, 60]⟩, .string ⟨#[65, 32, 66]⟩] := hwa ▸ Box.new wd _ _ _ rfl
    have kwa : Kept wd wa := hwa ▸ (Kept.refl wd).alloc _
    clear hwa
    have Da := Lib.hid (D0.out.kept kwa)
    refine hK.out _ _ (HSB.out _ _ Da.out.box) (fun hS1 => ?_)
    clear hK K hS0
    try simp only [Act.put, List.setIfInBounds_toArray, List.set_cons_zero, List.set_cons_succ]
    refine onlyL (i := 4) rfl (by kernel_rfl) (fun K hK => ?_)
    go_simp
    with_reducible refine (of_lit p _ wd.heap.size 6 ([⟨#[]⟩, ⟨#[97]⟩, ⟨#[65, 66, 67, 68, 69]⟩, ⟨#[65, 66, 67, 68, 69, 70]⟩, ⟨#[51, 65, 60]⟩, ⟨#[65, 32, 66]⟩] : List ByteArray) wa Da.out.cur (by omega) BL hpd rfl (by omega) (by omega) (by decide)).mono ?_
    rintro e wm ⟨xm, rfl, hxm, c2, on2⟩
    have Dm := Lib.hid (Da.out.drawn c2 on2)
    have hsm : xm.size ≤ maxLen := lit_small (by decide) hxm
    clear c2 on2 BL hxm
    go_wp2_with fail
    refine hK.out _ _ (HSB.out _ _ Dm.out.box) (fun hS2 => ?_)
    clear hK K hS1
    try simp only [Act.put, List.setIfInBounds_toArray, List.set_cons_zero, List.set_cons_succ]
    refine takeL (i := 5) (v := ?_) rfl (by kernel_rfl) (by kernel_rfl) (by kernel_rfl) (fun _ _ _ h => h) (Or.inl ⟨by rfl, ?_⟩) hS2 ?_
    rotate_left 1
    · (intro w hSw; (try dsimp only at hSw); go_simp; try with_reducible rfl)
    try simp only [Act.put, List.setIfInBounds_toArray, List.set_cons_zero, List.set_cons_succ]
    refine doneL (by kernel_rfl) ?_
    clear hS2
    obtain ⟨y, _, q0, f0⟩ := ownS_at Dm.out.names hln
    go_upto_region 16 with (fail)
    clear q0 f0
    have HZE : Hid (ItSt p bb w0.heap.size _ w0 (wm.setCell ⟨gn, 0, none⟩ (.string xm)) { it with names := it.names.set 0 xm } (Value.slice (some ⟨gn, 0, none⟩) it.names.length cn) (Value.slice (some ⟨gm, 0, none⟩) it.marks.length cm)) := Lib.hid (Dm.out.cellN rfl hsm)
    obtain ⟨wz, hwz⟩ : ∃ x : World, x = wm.setCell ⟨gn, 0, none⟩ (.string xm) := ⟨_, rfl⟩
    rw [← hwz] at HZE ⊢
    clear hwz
    obtain ⟨xb, yb⟩ := HZE.out.box.three
    have B2 := BR.out.only HZE.out.only (not_one (Nat.ne_of_gt hpl))
    obtain ⟨x2, y2⟩ := B2.three
    go_wp2_with fail
    clear xb yb x2 y2
    obtain ⟨w9, hw9, B9, Q9⟩ := set3 B2 (Value.slice (some ⟨gn, 0, none⟩) it.names.length cn) (Value.slice (some ⟨gm, 0, none⟩) it.marks.length cm) (.bool (it.late))
    rw [← hw9]
    clear hw9
    obtain ⟨cc, ff⟩ := B9.three
    refine bodyPost_ret (v := .agg #[Value.slice (some ⟨gn, 0, none⟩) it.names.length cn, Value.slice (some ⟨gm, 0, none⟩) it.marks.length cm, .bool (it.late)]) (by simp [results, Tryz.results22, go_sem, cc, ff]) rfl ?_
    exact FIN.out _ _ _ _ ({ it with names := it.names.set 0 xm }) _ _ HZE.out Q9 (by omega) ⟨Nat.zero_le _, by simp; omega, by simp; omega⟩ (fun h => h.elim)
  · go_upto_region 6 with (fail)
    refine region_pop (S := fun w' => w'.cell? ⟨bb, 1, none⟩ = some (Value.slice (some ⟨gm, 0, none⟩) it.marks.length cm)) 6 (by kernel_rfl) (by kernel_rfl) ?_
    simp only [List.take_succ_cons, List.take_zero, List.drop_succ_cons, List.drop_zero]
    refine startL (HSM.out _ _ (HST.out.kept (Kept.refl w3).drew).box) (fun hS0 => ?_)
    obtain ⟨wd, hwd⟩ : ∃ x : World, x = w3.drew := ⟨_, rfl⟩
    rw [← hwd] at hS0 ⊢
    have D0 := Lib.hid (HST.out.kept (hwd ▸ (Kept.refl w3).drew))
    have hpd : wd.heap.size ≠ p := Nat.ne_of_gt D0.out.cur.lt
    clear hwd
    refine takeL (i := 0) (v := ?_) rfl (by kernel_rfl) (by kernel_rfl) (by kernel_rfl) (fun _ _ _ h => h) (Or.inl ⟨by rfl, ?_⟩) hS0 ?_
    rotate_left 1
    · (intro w hSw; (try dsimp only at hSw); go_simp; try with_reducible rfl)
    try simp only [Act.put, List.setIfInBounds_toArray, List.set_cons_zero, List.set_cons_succ]
    refine takeL (i := 1) (v := ?_) rfl (by kernel_rfl) (by kernel_rfl) (by kernel_rfl) (fun _ _ _ h => h) (Or.inl ⟨by rfl, ?_⟩) hS0 ?_
    rotate_left 1
    · (intro w hSw; (try dsimp only at hSw); go_simp; try with_reducible rfl)
    try simp only [Act.put, List.setIfInBounds_toArray, List.set_cons_zero, List.set_cons_succ]
    refine takeL (i := 2) (v := ?_) rfl (by kernel_rfl) (by kernel_rfl) (by kernel_rfl) (fun _ _ _ h => h) (Or.inl ⟨by rfl, ?_⟩) hS0 ?_
    rotate_left 1
    · (intro w hSw; (try dsimp only at hSw); go_simp; try with_reducible rfl)
    try simp only [Act.put, List.setIfInBounds_toArray, List.set_cons_zero, List.set_cons_succ]
    refine onlyL (i := 3) rfl (by kernel_rfl) (fun K hK => ?_)
    go_simp
    obtain ⟨wa, hwa⟩ : ∃ x : World, x = wd.alloc (.cells #[.int .i64 (-1), .int .i64 3, .int .i64 4] 3) := ⟨_, rfl⟩
    rw [← hwa]
    have BL : Box wa wd.heap.size 3 #[.int .i64 (-1), .int .i64 3, .int .i64 4] := hwa ▸ Box.new wd _ _ _ rfl
    have kwa : Kept wd wa := hwa ▸ (Kept.refl wd).alloc _
    clear hwa
    have Da := Lib.hid (D0.out.kept kwa)
    refine hK.out _ _ (HSM.out _ _ Da.out.box) (fun hS1 => ?_)
    clear hK K hS0
    try simp only [Act.put, List.setIfInBounds_toArray, List.set_cons_zero, List.set_cons_succ]
    refine onlyL (i := 4) rfl (by kernel_rfl) (fun K hK => ?_)
    go_simp
    with_reducible refine (among_lit p _ wd.heap.size 3 [-1, 3, 4] wa Da.out.cur (by omega) BL hpd rfl (by omega) (by omega)).mono ?_
    rintro e wm ⟨xm, rfl, hxm, c2, on2⟩
    have Dm := Lib.hid (Da.out.drawn c2 on2)
    skip
    clear c2 on2 BL hxm
    go_wp2_with fail
    refine hK.out _ _ (HSM.out _ _ Dm.out.box) (fun hS2 => ?_)
    clear hK K hS1
    try simp only [Act.put, List.setIfInBounds_toArray, List.set_cons_zero, List.set_cons_succ]
    refine takeL (i := 5) (v := ?_) rfl (by kernel_rfl) (by kernel_rfl) (by kernel_rfl) (fun _ _ _ h => h) (Or.inl ⟨by rfl, ?_⟩) hS2 ?_
    rotate_left 1
    · (intro w hSw; (try dsimp only at hSw); go_simp; try with_reducible rfl)
    try simp only [Act.put, List.setIfInBounds_toArray, List.set_cons_zero, List.set_cons_succ]
    refine doneL (by kernel_rfl) ?_
    clear hS2
    obtain ⟨y, q0, f0⟩ := ownI_at Dm.out.marks hlm
    go_upto_region 16 with (fail)
    clear q0 f0
    have HZE : Hid (ItSt p bb w0.heap.size _ w0 (wm.setCell ⟨gm, 0, none⟩ (.int .i64 xm)) { it with marks := it.marks.set 0 xm } (Value.slice (some ⟨gn, 0, none⟩) it.names.length cn) (Value.slice (some ⟨gm, 0, none⟩) it.marks.length cm)) := Lib.hid (Dm.out.cellM rfl)
    obtain ⟨wz, hwz⟩ : ∃ x : World, x = wm.setCell ⟨gm, 0, none⟩ (.int .i64 xm) := ⟨_, rfl⟩
    rw [← hwz] at HZE ⊢
    clear hwz
    obtain ⟨xb, yb⟩ := HZE.out.box.three
    have B2 := BR.out.only HZE.out.only (not_one (Nat.ne_of_gt hpl))
    obtain ⟨x2, y2⟩ := B2.three
    go_wp2_with fail
    clear xb yb x2 y2
    obtain ⟨w9, hw9, B9, Q9⟩ := set3 B2 (Value.slice (some ⟨gn, 0, none⟩) it.names.length cn) (Value.slice (some ⟨gm, 0, none⟩) it.marks.length cm) (.bool (it.late))
    rw [← hw9]
    clear hw9
    obtain ⟨cc, ff⟩ := B9.three
    refine bodyPost_ret (v := .agg #[Value.slice (some ⟨gn, 0, none⟩) it.names.length cn, Value.slice (some ⟨gm, 0, none⟩) it.marks.length cm, .bool (it.late)]) (by simp [results, Tryz.results22, go_sem, cc, ff]) rfl ?_
    exact FIN.out _ _ _ _ ({ it with marks := it.marks.set 0 xm }) _ _ HZE.out Q9 (by omega) ⟨Nat.zero_le _, by simp; omega, by simp; omega⟩ (fun h => h.elim)
  · obtain ⟨xb, yb⟩ := HST.out.box.three
    go_upto_region 16 with (at_builtin; refine wpList_append_JD _ rfl _ _ rfl w0.heap.size (Value.slice (some ⟨gm, 0, none⟩) it.marks.length cm) it.marks rfl (HST.out.marks.kept ((Kept.refl w3).alloc _)) _ [0] rfl (ints_box1 (Box.new _ _ _ _ rfl)) (by simp only [List.length_cons, List.length_nil]; omega) (Nat.le_trans sz3 ((Kept.refl w3).alloc _).size) ?_; intro v5 w5 o5 on5 f5; have D5 := HST.out.kept ((Kept.refl w3).alloc (.cells #[.int .i64 0] 3)); have ST := Lib.hid (D5.setM on5 o5 f5); obtain ⟨x5, y5⟩ := (D5.midM on5).1.three; have hl5 : (it.marks ++ [0]).length = it.marks.length + 1 := (by simp); obtain ⟨A5, c5, rfl, _⟩ := own_form o5; rw [hl5] at ST ⊢; clear o5 on5 f5 D5 hl5)
    clear xb yb x5 y5
    obtain ⟨wz, hwz⟩ : ∃ x : World, x = w5.setCell ⟨bb, 1, none⟩ (.slice A5 (it.marks.length + 1) c5) := ⟨_, rfl⟩
    rw [← hwz] at ST ⊢
    have HZE := ST
    clear ST hwz
    obtain ⟨xb, yb⟩ := HZE.out.box.three
    have B2 := BR.out.only HZE.out.only (not_one (Nat.ne_of_gt hpl))
    obtain ⟨x2, y2⟩ := B2.three
    go_wp2_with fail
    clear xb yb x2 y2
    obtain ⟨w9, hw9, B9, Q9⟩ := set3 B2 (Value.slice (some ⟨gn, 0, none⟩) it.names.length cn) (Value.slice A5 (it.marks.length + 1) c5) (.bool (it.late))
    rw [← hw9]
    clear hw9
    obtain ⟨cc, ff⟩ := B9.three
    refine bodyPost_ret (v := .agg #[Value.slice (some ⟨gn, 0, none⟩) it.names.length cn, Value.slice A5 (it.marks.length + 1) c5, .bool (it.late)]) (by simp [results, Tryz.results22, go_sem, cc, ff]) rfl ?_
    exact FIN.out _ _ _ _ ({ it with marks := it.marks ++ [0] }) _ _ HZE.out Q9 (by omega) ⟨by omega, by (try dsimp only); omega, by simp; omega⟩ (fun h => h.elim)
  · go_wp2_with fail
    with_reducible refine (pick_any p _ 2 w3 HST.out.cur (by omega) (by omega)).mono ?_
    rintro e w4 ⟨x4, rfl, ⟨lo4, hi4⟩, c4, on4⟩
    have hx4 : x4 < 2 := hi4 (by omega)
    have HS4 := Lib.hid (HST.out.drawn c4 on4)
    clear c4 on4 hi4 HST HSB HSM
    obtain ⟨n, hn, hn3, hn4⟩ : ∃ n : Nat, 3 + x4 = (n : Int) ∧ 3 ≤ n ∧ n ≤ 4 := ⟨(3 + x4).toNat, by omega, by omega, by omega⟩
    go_wp2_with fail
    go_loopw [38] (fun _ wr => ∃ (it : ItemD) (nv mv : Value), it.names.length ≤ 4 ∧ it.marks.length ≤ it.names.length ∧ ItSt p bb w0.heap.size (m + 60) w0 wr it nv mv) (fun _ wr => 5 - lenV ((wr.cell? ⟨bb, 0, none⟩).getD (.bool false)))
    case atStart => exact ⟨it, _, _, by omega, by omega, HS4.out.le (by omega)⟩
    case round =>
      clear HS4 hln hlm
      obtain ⟨it, nv, mv, hl4, hmn, hst⟩ := hrel
      have HLN := Lib.hid hst.lenN
      obtain ⟨An, cn, rfl, _⟩ := own_form hst.names.1
      obtain ⟨Am, cm, rfl, _⟩ := own_form hst.marks
      have HST := Lib.hid hst
      have szr : w0.heap.size ≤ wr.heap.size := hst.only.size
      clear hst
      obtain ⟨xb, yb⟩ := HST.out.box.three
      by_cases hlt : it.names.length < n
      · have hlt' : (it.names.length : Int) < (n : Int) := by omega
        have hlt2 : (it.names.length : Int) < 3 + x4 := by omega
        go_upto_region 13 with (at_builtin; refine wpList_append_SX _ rfl _ _ rfl w0.heap.size (Value.slice An it.names.length cn) it.names rfl (HST.out.names.kept ((Kept.refl wr).alloc _)) _ [(⟨#[49, 84]⟩ : ByteArray)] rfl (strs_box1 (Box.new _ _ _ _ rfl) (by unfold maxLen; decide)) (by simp only [List.length_cons, List.length_nil]; omega) (Nat.le_trans szr ((Kept.refl wr).alloc _).size) ?_; intro v5 w5 o5 on5 f5; have D5 := HST.out.kept ((Kept.refl wr).alloc (.cells #[.string (⟨#[49, 84]⟩ : ByteArray)] 9)); have ST := Lib.hid (D5.setN on5 o5 f5); obtain ⟨x5, y5⟩ := (D5.midN on5).1.three; have hl5 : (it.names ++ [(⟨#[49, 84]⟩ : ByteArray)]).length = it.names.length + 1 := (by simp); obtain ⟨A5, c5, rfl, _⟩ := own_form o5.1; rw [hl5] at ST ⊢; clear o5 on5 f5 D5 hl5)
        clear xb yb x5 y5
        obtain ⟨w9, hw9⟩ : ∃ x : World, x = w5.setCell ⟨bb, 0, none⟩ (.slice A5 (it.names.length + 1) c5) := ⟨_, rfl⟩
        rw [← hw9] at ST ⊢
        clear hw9
        have HS9 : Hid (ItSt p bb w0.heap.size (m + 60) w0 w9 { it with names := it.names ++ [⟨#[49, 84]⟩] } (.slice A5 (it.names.length + 1) c5) (Value.slice Am it.marks.length cm)) := ST
        have sz9 : w0.heap.size ≤ w9.heap.size := HS9.out.only.size
        clear ST
        obtain ⟨xb, yb⟩ := HS9.out.box.three
        go_wp2_with (at_builtin; refine wpList_append_JD _ rfl _ _ rfl w0.heap.size (Value.slice Am it.marks.length cm) it.marks rfl (HS9.out.marks.kept ((Kept.refl w9).alloc _)) _ [1] rfl (ints_box1 (Box.new _ _ _ _ rfl)) (by simp only [List.length_cons, List.length_nil]; omega) (Nat.le_trans sz9 ((Kept.refl w9).alloc _).size) ?_; intro v6 w6 o6 on6 f6; have D5 := HS9.out.kept ((Kept.refl w9).alloc (.cells #[.int .i64 1] 3)); have ST := Lib.hid (D5.setM on6 o6 f6); obtain ⟨x6, y6⟩ := (D5.midM on6).1.three; have hl5 : (it.marks ++ [1]).length = it.marks.length + 1 := (by simp); obtain ⟨A6, c6, rfl, _⟩ := own_form o6; rw [hl5] at ST ⊢; clear o6 on6 f6 D5 hl5)
        clear xb yb x6 y6
        go_roundw
        case rel => exact ⟨{ it with names := it.names ++ [⟨#[49, 84]⟩], marks := it.marks ++ [1] }, _, _, by simp; omega, by simp; omega, ST.out⟩
        case measure => have h1 := ST.out.lenN; have h2 := HLN.out; simp only [List.length_append, List.length_singleton] at h1; omega
      · have hlt2 : ¬ (it.names.length : Int) < 3 + x4 := by omega
        go_upto_region 16 with (fail)
        clear xb yb
        have HZE := HST
        have hlo : 3 ≤ it.names.length := by omega
        obtain ⟨xb, yb⟩ := HZE.out.box.three
        have B2 := BR.out.only HZE.out.only (not_one (Nat.ne_of_gt hpl))
        obtain ⟨x2, y2⟩ := B2.three
        go_wp2_with fail
        clear xb yb x2 y2
        obtain ⟨w9, hw9, B9, Q9⟩ := set3 B2 (Value.slice An it.names.length cn) (Value.slice Am it.marks.length cm) (.bool (it.late))
        rw [← hw9]
        clear hw9
        obtain ⟨cc, ff⟩ := B9.three
        refine bodyPost_ret (v := .agg #[Value.slice An it.names.length cn, Value.slice Am it.marks.length cm, .bool (it.late)]) (by simp [results, Tryz.results22, go_sem, cc, ff]) rfl ?_
        exact FIN.out _ _ _ _ (it) _ _ HZE.out Q9 (by omega) ⟨by omega, by omega, by omega⟩ (fun h => h.elim)
  · obtain ⟨xb, yb⟩ := HST.out.box.three
    go_upto_region 16 with (fail)
    clear xb yb
    obtain ⟨wz, hwz, Bz, Qz⟩ := set3 HST.out.box (.slice none 0 0) (.slice none 0 0) (.bool false)
    rw [← hwz]
    clear hwz
    have HZE : Hid (ItSt p bb w0.heap.size (m + 44) w0 wz ⟨[], [], false⟩ (.slice none 0 0) (.slice none 0 0)) := Lib.hid (HST.out.zero Bz Qz)
    obtain ⟨xb, yb⟩ := HZE.out.box.three
    have B2 := BR.out.only HZE.out.only (not_one (Nat.ne_of_gt hpl))
    obtain ⟨x2, y2⟩ := B2.three
    go_wp2_with fail
    clear xb yb x2 y2
    obtain ⟨w9, hw9, B9, Q9⟩ := set3 B2 (Value.slice none 0 0) (Value.slice none 0 0) (.bool (false))
    rw [← hw9]
    clear hw9
    obtain ⟨cc, ff⟩ := B9.three
    refine bodyPost_ret (v := .agg #[Value.slice none 0 0, Value.slice none 0 0, .bool (false)]) (by simp [results, Tryz.results22, go_sem, cc, ff]) rfl ?_
    exact FIN.out _ _ _ _ (⟨[], [], false⟩) _ _ HZE.out Q9 (by omega) ⟨Nat.zero_le _, Nat.zero_le _, Nat.zero_le _⟩ (fun h => h.elim)
  · have HZE := HST
    go_upto_region 16 with (fail)
    obtain ⟨xb, yb⟩ := HZE.out.box.three
    have B2 := BR.out.only HZE.out.only (not_one (Nat.ne_of_gt hpl))
    obtain ⟨x2, y2⟩ := B2.three
    go_wp2_with fail
    clear xb yb x2 y2
    obtain ⟨w9, hw9, B9, Q9⟩ := set3 B2 (Value.slice (some ⟨gn, 0, none⟩) it.names.length cn) (Value.slice (some ⟨gm, 0, none⟩) it.marks.length cm) (.bool (it.late))
    rw [← hw9]
    clear hw9
    obtain ⟨cc, ff⟩ := B9.three
    refine bodyPost_ret (v := .agg #[Value.slice (some ⟨gn, 0, none⟩) it.names.length cn, Value.slice (some ⟨gm, 0, none⟩) it.marks.length cm, .bool (it.late)]) (by simp [results, Tryz.results22, go_sem, cc, ff]) rfl ?_
    exact FIN.out _ _ _ _ (it) _ _ HZE.out Q9 (by omega) ⟨by omega, by omega, by omega⟩ (fun h => h.elim)
end Go.Proofs.YtkekpolfdmmgeaaGreat

/- Draws of items: an item of a code. -/
namespace Go.Proofs.YtkekpolfdmmgeaaGreat
set_option linter.unusedVariables false
set_option linter.unusedSimpArgs false
set_option linter.unnecessarySimpa false
open Go.RowKit Go.Lib

theorem Elems.off {w w' : World} {A : Option Addr} {n c : Nat} {es : List ElemD} {S : List Nat} (h : Elems w (.slice A n c) es) (on : Only S w w') (hd : ∀ a, A = some a → a.block ∉ S) : Elems w' (.slice A n c) es := by
  obtain ⟨⟨A', c', e, h1, h2, h3, h4⟩, h5⟩ := h
  have e1 : A = A' := by injection e
  subst e1
  exact ⟨⟨A, c', e, h1, h2, h3, SeqA.only h4 on hd⟩, h5⟩
def nmsE (es : List ElemD) : List ByteArray := es.map ElemD.name
theorem nmsE_len (es : List ElemD) : (nmsE es).length = es.length := by simp [nmsE]
theorem nmsE_snoc {es : List ElemD} {k : Nat} {y : ElemD} (h : es[k]? = some y) : (nmsE es).take (k + 1) = (nmsE es).take k ++ [y.name] := take_snoc (by unfold nmsE; rw [List.getElem?_map, h]; rfl)
/-- an item's cells are written into a box -/
theorem OwnT.low {w : World} {base base' : Nat} {v : Value} {it : ItemD} (h : OwnT w base v it) (hb : base' ≤ base) : OwnT w base' v it := by
  obtain ⟨nv, mv, rfl, h1, h2, h3⟩ := h
  exact ⟨nv, mv, rfl, ⟨own_base h1.1 hb, h1.2⟩, own_base h2 hb, h3⟩
theorem OwnT.off {w w' : World} {base : Nat} {v : Value} {it : ItemD} {S : List Nat} (h : OwnT w base v it) (on : Only S w w') (hd : ∀ b ∈ S, b < base) : OwnT w' base v it := by
  obtain ⟨nv, mv, rfl, h1, h2, h3⟩ := h
  exact ⟨nv, mv, rfl, h1.only on (fun b hb hs => by have := (own_fp h1.1 b hb).1; have := hd b hs; omega), own_only h2 on (fun b hb hs => by have := (own_fp h2 b hb).1; have := hd b hs; omega), h3⟩
end Go.Proofs.YtkekpolfdmmgeaaGreat

/- Draws of lists of items: items of a code. -/
namespace Go.Proofs.YtkekpolfdmmgeaaGreat
set_option linter.unusedVariables false
set_option linter.unusedSimpArgs false
set_option linter.unnecessarySimpa false
open Go.RowKit Go.Lib

/-- what a draw of a list of items leaves -/
def ItsPost (w : World) (e : Ending) (w' : World) (n : Nat) : Prop := ∃ v its cs, e = .returned v ∧ OwnC w' w.heap.size v its cs ∧ its.length ≤ n ∧ ∀ it ∈ its, 1 ≤ it.names.length
theorem OwnC.off {w w' : World} {base : Nat} {v : Value} {its : List ItemD} {cs : List (Value × Value)} {S : List Nat} (h : OwnC w base v its cs) (on : Only S w w') (hd : ∀ b ∈ S, b < base ∨ w.heap.size ≤ b) : OwnC w' base v its cs :=
  h.only on (fun b hb hs => by have := h.fps b hb; have := hd b hs; omega)
theorem Ints.off {w w' : World} {A : Option Addr} {n c : Nat} {zs : List Int} {S : List Nat} (h : Ints w (.slice A n c) zs) (on : Only S w w') (hd : ∀ a, A = some a → a.block ∉ S) : Ints w' (.slice A n c) zs := by
  obtain ⟨A', c', e, h1, h2, h3, h4⟩ := h
  have e1 : A = A' := by injection e
  subst e1
  exact ⟨A, c', e, h1, h2, h3, SeqA.only h4 on hd⟩
theorem CodeAt.off {w w' : World} {A D : Option Addr} {c d : Nat} {x : CodeD} {S : List Nat} (h : CodeAt w (.agg #[.slice A x.elems.length c, .slice D x.limits.length d, .int .i64 x.repeats, .int .i64 x.bonus, .int .i64 x.keeps, .int .i64 x.fall]) x) (on : Only S w w') (hA : ∀ a, A = some a → a.block ∉ S) (hD : ∀ a, D = some a → a.block ∉ S) : CodeAt w' (.agg #[.slice A x.elems.length c, .slice D x.limits.length d, .int .i64 x.repeats, .int .i64 x.bonus, .int .i64 x.keeps, .int .i64 x.fall]) x := by
  obtain ⟨nv, mv, e0, q1, q2⟩ := h
  injection e0 with e0
  have e1 := congrArg Array.toList e0
  simp only [List.cons.injEq] at e1
  obtain ⟨rfl, rfl, _⟩ := e1
  exact ⟨_, _, rfl, q1.off on hA, q2.off on hD⟩
theorem OwnC.toA {w : World} {base : Nat} {A : Option Addr} {n c : Nat} {its : List ItemD} {cs : List (Value × Value)} (h : OwnC w base (.slice A n c) its cs) (hn : n = its.length) : ItemsA w A its cs := by
  subst hn
  exact ⟨h.1, (Seq.of_own h.2.1).addr, fun k nv mv it q1 q2 => ⟨(h.2.2.1 k nv mv it q1 q2).1.strs, (h.2.2.1 k nv mv it q1 q2).2.ints⟩⟩
/-- the first name of an item of a list -/
theorem OwnC.name {w : World} {base : Nat} {A : Option Addr} {c : Nat} {its : List ItemD} {cs : List (Value × Value)} (h : OwnC w base (.slice A its.length c) its cs) {k : Nat} (hk : k < its.length) (hn : ∀ it ∈ its, 1 ≤ it.names.length) :
    ∃ (b o b1 o1 c1 : Nat) (it : ItemD) (z : ByteArray), A = some ⟨b, o, none⟩ ∧ w.cell? ⟨b, o + k * 3, none⟩ = some (.slice (some ⟨b1, o1, none⟩) it.names.length c1) ∧ w.cell? ⟨b1, o1, none⟩ = some (.string z) ∧ z.size ≤ maxLen ∧ 0 < it.names.length := by
  obtain ⟨b, o, A1, c1, A2, c2, it, hA, hb, hi, hc, hit, q0, q1, q2⟩ := items_at (h.toA rfl) hk
  have hln := hn it (List.mem_of_getElem? hi)
  have hs := (h.2.2.1 k _ _ it hc hi).1
  obtain ⟨b1, o1, z, e1, _, hz, hx⟩ := strs_at (k := 0) hs.strs.1.addr (by omega)
  subst e1
  rw [Nat.add_zero] at hx
  exact ⟨b, o, b1, o1, c1, it, z, hA, q0, hx, hs.2 z (List.mem_of_getElem? hz), by omega⟩
end Go.Proofs.YtkekpolfdmmgeaaGreat

/- Draws of lists of items: any list. -/
namespace Go.Proofs.YtkekpolfdmmgeaaGreat
set_option linter.unusedVariables false
set_option linter.unusedSimpArgs false
set_option linter.unnecessarySimpa false
open Go.RowKit Go.Lib

/-- what a draw of any list of items leaves -/
def LsPost (w : World) (e : Ending) (w' : World) (n : Nat) : Prop := ∃ v its cs, e = .returned v ∧ OwnC w' w.heap.size v its cs ∧ its.length ≤ n
theorem ItsPost.any {w w' : World} {e : Ending} {n : Nat} (h : ItsPost w e w' n) : LsPost w e w' n := by
  obtain ⟨v, its, cs, e1, o, hl, _⟩ := h
  exact ⟨v, its, cs, e1, o, hl⟩
theorem lit_ownS {w : World} {g B : Nat} {z : ByteArray} (h : Box w g 9 #[.string z]) (hB : B ≤ g) (hz : z.size ≤ maxLen) : OwnS w B (.slice (some ⟨g, 0, none⟩) 1 1) [z] :=
  ⟨own_of_box h hB (Nat.le_refl _) (by unfold maxLen; omega) rfl rfl, fun y hy => by rw [List.mem_singleton] at hy; subst hy; exact hz⟩
theorem lit_ownI {w : World} {g B : Nat} {z : Int} (h : Box w g 3 #[.int .i64 z]) (hB : B ≤ g) : OwnI w B (.slice (some ⟨g, 0, none⟩) 1 1) [z] :=
  own_of_box h hB (Nat.le_refl _) (by unfold maxLen; omega) rfl rfl
set_option maxRecDepth 100000 in
set_option maxHeartbeats 16000000 in
theorem anyItems_any (p m : Nat) (w : World) (h : Cur w p m) (hm : m ≤ 100000000) :
    Calls Tryz.prog 55 #[.pointer (some ⟨p, 0, none⟩)] w fun e w' => LsPost w e w' 15 ∧ Cur w' p (m + 1000) ∧ Only [p] w w' := by
  have hpl := h.lt
  have CW := Lib.hid h
  clear h
  go_enter Tryz.func55, Tryz.ntmps55
  go_wp2_with fail
  with_reducible refine (pick_any p _ 7 w CW.out (by omega) (by omega)).mono ?_
  rintro e w1 ⟨x1, rfl, ⟨lo1, hi1⟩, c1, on1⟩
  obtain ⟨n1, rfl⟩ : ∃ j : Nat, x1 = (j : Int) := ⟨x1.toNat, by omega⟩
  have hn1 : n1 < 7 := by have := hi1 (by omega); omega
  have C1 := Lib.hid c1
  have N1 := Lib.hid on1
  clear c1 on1 hi1 CW
  go_wp2_with fail
  go_loopw [3, 4] (fun s3 s4 wr => ∃ (n : Nat) (its : List ItemD) (cs : List (Value × Value)), s4 = .int .i64 n ∧ its.length + n ≤ 6 ∧ OwnC wr w.heap.size s3 its cs ∧ Cur wr p (m + 2 + 80 * (6 - n)) ∧ Only [p] w wr) (fun _ s4 _ => (RowKit.intOf s4).toNat)
  case atStart => exact ⟨n1, [], [], rfl, by show 0 + n1 ≤ 6; omega, OwnC.nil0 _ _, C1.out.le (by omega), N1.out⟩
  case round =>
    clear C1 N1
    obtain ⟨n, its, cs, rfl, hin, ho, hc, hon⟩ := hrel
    have HO := Lib.hid ho
    have HC := Lib.hid hc
    have HN := Lib.hid hon
    have szr : w.heap.size ≤ wr.heap.size := hon.size
    obtain ⟨Aq, cq, rfl, hnq, hmq, _⟩ := own_form ho.2.1
    unfold maxLen at hmq
    clear ho hc hon
    by_cases hn : 0 < n
    · have hn' : (0 : Int) < (n : Int) := by omega
      go_wp2_with fail
      with_reducible refine (anyItem_any p _ wr HC.out (by omega)).mono ?_
      rintro e w2 ⟨⟨v2, it, rfl, o2, ⟨hlo, hhi, hmh⟩, hsm⟩, c2, on2⟩
      obtain ⟨nv, mv, rfl, p1, q1, nd⟩ := o2
      have hpw : p < wr.heap.size := HC.out.lt
      have HD := Lib.hid (OwnT.boxed p1 q1 nd c2 on2 hpw (Nat.le_refl _))
      obtain ⟨An, cn, rfl, _⟩ := own_form p1.1
      obtain ⟨Am, cm, rfl, _⟩ := own_form q1
      have HIT : Hid (∀ w' : World, Kept w2 w' → ItemAt w' (.agg #[Value.slice An it.names.length cn, Value.slice Am it.marks.length cm, .bool it.late]) it) := Lib.hid (fun w' k => ItemAt.kept (⟨_, _, rfl, p1.strs, q1.ints⟩ : ItemAt w2 (.agg #[Value.slice An it.names.length cn, Value.slice Am it.marks.length cm, .bool it.late]) it) k)
      have HNP : Hid (∀ b ∈ [p], b < w.heap.size ∨ wr.heap.size ≤ b) := Lib.hid (fun b hb => by rw [List.mem_singleton] at hb; subst hb; exact .inl hpl)
      clear p1 q1 nd c2 on2 hsm
      go_upto_region 6 with (fail)
      obtain ⟨w3, hw3⟩ : ∃ y : World, y = w2.alloc (.cells #[Value.slice An it.names.length cn, Value.slice Am it.marks.length cm, .bool it.late] 30) := ⟨_, rfl⟩
      have k23 : Kept w2 w3 := hw3 ▸ (Kept.refl w2).alloc _
      obtain ⟨bb, hbb⟩ : ∃ b : Nat, b = w2.heap.size := ⟨_, rfl⟩
      rw [← hw3, ← hbb] at HD ⊢
      have HI3 := Lib.hid (HIT.out w3 k23)
      clear hw3 hbb HIT k23
      obtain ⟨xi, yi⟩ := HD.out.box.three
      go_wp2_with fail
      clear xi yi
      refine (itGood_any _ it _ HI3.out).mono ?_
      rintro e w4 ⟨rfl, k4⟩
      have HDA := Lib.hid (HD.out.kept k4)
      clear HD HI3 k4
      cases hg : itemB it with
      | true =>
        clear hg
        obtain ⟨xi, yi⟩ := HDA.out.box.three
        have szW : w.heap.size ≤ w4.heap.size := Nat.le_trans szr HDA.out.only.size
        go_wp2_with (at_builtin; refine wpList_append_T _ rfl _ _ rfl w.heap.size (.slice Aq its.length cq) its.length _ rfl ((HO.out.off HDA.out.only HNP.out).kept ((Kept.refl w4).alloc _)).2.1 w4.heap.size (Value.slice An it.names.length cn) (Value.slice Am it.marks.length cm) (.bool it.late) rfl (Box.new _ _ _ _ rfl) ⟨rfl, rfl, rfl⟩ (by omega) (Nat.le_trans szW ((Kept.refl w4).alloc _).size) ?_; intro v5 w5 o5 g5 h5; have k5 := (Kept.refl w4).alloc (.cells #[Value.slice An it.names.length cn, Value.slice Am it.marks.length cm, .bool it.late] 30); have OQ := (HO.out.off HDA.out.only HNP.out).kept k5; have OP := Lib.hid (OwnC.push (it := it) OQ ⟨own_base (HDA.out.names.kept k5).1 szr, (HDA.out.names.kept k5).2⟩ (own_base (own_kept HDA.out.marks k5) szr) (List.nodup_append.2 ⟨nodup_one _, nodup_one _, fun a ha b hb e => HDA.out.apart a ha (e ▸ hb)⟩) (fun b hb hb' => by have h1 := HO.out.fps b hb'; rcases List.mem_append.1 hb with hb | hb <;> first | (have := (own_fp HDA.out.names.1 b hb).1; omega) | (have := (own_fp HDA.out.marks b hb).1; omega)) o5 g5 h5); have C5 := Lib.hid ((HDA.out.cur.kept k5).far (only_of_grown g5) (fun b hb => by have := (own_fp OQ.2.1 b hb).1; omega)); have N5 := Lib.hid (((HN.out.trans HDA.out.only).trans (k5.only _)).overD (only_of_grown g5) (fun b hb => (own_fp OQ.2.1 b hb).1)); obtain ⟨A5, c5, rfl, _⟩ := own_form o5; clear o5 g5 h5 OQ k5)
        clear xi yi
        go_roundw
        case rel => exact ⟨n - 1, its ++ [it], _, by (first | go_num | (congr 1; omega)), by simp; omega, OP.out, C5.out.le (by omega), N5.out⟩
        case measure => simp [RowKit.intOf]; omega
      | false =>
        clear hg
        go_wp2_with fail
        with_reducible refine (one_any p _ 4 w4 HDA.out.cur (by omega) (by omega)).mono ?_
        rintro e w6 ⟨b6, rfl, c6, on6⟩
        have HDB := Lib.hid (HDA.out.drawn c6 on6)
        clear c6 on6 HDA
        cases b6 with
        | true =>
          obtain ⟨xi, yi⟩ := HDB.out.box.three
          have szW : w.heap.size ≤ w6.heap.size := Nat.le_trans szr HDB.out.only.size
          go_wp2_with (at_builtin; refine wpList_append_T _ rfl _ _ rfl w.heap.size (.slice Aq its.length cq) its.length _ rfl ((HO.out.off HDB.out.only HNP.out).kept ((Kept.refl w6).alloc _)).2.1 w6.heap.size (Value.slice An it.names.length cn) (Value.slice Am it.marks.length cm) (.bool it.late) rfl (Box.new _ _ _ _ rfl) ⟨rfl, rfl, rfl⟩ (by omega) (Nat.le_trans szW ((Kept.refl w6).alloc _).size) ?_; intro v5 w5 o5 g5 h5; have k5 := (Kept.refl w6).alloc (.cells #[Value.slice An it.names.length cn, Value.slice Am it.marks.length cm, .bool it.late] 30); have OQ := (HO.out.off HDB.out.only HNP.out).kept k5; have OP := Lib.hid (OwnC.push (it := it) OQ ⟨own_base (HDB.out.names.kept k5).1 szr, (HDB.out.names.kept k5).2⟩ (own_base (own_kept HDB.out.marks k5) szr) (List.nodup_append.2 ⟨nodup_one _, nodup_one _, fun a ha b hb e => HDB.out.apart a ha (e ▸ hb)⟩) (fun b hb hb' => by have h1 := HO.out.fps b hb'; rcases List.mem_append.1 hb with hb | hb <;> first | (have := (own_fp HDB.out.names.1 b hb).1; omega) | (have := (own_fp HDB.out.marks b hb).1; omega)) o5 g5 h5); have C5 := Lib.hid ((HDB.out.cur.kept k5).far (only_of_grown g5) (fun b hb => by have := (own_fp OQ.2.1 b hb).1; omega)); have N5 := Lib.hid (((HN.out.trans HDB.out.only).trans (k5.only _)).overD (only_of_grown g5) (fun b hb => (own_fp OQ.2.1 b hb).1)); obtain ⟨A5, c5, rfl, _⟩ := own_form o5; clear o5 g5 h5 OQ k5)
          clear xi yi
          go_roundw
          case rel => exact ⟨n - 1, its ++ [it], _, by (first | go_num | (congr 1; omega)), by simp; omega, OP.out, C5.out.le (by omega), N5.out⟩
          case measure => simp [RowKit.intOf]; omega
        | false =>
          go_wp2_with fail
          go_roundw
          case rel => exact ⟨n - 1, its, cs, by (first | go_num | (congr 1; omega)), by omega, HO.out.off HDB.out.only HNP.out, HDB.out.cur.le (by omega), HN.out.trans HDB.out.only⟩
          case measure => simp [RowKit.intOf]; omega
    · obtain rfl : n = 0 := by omega
      clear hn
      go_wp2_with fail
      with_reducible refine (one_any p _ 24 wr HC.out (by omega) (by omega)).mono ?_
      rintro e w2 ⟨b2, rfl, c2, on2⟩
      have HNP : Hid (∀ b ∈ [p], b < w.heap.size ∨ wr.heap.size ≤ b) := Lib.hid (fun b hb => by rw [List.mem_singleton] at hb; subst hb; exact .inl hpl)
      have O2 := Lib.hid (HO.out.off on2 HNP.out)
      have C2 := Lib.hid c2
      have N2 := Lib.hid (HN.out.trans on2)
      clear c2 on2 HO HC HN HNP
      cases b2 with
      | false =>
        go_wp2_with fail
        go_ret
        exact ⟨⟨_, its, cs, rfl, O2.out, by omega⟩, C2.out.le (by omega), N2.out⟩
      | true =>
        go_wp2_with fail
        with_reducible refine (pick_any p _ 2 w2 C2.out (by omega) (by omega)).mono ?_
        rintro e w3 ⟨x3, rfl, ⟨lo3, hi3⟩, c3, on3⟩
        have hx3 : x3 < 2 := hi3 (by omega)
        have O3 := Lib.hid (O2.out.off on3 (fun b hb => by rw [List.mem_singleton] at hb; subst hb; exact .inl hpl))
        have C3 := Lib.hid c3
        have N3 := Lib.hid (N2.out.trans on3)
        clear c3 on3 hi3 O2 C2 N2
        go_wp2_with fail
        go_loopw [3] (fun s3 wr => ∃ (its : List ItemD) (cs : List (Value × Value)), its.length ≤ 15 ∧ OwnC wr w.heap.size s3 its cs ∧ Cur wr p (m + 600) ∧ Only [p] w wr) (fun s3 _ => 16 - lenV s3)
        case atStart => exact ⟨its, cs, by omega, O3.out, C3.out.le (by omega), N3.out⟩
        case round =>
          clear O3 C3 N3 hin hnq hmq
          obtain ⟨its, cs, hin, ho, hc, hon⟩ := hrel
          have HLV := Lib.hid (lenV_own ho.2.1)
          have HO := Lib.hid ho
          have HC := Lib.hid hc
          have HN := Lib.hid hon
          have szr : w.heap.size ≤ wr.heap.size := hon.size
          obtain ⟨Aq, cq, rfl, hnq, hmq, _⟩ := own_form ho.2.1
          unfold maxLen at hmq
          clear ho hc hon
          by_cases hlt : (its.length : Int) < 14 + x3
          · have hl15 : its.length < 15 := by omega
            go_wp2_with (at_builtin; refine wpList_append_T _ rfl _ _ rfl w.heap.size (.slice Aq its.length cq) its.length _ rfl (HO.out.kept ((((Kept.refl wr).alloc _).alloc _).alloc _)).2.1 (wr.heap.size + 1 + 1) (.slice (some ⟨wr.heap.size, 0, none⟩) 1 1) (.slice (some ⟨wr.heap.size + 1, 0, none⟩) 1 1) (.bool false) rfl (Box.new _ _ _ _ (by simp)) ⟨rfl, rfl, rfl⟩ (by omega) (Nat.le_trans szr ((((Kept.refl wr).alloc _).alloc _).alloc _).size) ?_; intro v5 w5 o5 g5 h5; have ka := (Kept.refl wr).alloc (.cells #[.string ⟨#[49, 84]⟩] 9); have kb := (Kept.refl (wr.alloc (.cells #[.string ⟨#[49, 84]⟩] 9))).alloc (.cells #[.int .i64 0] 3); have k5 := ((ka.trans kb).alloc (.cells #[.slice (some ⟨wr.heap.size, 0, none⟩) 1 1, .slice (some ⟨wr.heap.size + 1, 0, none⟩) 1 1, .bool false] 30)); have OQ := HO.out.kept k5; have ON := lit_ownS (B := w.heap.size) (((Box.new wr wr.heap.size 9 #[.string ⟨#[49, 84]⟩] rfl).alloc (.cells #[.int .i64 0] 3)).alloc (.cells #[.slice (some ⟨wr.heap.size, 0, none⟩) 1 1, .slice (some ⟨wr.heap.size + 1, 0, none⟩) 1 1, .bool false] 30)) szr (by unfold maxLen; decide); have OM := lit_ownI (B := w.heap.size) ((Box.new (wr.alloc (.cells #[.string ⟨#[49, 84]⟩] 9)) (wr.heap.size + 1) 3 #[.int .i64 0] (by simp)).alloc (.cells #[.slice (some ⟨wr.heap.size, 0, none⟩) 1 1, .slice (some ⟨wr.heap.size + 1, 0, none⟩) 1 1, .bool false] 30)) (by omega); have OP := Lib.hid (OwnC.push (it := ⟨[⟨#[49, 84]⟩], [0], false⟩) OQ ON OM (by simp [fp_some]) (fun b hb hb' => by have h1 := HO.out.fps b hb'; simp only [fp_some, List.mem_append, List.mem_singleton] at hb; omega) o5 g5 h5); have C5 := Lib.hid ((HC.out.kept k5).far (only_of_grown g5) (fun b hb => by have := (own_fp OQ.2.1 b hb).1; omega)); have N5 := Lib.hid ((HN.out.trans (k5.only _)).overD (only_of_grown g5) (fun b hb => (own_fp OQ.2.1 b hb).1)); obtain ⟨A5, c5, rfl, _⟩ := own_form o5; clear o5 g5 h5 OQ k5 ka kb ON OM)
            go_roundw
            case rel => exact ⟨its ++ [⟨[⟨#[49, 84]⟩], [0], false⟩], _, by simp; omega, OP.out, C5.out, N5.out⟩
            case measure => show 16 - (its.length + 1) < 16 - its.length; omega
          · go_wp2_with fail
            go_ret
            exact ⟨⟨_, its, cs, rfl, HO.out, hin⟩, HC.out.le (by omega), HN.out⟩
end Go.Proofs.YtkekpolfdmmgeaaGreat

/- Lists of items: one item put in another's place. -/
namespace Go.Proofs.YtkekpolfdmmgeaaGreat
set_option linter.unusedVariables false
set_option linter.unusedSimpArgs false
set_option linter.unnecessarySimpa false
open Go.RowKit Go.Lib

theorem three_of {l : List Value} (h : l.length = 3) : ∃ u v w, l = [u, v, w] := by
  match l, h with
  | [u, v, w], _ => exact ⟨u, v, w, rfl⟩
theorem flat_set3g {α : Type} (f : α → List Value) (hf : ∀ x, (f x).length = 3) (x : α) (a b c : Value) (hx : f x = [a, b, c]) : ∀ (l : List α) (k : Nat), k < l.length →
    (((l.flatMap f).set (k * 3) a).set (k * 3 + 1) b).set (k * 3 + 2) c = (l.set k x).flatMap f
  | [], k, h => by simp at h
  | y :: t, 0, _ => by
    rw [List.set_cons_zero, List.flatMap_cons, List.flatMap_cons, hx]
    obtain ⟨u, v, w, hfy⟩ := three_of (hf y)
    rw [hfy]
    rfl
  | y :: t, k + 1, h => by
    have ih := flat_set3g f hf x a b c hx t k (by simpa using h)
    have hl := hf y
    rw [List.set_cons_succ, List.flatMap_cons, List.flatMap_cons]
    rw [List.set_append_right _ _ (by rw [hl]; omega), List.set_append_right _ _ (by rw [hl]; omega), List.set_append_right _ _ (by rw [hl]; omega), hl]
    rw [show (k + 1) * 3 - 3 = k * 3 from by omega, show (k + 1) * 3 + 1 - 3 = k * 3 + 1 from by omega, show (k + 1) * 3 + 2 - 3 = k * 3 + 2 from by omega, ih]
theorem zip_set {α β : Type} (p : α) (q : β) : ∀ (l : List α) (m : List β) (j : Nat), (l.set j p).zip (m.set j q) = (l.zip m).set j (p, q)
  | [], m, j => by simp
  | a :: l, [], j => by cases j <;> simp
  | a :: l, b :: m, 0 => by simp
  | a :: l, b :: m, j + 1 => by
    simp only [List.set_cons_succ, List.zip_cons_cons]
    rw [zip_set p q l m j]
theorem fpL_set {cs : List (Value × Value)} {j : Nat} (hj : j < cs.length) (p : Value × Value) : fpL (cs.set j p) = fpL (cs.take j) ++ ((fp p.1 ++ fp p.2) ++ fpL (cs.drop (j + 1))) := by
  rw [List.set_eq_take_append_cons_drop, if_pos hj]
  simp [fpL]
theorem fpL_part {cs : List (Value × Value)} {j : Nat} (hj : j < cs.length) : fpL cs = fpL (cs.take j) ++ ((fp cs[j].1 ++ fp cs[j].2) ++ fpL (cs.drop (j + 1))) := by
  have h := fpL_set hj cs[j]
  rw [List.set_getElem_self] at h
  exact h
theorem OwnC.put {w : World} {base g cap j : Nat} {its : List ItemD} {cs : List (Value × Value)} {nv mv : Value} {it : ItemD} (h : OwnC w base (.slice (some ⟨g, 0, none⟩) its.length cap) its cs) (hj : j < its.length)
    (hn : OwnS w base nv it.names) (hm : OwnI w base mv it.marks) (hnd : (fp nv ++ fp mv).Nodup) (hd : ∀ b ∈ fp nv ++ fp mv, b ∉ fp (.slice (some ⟨g, 0, none⟩) its.length cap) ++ fpL cs) :
    OwnC (((w.setCell ⟨g, j * 3, none⟩ nv).setCell ⟨g, j * 3 + 1, none⟩ mv).setCell ⟨g, j * 3 + 2, none⟩ (.bool it.late)) base (.slice (some ⟨g, 0, none⟩) its.length cap) (its.set j it) (cs.set j (nv, mv)) := by
  obtain ⟨h1, h2, h3, h4⟩ := h
  have hjc : j < cs.length := by omega
  have on : Only [g] w (((w.setCell ⟨g, j * 3, none⟩ nv).setCell ⟨g, j * 3 + 1, none⟩ mv).setCell ⟨g, j * 3 + 2, none⟩ (.bool it.late)) := (((Only.refl [g] w).setCell (by simp) _).setCell (by simp) _).setCell (by simp) _
  have hnod := List.nodup_append.1 h4
  have hgl : ∀ b ∈ fpL cs, b ≠ g := fun b hb e => hnod.2.2 g (by simp [fp_some]) b hb e.symm
  have hgn : ∀ b ∈ fp nv ++ fp mv, b ≠ g := fun b hb e => hd b hb (by subst e; simp [fp_some])
  have hd2 : ∀ b ∈ fp nv ++ fp mv, b ∉ fpL cs := fun b hb hb' => hd b hb (List.mem_append_right _ hb')
  refine ⟨by simpa using h1, ?_, ?_, ?_⟩
  · have e1 := own_set (j := j * 3 + 2) (own_set (j := j * 3 + 1) (own_set (j := j * 3) h2 nv) mv) (.bool it.late)
    rw [flat_set3g row3 (fun _ => rfl) ((nv, mv), it) nv mv (.bool it.late) rfl _ j (by rw [List.length_zip]; omega), ← zip_set] at e1
    rw [List.length_set]
    exact e1
  · intro k nv' mv' x q1 q2
    by_cases hk : j = k
    · subst hk
      rw [List.getElem?_set_self hjc] at q1
      rw [List.getElem?_set_self hj] at q2
      simp only [Option.some.injEq, Prod.mk.injEq] at q1 q2
      obtain ⟨rfl, rfl⟩ := q1
      subst q2
      exact ⟨hn.only on (fun b hb => not_one (hgn b (List.mem_append_left _ hb))), hm.only on (fun b hb => not_one (hgn b (List.mem_append_right _ hb)))⟩
    · rw [List.getElem?_set_ne hk] at q1 q2
      obtain ⟨r1, r2⟩ := h3 k nv' mv' x q1 q2
      exact ⟨r1.only on (fun b hb => not_one (hgl b (mem_fpL q1 (.inl hb)))), r2.only on (fun b hb => not_one (hgl b (mem_fpL q1 (.inr hb))))⟩
  · have hp := fpL_part hjc
    have hs := hnod.2.1
    rw [hp] at hs
    obtain ⟨s1, s2, s3⟩ := List.nodup_append.1 hs
    obtain ⟨s4, s5, s6⟩ := List.nodup_append.1 s2
    rw [fpL_set hjc]
    have m1 : ∀ b ∈ fpL (cs.take j), b ∈ fpL cs := fun b hb => by rw [hp]; exact List.mem_append_left _ hb
    have m2 : ∀ b ∈ fpL (cs.drop (j + 1)), b ∈ fpL cs := fun b hb => by rw [hp]; exact List.mem_append_right _ (List.mem_append_right _ hb)
    refine List.nodup_append.2 ⟨hnod.1, List.nodup_append.2 ⟨s1, List.nodup_append.2 ⟨hnd, s5, fun x hx y hy e => hd2 x hx (e ▸ m2 y hy)⟩, fun x hx y hy e => ?_⟩, fun x hx y hy e => ?_⟩
    · rcases List.mem_append.1 hy with hy | hy
      · exact hd2 y hy (e ▸ m1 x hx)
      · exact s3 x hx y (List.mem_append_right _ hy) e
    · rw [fp_some, List.mem_singleton] at hx
      rcases List.mem_append.1 hy with hy | hy
      · exact hgl y (m1 y hy) (e.symm.trans hx)
      · rcases List.mem_append.1 hy with hy | hy
        · exact hgn y hy (e.symm.trans hx)
        · exact hgl y (m2 y hy) (e.symm.trans hx)
end Go.Proofs.YtkekpolfdmmgeaaGreat

/- Draws: a code and a list of items. -/
namespace Go.Proofs.YtkekpolfdmmgeaaGreat
set_option linter.unusedVariables false
set_option linter.unusedSimpArgs false
set_option linter.unnecessarySimpa false
open Go.RowKit Go.Lib

theorem OwnK.off {w w' : World} {base : Nat} {v : Value} {c : CodeD} {S : List Nat} (h : OwnK w base v c) (on : Only S w w') (hd : ∀ b ∈ S, b < base ∨ w.heap.size ≤ b) : OwnK w' base v c :=
  h.only on (fun b hb hs => by have := h.fps b hb; have := hd b hs; omega)
/-- what a draw of a code and a list of items leaves -/
def JPost (w : World) (e : Ending) (w' : World) : Prop := ∃ cv lv c its cs, e = .returned (.tuple #[cv, lv]) ∧ OwnK w' w.heap.size cv c ∧ OwnC w' w.heap.size lv its cs ∧ c.elems.length ≤ 25 ∧ c.limits.length ≤ 6 ∧ its.length ≤ 15
end Go.Proofs.YtkekpolfdmmgeaaGreat
