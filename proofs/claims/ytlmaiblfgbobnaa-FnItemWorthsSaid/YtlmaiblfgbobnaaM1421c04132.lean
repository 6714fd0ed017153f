/- Contracts of functions that the proof leans on. No condition. -/
import Derived.Test.YtlmaiblfgbobnaaMda1d87c7bf
/- Draws of items: any item. -/
namespace Go.Proofs.Ytlmaiblfgbobnaa
set_option linter.unusedVariables false
set_option linter.unusedSimpArgs false
set_option linter.unnecessarySimpa false
open Go.RowKit Go.Lib

theorem ItSt.lenN {p bb B m : Nat} {w1 wr : World} {it : ItemD} {nv mv : Value} (H : ItSt p bb B m w1 wr it nv mv) : lenV ((wr.cell? ⟨bb, 0, none⟩).getD (.bool false)) = it.names.length := by
  rw [H.box.cell 0]
  exact lenV_own H.names.1
set_option maxRecDepth 100000 in
set_option maxHeartbeats 16000000 in
theorem anyItem_any (p m : Nat) (w : World) (h : Cur w p m) (hm : m ≤ 1000000000) :
    Calls Try.prog 91 #[.pointer (some ⟨p, 0, none⟩)] w fun e w' => ItPost w e w' 0 4 False ∧ Cur w' p (m + 70) ∧ Only [p] w w' := by
  have hpl := h.lt
  have CW := Lib.hid h
  clear h
  go_enter Try.func91, Try.ntmps91
  go_wp2_with fail
  obtain ⟨w0, hw0⟩ : ∃ x : World, x = w.alloc (.cells #[.slice none 0 0, .slice none 0 0, .bool false] 52) := ⟨_, rfl⟩
  have hws : w.heap.size + 1 = w0.heap.size := by rw [hw0]; simp
  rw [← hw0]
  have BR := Lib.hid (show Box w0 w.heap.size 52 #[.slice none 0 0, .slice none 0 0, .bool false] from hw0 ▸ Box.new w _ _ _ rfl)
  have K0 : Hid (Kept w w0) := Lib.hid (hw0 ▸ (Kept.refl w).alloc _)
  have C0 := Lib.hid (CW.out.kept K0.out)
  have sz0 : w.heap.size < w0.heap.size := by rw [hw0]; simp
  have hpl0 : p < w0.heap.size := by omega
  have FIN : Hid (∀ (bb M : Nat) (wr w9 : World) (it : ItemD) (nv mv : Value), ItSt p bb w0.heap.size M w0 wr it nv mv → Only [w.heap.size] wr w9 → M ≤ m + 70 → (0 ≤ it.names.length ∧ it.names.length ≤ 4 ∧ it.marks.length ≤ 4) → (False → it.marks.length = it.names.length) →
      ItPost w (.returned (.agg #[nv, mv, .bool it.late])) w9 0 4 False ∧ Cur w9 p (m + 70) ∧ Only [p] w w9) := Lib.hid (fun bb M wr w9 it nv mv H q h1 h2 h3 => by
    have a1 := H.names.only q (fun b hb => not_one (by have := (own_fp H.names.1 b hb).1; omega))
    have a2 := own_only H.marks q (fun b hb => not_one (by have := (own_fp H.marks b hb).1; omega))
    obtain ⟨_, _, e, _, _, a3⟩ := H.own
    refine ⟨⟨_, it, rfl, ⟨nv, mv, rfl, ⟨own_base a1.1 (by omega), a1.2⟩, own_base a2 (by omega), a3⟩, h2, h3⟩, (H.cur.far q (fun x hx => by rw [List.mem_singleton] at hx; omega)).le h1, ?_⟩
    exact ((K0.out.only _).trans H.only).overD q (fun x hx => by rw [List.mem_singleton] at hx; omega))
  clear hw0 CW
  try rw [hws]
  clear hws
  obtain ⟨wl, hwl⟩ : ∃ x : World, x = w0.alloc (.cells #[.string ⟨#[51, 65]⟩, .string ⟨#[50, 84]⟩, .string ⟨#[52, 83]⟩, .string ⟨#[67, 67, 79, 83, 80]⟩, .string ⟨#[83, 84]⟩, .string ⟨#[65]⟩, .string ⟨#[48]⟩] 9) := ⟨_, rfl⟩
  rw [← hwl]
  have BL : Box wl w0.heap.size 9 #[.string ⟨#[51, 65]⟩, .string ⟨#[50, 84]⟩, .string ⟨#[52, 83]⟩, .string ⟨#[67, 67, 79, 83, 80]⟩, .string ⟨#[83, 84]⟩, .string ⟨#[65]⟩, .string ⟨#[48]⟩] := hwl ▸ Box.new w0 _ _ _ rfl
  have kl : Kept w0 wl := hwl ▸ (Kept.refl w0).alloc _
  clear hwl
  have HQ7 : Hid (Strs wl (.slice (some ⟨w0.heap.size, 0, none⟩) 7 7) [⟨#[51, 65]⟩, ⟨#[50, 84]⟩, ⟨#[52, 83]⟩, ⟨#[67, 67, 79, 83, 80]⟩, ⟨#[83, 84]⟩, ⟨#[65]⟩, ⟨#[48]⟩]) := Lib.hid (strs_lit [⟨#[51, 65]⟩, ⟨#[50, 84]⟩, ⟨#[52, 83]⟩, ⟨#[67, 67, 79, 83, 80]⟩, ⟨#[83, 84]⟩, ⟨#[65]⟩, ⟨#[48]⟩] BL rfl (by decide) (by decide))
  with_reducible refine (called_any p m (some ⟨w0.heap.size, 0, none⟩) 7 7 [⟨#[51, 65]⟩, ⟨#[50, 84]⟩, ⟨#[52, 83]⟩, ⟨#[67, 67, 79, 83, 80]⟩, ⟨#[83, 84]⟩, ⟨#[65]⟩, ⟨#[48]⟩] wl (C0.out.kept kl) (by omega) HQ7.out rfl (by decide) (by decide) (fun a e => by cases e; exact Nat.ne_of_gt hpl0)).mono ?_
  rintro e w1 ⟨⟨v1, it, rfl, o1, ⟨hlo, hhi, hmh⟩, hsm⟩, c1, on1⟩
  have hmn : it.marks.length = it.names.length := hsm trivial
  obtain ⟨nv, mv, rfl, p1, q1, nd⟩ := o1
  have hl := kl.size
  have HD := Lib.hid (OwnT.boxed ⟨own_base p1.1 hl, p1.2⟩ (own_base q1 hl) nd c1 ((kl.only _).trans on1) hpl0 (Nat.le_refl _))
  rcases ownS_casesQ p1 with ⟨_, he⟩ | ⟨gn, cn, rfl⟩
  · rw [he] at hlo; simp at hlo
  rcases ownI_cases q1 with ⟨_, he⟩ | ⟨gm, cm, rfl, _, _⟩
  · rw [he] at hmn; simp at hmn; omega
  have hln : 0 < it.names.length := by omega
  have hlm : 0 < it.marks.length := by omega
  have hNM : Hid (it.marks.length = it.names.length) := Lib.hid hmn
  have hnm2 : it.marks.length ≤ it.names.length := by omega
  obtain ⟨An, hAn⟩ : ∃ A : Option Addr, A = some ⟨gn, 0, none⟩ := ⟨_, rfl⟩
  obtain ⟨Am, hAm⟩ : ∃ A : Option Addr, A = some ⟨gm, 0, none⟩ := ⟨_, rfl⟩
  clear p1 q1 nd c1 on1 kl BL hsm hl hmn C0 An hAn Am hAm
  go_wp2_with fail
  obtain ⟨wb, hwb⟩ : ∃ x : World, x = w1.alloc (.cells #[.slice (some ⟨gn, 0, none⟩) it.names.length cn, .slice (some ⟨gm, 0, none⟩) it.marks.length cm, .bool it.late] 52) := ⟨_, rfl⟩
  obtain ⟨bb, hbb⟩ : ∃ b : Nat, b = w1.heap.size := ⟨_, rfl⟩
  rw [← hwb, ← hbb] at HD ⊢
  clear hwb hbb
  with_reducible refine (pick_any p _ 24 wb HD.out.cur (by omega) (by omega)).mono ?_
  rintro e w3 ⟨s, rfl, ⟨los, his⟩, c3, on3⟩
  have HST := Lib.hid ((HD.out.drawn c3 on3).le (m' := m + 44) (by omega))
  have sz3 : w0.heap.size ≤ w3.heap.size := HST.out.only.size
  clear c3 on3 HD his los
  have HSB : Hid (∀ (w' : World) (v : Value), Box w' bb 52 #[Value.slice (some ⟨gn, 0, none⟩) it.names.length cn, v, .bool it.late] → w'.cell? ⟨bb, 0, none⟩ = some (Value.slice (some ⟨gn, 0, none⟩) it.names.length cn)) := Lib.hid (fun w' v b => b.cell 0)
  have HSM : Hid (∀ (w' : World) (v : Value), Box w' bb 52 #[v, Value.slice (some ⟨gm, 0, none⟩) it.marks.length cm, .bool it.late] → w'.cell? ⟨bb, 1, none⟩ = some (Value.slice (some ⟨gm, 0, none⟩) it.marks.length cm)) := Lib.hid (fun w' v b => b.cell 1)
  have hcase : s = 0 ∨ s = 1 ∨ s = 2 ∨ s = 3 ∨ s = 4 ∨ (¬ s = 0 ∧ ¬ s = 1 ∧ ¬ s = 2 ∧ ¬ s = 3 ∧ ¬ s = 4) := by omega
  rcases hcase with rfl | rfl | rfl | rfl | rfl | ⟨g0, g1, g2, g3, g4⟩
  · go_upto_region 4 with (fail)
    refine region_pop (S := fun w' => w'.cell? ⟨bb, 0, none⟩ = some (Value.slice (some ⟨gn, 0, none⟩) it.names.length cn)) 6 (by kernel_rfl) (by kernel_rfl) ?_
    simp only [List.take_succ_cons, List.take_zero, List.drop_succ_cons, List.drop_zero]
    refine startL (HSB.out _ _ (HST.out.kept (Kept.refl w3).drew).box) (fun hS0 => ?_)
    obtain ⟨wd, hwd⟩ : ∃ x : World, x = w3.drew := ⟨_, rfl⟩
    rw [← hwd] at hS0 ⊢
    have D0 := Lib.hid (HST.out.kept (hwd ▸ (Kept.refl w3).drew))
    have hpd : wd.heap.size ≠ p := Nat.ne_of_gt D0.out.cur.lt
    clear hwd
    refine takeL (i := 0) (v := ?_) rfl (by kernel_rfl) (by kernel_rfl) (by kernel_rfl) (fun _ _ _ h => h) (Or.inl ⟨by rfl, ?_⟩) hS0 ?_
    rotate_left 1
    · (intro w hSw; (try dsimp only at hSw); go_simp; try with_reducible rfl)
    try simp only [Act.put, List.setIfInBounds_toArray, List.set_cons_zero, List.set_cons_succ]
    refine takeL (i := 1) (v := ?_) rfl (by kernel_rfl) (by kernel_rfl) (by kernel_rfl) (fun _ _ _ h => h) (Or.inl ⟨by rfl, ?_⟩) hS0 ?_
    rotate_left 1
    · (intro w hSw; (try dsimp only at hSw); go_simp; try with_reducible rfl)
    try simp only [Act.put, List.setIfInBounds_toArray, List.set_cons_zero, List.set_cons_succ]
    refine takeL (i := 2) (v := ?_) rfl (by kernel_rfl) (by kernel_rfl) (by kernel_rfl) (fun _ _ _ h => h) (Or.inl ⟨by rfl, ?_⟩) hS0 ?_
    rotate_left 1
    · (intro w hSw; (try dsimp only at hSw); go_simp; try with_reducible rfl)
    try simp only [Act.put, List.setIfInBounds_toArray, List.set_cons_zero, List.set_cons_succ]
    refine onlyL (i := 3) rfl (by kernel_rfl) (fun K hK => ?_)
    go_simp
    obtain ⟨wa, hwa⟩ : ∃ x : World, x = wd.alloc (.cells #[.string ⟨#[]⟩, .string ⟨#[97]⟩, .string ⟨#[65, 66, 67, 68, 69]⟩, .string ⟨#[65, 66, 67, 68, 69, 70]⟩, .string ⟨#[51, 65, 60]⟩, .string ⟨#[65, 32, 66]⟩] 9) := ⟨_, rfl⟩
    rw [← hwa]
    have BL : Box wa wd.heap.size 9 #[.string ⟨#[]⟩, .string ⟨#[97]⟩, .string ⟨#[65, 66, 67, 68, 69]⟩, .string ⟨#[65, 66, 67, 68, 69, 70]⟩, .string ⟨#[51, 65, 60]⟩, .string ⟨#[65, 32, 66]⟩] := hwa ▸ Box.new wd _ _ _ rfl
    have kwa : Kept wd wa := hwa ▸ (Kept.refl wd).alloc _
    clear hwa
    have Da := Lib.hid (D0.out.kept kwa)
    refine hK.out _ _ (HSB.out _ _ Da.out.box) (fun hS1 => ?_)
    clear hK K hS0
    try simp only [Act.put, List.setIfInBounds_toArray, List.set_cons_zero, List.set_cons_succ]
    refine onlyL (i := 4) rfl (by kernel_rfl) (fun K hK => ?_)
    go_simp
    with_reducible refine (of_lit p _ wd.heap.size 6 ([⟨#[]⟩, ⟨#[97]⟩, ⟨#[65, 66, 67, 68, 69]⟩, ⟨#[65, 66, 67, 68, 69, 70]⟩, ⟨#[51, 65, 60]⟩, ⟨#[65, 32, 66]⟩] : List ByteArray) wa Da.out.cur (by omega) BL hpd rfl (by omega) (by omega) (by decide)).mono ?_
    rintro e wm ⟨xm, rfl, hxm, c2, on2⟩
    have Dm := Lib.hid (Da.out.drawn c2 on2)
    have hsm : xm.size ≤ maxLen := lit_small (by decide) hxm
    clear c2 on2 BL hxm
    go_wp2_with fail
    refine hK.out _ _ (HSB.out _ _ Dm.out.box) (fun hS2 => ?_)
    clear hK K hS1
    try simp only [Act.put, List.setIfInBounds_toArray, List.set_cons_zero, List.set_cons_succ]
    refine takeL (i := 5) (v := ?_) rfl (by kernel_rfl) (by kernel_rfl) (by kernel_rfl) (fun _ _ _ h => h) (Or.inl ⟨by rfl, ?_⟩) hS2 ?_
    rotate_left 1
    · (intro w hSw; (try dsimp only at hSw); go_simp; try with_reducible rfl)
    try simp only [Act.put, List.setIfInBounds_toArray, List.set_cons_zero, List.set_cons_succ]
    refine doneL (by kernel_rfl) ?_
    clear hS2
    obtain ⟨y, _, q0, f0⟩ := ownS_at Dm.out.names hln
    go_upto_region 16 with (fail)
    clear q0 f0
    have HZE : Hid (ItSt p bb w0.heap.size _ w0 (wm.setCell ⟨gn, 0, none⟩ (.string xm)) { it with names := it.names.set 0 xm } (Value.slice (some ⟨gn, 0, none⟩) it.names.length cn) (Value.slice (some ⟨gm, 0, none⟩) it.marks.length cm)) := Lib.hid (Dm.out.cellN rfl hsm)
    obtain ⟨wz, hwz⟩ : ∃ x : World, x = wm.setCell ⟨gn, 0, none⟩ (.string xm) := ⟨_, rfl⟩
    rw [← hwz] at HZE ⊢
    clear hwz
    obtain ⟨xb, yb⟩ := HZE.out.box.three
    have B2 := BR.out.only HZE.out.only (not_one (Nat.ne_of_gt hpl))
    obtain ⟨x2, y2⟩ := B2.three
    go_wp2_with fail
    clear xb yb x2 y2
    obtain ⟨w9, hw9, B9, Q9⟩ := set3 B2 (Value.slice (some ⟨gn, 0, none⟩) it.names.length cn) (Value.slice (some ⟨gm, 0, none⟩) it.marks.length cm) (.bool (it.late))
    rw [← hw9]
    clear hw9
    obtain ⟨cc, ff⟩ := B9.three
    refine bodyPost_ret (v := .agg #[Value.slice (some ⟨gn, 0, none⟩) it.names.length cn, Value.slice (some ⟨gm, 0, none⟩) it.marks.length cm, .bool (it.late)]) (by simp [results, Try.results91, go_sem, cc, ff]) rfl ?_
    exact FIN.out _ _ _ _ ({ it with names := it.names.set 0 xm }) _ _ HZE.out Q9 (by omega) ⟨Nat.zero_le _, by simp; omega, by simp; omega⟩ (fun h => h.elim)
  · go_upto_region 6 with (fail)
    refine region_pop (S := fun w' => w'.cell? ⟨bb, 1, none⟩ = some (Value.slice (some ⟨gm, 0, none⟩) it.marks.length cm)) 6 (by kernel_rfl) (by kernel_rfl) ?_
    simp only [List.take_succ_cons, List.take_zero, List.drop_succ_cons, List.drop_zero]
    refine startL (HSM.out _ _ (HST.out.kept (Kept.refl w3).drew).box) (fun hS0 => ?_)
    obtain ⟨wd, hwd⟩ : ∃ x : World, x = w3.drew := ⟨_, rfl⟩
    rw [← hwd] at hS0 ⊢
    have D0 := Lib.hid (HST.out.kept (hwd ▸ (Kept.refl w3).drew))
    have hpd : wd.heap.size ≠ p := Nat.ne_of_gt D0.out.cur.lt
    clear hwd
    refine takeL (i := 0) (v := ?_) rfl (by kernel_rfl) (by kernel_rfl) (by kernel_rfl) (fun _ _ _ h => h) (Or.inl ⟨by rfl, ?_⟩) hS0 ?_
    rotate_left 1
    · (intro w hSw; (try dsimp only at hSw); go_simp; try with_reducible rfl)
    try simp only [Act.put, List.setIfInBounds_toArray, List.set_cons_zero, List.set_cons_succ]
    refine takeL (i := 1) (v := ?_) rfl (by kernel_rfl) (by kernel_rfl) (by kernel_rfl) (fun _ _ _ h => h) (Or.inl ⟨by rfl, ?_⟩) hS0 ?_
    rotate_left 1
    · (intro w hSw; (try dsimp only at hSw); go_simp; try with_reducible rfl)
    try simp only [Act.put, List.setIfInBounds_toArray, List.set_cons_zero, List.set_cons_succ]
    refine takeL (i := 2) (v := ?_) rfl (by kernel_rfl) (by kernel_rfl) (by kernel_rfl) (fun _ _ _ h => h) (Or.inl ⟨by rfl, ?_⟩) hS0 ?_
    rotate_left 1
    · (intro w hSw; (try dsimp only at hSw); go_simp; try with_reducible rfl)
    try simp only [Act.put, List.setIfInBounds_toArray, List.set_cons_zero, List.set_cons_succ]
    refine onlyL (i := 3) rfl (by kernel_rfl) (fun K hK => ?_)
    go_simp
    obtain ⟨wa, hwa⟩ : ∃ x : World, x = wd.alloc (.cells #[.int .i64 (-1), .int .i64 3, .int .i64 4] 3) := ⟨_, rfl⟩
    rw [← hwa]
    have BL : Box wa wd.heap.size 3 #[.int .i64 (-1), .int .i64 3, .int .i64 4] := hwa ▸ Box.new wd _ _ _ rfl
    have kwa : Kept wd wa := hwa ▸ (Kept.refl wd).alloc _
    clear hwa
    have Da := Lib.hid (D0.out.kept kwa)
    refine hK.out _ _ (HSM.out _ _ Da.out.box) (fun hS1 => ?_)
    clear hK K hS0
    try simp only [Act.put, List.setIfInBounds_toArray, List.set_cons_zero, List.set_cons_succ]
    refine onlyL (i := 4) rfl (by kernel_rfl) (fun K hK => ?_)
    go_simp
    with_reducible refine (among_lit p _ wd.heap.size 3 [-1, 3, 4] wa Da.out.cur (by omega) BL hpd rfl (by omega) (by omega)).mono ?_
    rintro e wm ⟨xm, rfl, hxm, c2, on2⟩
    have Dm := Lib.hid (Da.out.drawn c2 on2)
    skip
    clear c2 on2 BL hxm
    go_wp2_with fail
    refine hK.out _ _ (HSM.out _ _ Dm.out.box) (fun hS2 => ?_)
    clear hK K hS1
    try simp only [Act.put, List.setIfInBounds_toArray, List.set_cons_zero, List.set_cons_succ]
    refine takeL (i := 5) (v := ?_) rfl (by kernel_rfl) (by kernel_rfl) (by kernel_rfl) (fun _ _ _ h => h) (Or.inl ⟨by rfl, ?_⟩) hS2 ?_
    rotate_left 1
    · (intro w hSw; (try dsimp only at hSw); go_simp; try with_reducible rfl)
    try simp only [Act.put, List.setIfInBounds_toArray, List.set_cons_zero, List.set_cons_succ]
    refine doneL (by kernel_rfl) ?_
    clear hS2
    obtain ⟨y, q0, f0⟩ := ownI_at Dm.out.marks hlm
    go_upto_region 16 with (fail)
    clear q0 f0
    have HZE : Hid (ItSt p bb w0.heap.size _ w0 (wm.setCell ⟨gm, 0, none⟩ (.int .i64 xm)) { it with marks := it.marks.set 0 xm } (Value.slice (some ⟨gn, 0, none⟩) it.names.length cn) (Value.slice (some ⟨gm, 0, none⟩) it.marks.length cm)) := Lib.hid (Dm.out.cellM rfl)
    obtain ⟨wz, hwz⟩ : ∃ x : World, x = wm.setCell ⟨gm, 0, none⟩ (.int .i64 xm) := ⟨_, rfl⟩
    rw [← hwz] at HZE ⊢
    clear hwz
    obtain ⟨xb, yb⟩ := HZE.out.box.three
    have B2 := BR.out.only HZE.out.only (not_one (Nat.ne_of_gt hpl))
    obtain ⟨x2, y2⟩ := B2.three
    go_wp2_with fail
    clear xb yb x2 y2
    obtain ⟨w9, hw9, B9, Q9⟩ := set3 B2 (Value.slice (some ⟨gn, 0, none⟩) it.names.length cn) (Value.slice (some ⟨gm, 0, none⟩) it.marks.length cm) (.bool (it.late))
    rw [← hw9]
    clear hw9
    obtain ⟨cc, ff⟩ := B9.three
    refine bodyPost_ret (v := .agg #[Value.slice (some ⟨gn, 0, none⟩) it.names.length cn, Value.slice (some ⟨gm, 0, none⟩) it.marks.length cm, .bool (it.late)]) (by simp [results, Try.results91, go_sem, cc, ff]) rfl ?_
    exact FIN.out _ _ _ _ ({ it with marks := it.marks.set 0 xm }) _ _ HZE.out Q9 (by omega) ⟨Nat.zero_le _, by simp; omega, by simp; omega⟩ (fun h => h.elim)
  · obtain ⟨xb, yb⟩ := HST.out.box.three
    go_upto_region 16 with (at_builtin; refine wpList_append_JD _ rfl _ _ rfl w0.heap.size (Value.slice (some ⟨gm, 0, none⟩) it.marks.length cm) it.marks rfl (HST.out.marks.kept ((Kept.refl w3).alloc _)) _ [0] rfl (ints_box1 (Box.new _ _ _ _ rfl)) (by simp only [List.length_cons, List.length_nil]; omega) (Nat.le_trans sz3 ((Kept.refl w3).alloc _).size) ?_; intro v5 w5 o5 on5 f5; have D5 := HST.out.kept ((Kept.refl w3).alloc (.cells #[.int .i64 0] 3)); have ST := Lib.hid (D5.setM on5 o5 f5); obtain ⟨x5, y5⟩ := (D5.midM on5).1.three; have hl5 : (it.marks ++ [0]).length = it.marks.length + 1 := (by simp); obtain ⟨A5, c5, rfl, _⟩ := own_form o5; rw [hl5] at ST ⊢; clear o5 on5 f5 D5 hl5)
    clear xb yb x5 y5
    obtain ⟨wz, hwz⟩ : ∃ x : World, x = w5.setCell ⟨bb, 1, none⟩ (.slice A5 (it.marks.length + 1) c5) := ⟨_, rfl⟩
    rw [← hwz] at ST ⊢
    have HZE := ST
    clear ST hwz
    obtain ⟨xb, yb⟩ := HZE.out.box.three
    have B2 := BR.out.only HZE.out.only (not_one (Nat.ne_of_gt hpl))
    obtain ⟨x2, y2⟩ := B2.three
    go_wp2_with fail
    clear xb yb x2 y2
    obtain ⟨w9, hw9, B9, Q9⟩ := set3 B2 (Value.slice (some ⟨gn, 0, none⟩) it.names.length cn) (Value.slice A5 (it.marks.length + 1) c5) (.bool (it.late))
    rw [← hw9]
    clear hw9
    obtain ⟨cc, ff⟩ := B9.three
    refine bodyPost_ret (v := .agg #[Value.slice (some ⟨gn, 0, none⟩) it.names.length cn, Value.slice A5 (it.marks.length + 1) c5, .bool (it.late)]) (by simp [results, Try.results91, go_sem, cc, ff]) rfl ?_
    exact FIN.out _ _ _ _ ({ it with marks := it.marks ++ [0] }) _ _ HZE.out Q9 (by omega) ⟨by omega, by (try dsimp only); omega, by simp; omega⟩ (fun h => h.elim)
  · go_wp2_with fail
    with_reducible refine (pick_any p _ 2 w3 HST.out.cur (by omega) (by omega)).mono ?_
    rintro e w4 ⟨x4, rfl, ⟨lo4, hi4⟩, c4, on4⟩
    have hx4 : x4 < 2 := hi4 (by omega)
    have HS4 := Lib.hid (HST.out.drawn c4 on4)
    clear c4 on4 hi4 HST HSB HSM
    obtain ⟨n, hn, hn3, hn4⟩ : ∃ n : Nat, 3 + x4 = (n : Int) ∧ 3 ≤ n ∧ n ≤ 4 := ⟨(3 + x4).toNat, by omega, by omega, by omega⟩
    go_wp2_with fail
    go_loopw [38] (fun _ wr => ∃ (it : ItemD) (nv mv : Value), it.names.length ≤ 4 ∧ it.marks.length ≤ it.names.length ∧ ItSt p bb w0.heap.size (m + 60) w0 wr it nv mv) (fun _ wr => 5 - lenV ((wr.cell? ⟨bb, 0, none⟩).getD (.bool false)))
    case atStart => exact ⟨it, _, _, by omega, by omega, HS4.out.le (by omega)⟩
    case round =>
      clear HS4 hln hlm
      obtain ⟨it, nv, mv, hl4, hmn, hst⟩ := hrel
      have HLN := Lib.hid hst.lenN
      obtain ⟨An, cn, rfl, _⟩ := own_form hst.names.1
      obtain ⟨Am, cm, rfl, _⟩ := own_form hst.marks
      have HST := Lib.hid hst
      have szr : w0.heap.size ≤ wr.heap.size := hst.only.size
      clear hst
      obtain ⟨xb, yb⟩ := HST.out.box.three
      by_cases hlt : it.names.length < n
      · have hlt' : (it.names.length : Int) < (n : Int) := by omega
        have hlt2 : (it.names.length : Int) < 3 + x4 := by omega
        go_upto_region 13 with (at_builtin; refine wpList_append_SX _ rfl _ _ rfl w0.heap.size (Value.slice An it.names.length cn) it.names rfl (HST.out.names.kept ((Kept.refl wr).alloc _)) _ [(⟨#[49, 84]⟩ : ByteArray)] rfl (strs_box1 (Box.new _ _ _ _ rfl) (by unfold maxLen; decide)) (by simp only [List.length_cons, List.length_nil]; omega) (Nat.le_trans szr ((Kept.refl wr).alloc _).size) ?_; intro v5 w5 o5 on5 f5; have D5 := HST.out.kept ((Kept.refl wr).alloc (.cells #[.string (⟨#[49, 84]⟩ : ByteArray)] 9)); have ST := Lib.hid (D5.setN on5 o5 f5); obtain ⟨x5, y5⟩ := (D5.midN on5).1.three; have hl5 : (it.names ++ [(⟨#[49, 84]⟩ : ByteArray)]).length = it.names.length + 1 := (by simp); obtain ⟨A5, c5, rfl, _⟩ := own_form o5.1; rw [hl5] at ST ⊢; clear o5 on5 f5 D5 hl5)
        clear xb yb x5 y5
        obtain ⟨w9, hw9⟩ : ∃ x : World, x = w5.setCell ⟨bb, 0, none⟩ (.slice A5 (it.names.length + 1) c5) := ⟨_, rfl⟩
        rw [← hw9] at ST ⊢
        clear hw9
        have HS9 : Hid (ItSt p bb w0.heap.size (m + 60) w0 w9 { it with names := it.names ++ [⟨#[49, 84]⟩] } (.slice A5 (it.names.length + 1) c5) (Value.slice Am it.marks.length cm)) := ST
        have sz9 : w0.heap.size ≤ w9.heap.size := HS9.out.only.size
        clear ST
        obtain ⟨xb, yb⟩ := HS9.out.box.three
        go_wp2_with (at_builtin; refine wpList_append_JD _ rfl _ _ rfl w0.heap.size (Value.slice Am it.marks.length cm) it.marks rfl (HS9.out.marks.kept ((Kept.refl w9).alloc _)) _ [1] rfl (ints_box1 (Box.new _ _ _ _ rfl)) (by simp only [List.length_cons, List.length_nil]; omega) (Nat.le_trans sz9 ((Kept.refl w9).alloc _).size) ?_; intro v6 w6 o6 on6 f6; have D5 := HS9.out.kept ((Kept.refl w9).alloc (.cells #[.int .i64 1] 3)); have ST := Lib.hid (D5.setM on6 o6 f6); obtain ⟨x6, y6⟩ := (D5.midM on6).1.three; have hl5 : (it.marks ++ [1]).length = it.marks.length + 1 := (by simp); obtain ⟨A6, c6, rfl, _⟩ := own_form o6; rw [hl5] at ST ⊢; clear o6 on6 f6 D5 hl5)
        clear xb yb x6 y6
        go_roundw
        case rel => exact ⟨{ it with names := it.names ++ [⟨#[49, 84]⟩], marks := it.marks ++ [1] }, _, _, by simp; omega, by simp; omega, ST.out⟩
        case measure => have h1 := ST.out.lenN; have h2 := HLN.out; simp only [List.length_append, List.length_singleton] at h1; omega
      · have hlt2 : ¬ (it.names.length : Int) < 3 + x4 := by omega
        go_upto_region 16 with (fail)
        clear xb yb
        have HZE := HST
        have hlo : 3 ≤ it.names.length := by omega
        obtain ⟨xb, yb⟩ := HZE.out.box.three
        have B2 := BR.out.only HZE.out.only (not_one (Nat.ne_of_gt hpl))
        obtain ⟨x2, y2⟩ := B2.three
        go_wp2_with fail
        clear xb yb x2 y2
        obtain ⟨w9, hw9, B9, Q9⟩ := set3 B2 (Value.slice An it.names.length cn) (Value.slice Am it.marks.length cm) (.bool (it.late))
        rw [← hw9]
        clear hw9
        obtain ⟨cc, ff⟩ := B9.three
        refine bodyPost_ret (v := .agg #[Value.slice An it.names.length cn, Value.slice Am it.marks.length cm, .bool (it.late)]) (by simp [results, Try.results91, go_sem, cc, ff]) rfl ?_
        exact FIN.out _ _ _ _ (it) _ _ HZE.out Q9 (by omega) ⟨by omega, by omega, by omega⟩ (fun h => h.elim)
  · obtain ⟨xb, yb⟩ := HST.out.box.three
    go_upto_region 16 with (fail)
    clear xb yb
    obtain ⟨wz, hwz, Bz, Qz⟩ := set3 HST.out.box (.slice none 0 0) (.slice none 0 0) (.bool false)
    rw [← hwz]
    clear hwz
    have HZE : Hid (ItSt p bb w0.heap.size (m + 44) w0 wz ⟨[], [], false⟩ (.slice none 0 0) (.slice none 0 0)) := Lib.hid (HST.out.zero Bz Qz)
    obtain ⟨xb, yb⟩ := HZE.out.box.three
    have B2 := BR.out.only HZE.out.only (not_one (Nat.ne_of_gt hpl))
    obtain ⟨x2, y2⟩ := B2.three
    go_wp2_with fail
    clear xb yb x2 y2
    obtain ⟨w9, hw9, B9, Q9⟩ := set3 B2 (Value.slice none 0 0) (Value.slice none 0 0) (.bool (false))
    rw [← hw9]
    clear hw9
    obtain ⟨cc, ff⟩ := B9.three
    refine bodyPost_ret (v := .agg #[Value.slice none 0 0, Value.slice none 0 0, .bool (false)]) (by simp [results, Try.results91, go_sem, cc, ff]) rfl ?_
    exact FIN.out _ _ _ _ (⟨[], [], false⟩) _ _ HZE.out Q9 (by omega) ⟨Nat.zero_le _, Nat.zero_le _, Nat.zero_le _⟩ (fun h => h.elim)
  · have HZE := HST
    go_upto_region 16 with (fail)
    obtain ⟨xb, yb⟩ := HZE.out.box.three
    have B2 := BR.out.only HZE.out.only (not_one (Nat.ne_of_gt hpl))
    obtain ⟨x2, y2⟩ := B2.three
    go_wp2_with fail
    clear xb yb x2 y2
    obtain ⟨w9, hw9, B9, Q9⟩ := set3 B2 (Value.slice (some ⟨gn, 0, none⟩) it.names.length cn) (Value.slice (some ⟨gm, 0, none⟩) it.marks.length cm) (.bool (it.late))
    rw [← hw9]
    clear hw9
    obtain ⟨cc, ff⟩ := B9.three
    refine bodyPost_ret (v := .agg #[Value.slice (some ⟨gn, 0, none⟩) it.names.length cn, Value.slice (some ⟨gm, 0, none⟩) it.marks.length cm, .bool (it.late)]) (by simp [results, Try.results91, go_sem, cc, ff]) rfl ?_
    exact FIN.out _ _ _ _ (it) _ _ HZE.out Q9 (by omega) ⟨by omega, by omega, by omega⟩ (fun h => h.elim)
end Go.Proofs.Ytlmaiblfgbobnaa

/- Draws of items: an item of a code. -/
namespace Go.Proofs.Ytlmaiblfgbobnaa
set_option linter.unusedVariables false
set_option linter.unusedSimpArgs false
set_option linter.unnecessarySimpa false
open Go.RowKit Go.Lib

theorem Elems.off {w w' : World} {A : Option Addr} {n c : Nat} {es : List ElemD} {S : List Nat} (h : Elems w (.slice A n c) es) (on : Only S w w') (hd : ∀ a, A = some a → a.block ∉ S) : Elems w' (.slice A n c) es := by
  obtain ⟨⟨A', c', e, h1, h2, h3, h4⟩, h5⟩ := h
  have e1 : A = A' := by injection e
  subst e1
  exact ⟨⟨A, c', e, h1, h2, h3, SeqA.only h4 on hd⟩, h5⟩
def nmsE (es : List ElemD) : List ByteArray := es.map ElemD.name
theorem nmsE_len (es : List ElemD) : (nmsE es).length = es.length := by simp [nmsE]
theorem nmsE_snoc {es : List ElemD} {k : Nat} {y : ElemD} (h : es[k]? = some y) : (nmsE es).take (k + 1) = (nmsE es).take k ++ [y.name] := take_snoc (by unfold nmsE; rw [List.getElem?_map, h]; rfl)
/-- an item's cells are written into a box -/
theorem OwnT.low {w : World} {base base' : Nat} {v : Value} {it : ItemD} (h : OwnT w base v it) (hb : base' ≤ base) : OwnT w base' v it := by
  obtain ⟨nv, mv, rfl, h1, h2, h3⟩ := h
  exact ⟨nv, mv, rfl, ⟨own_base h1.1 hb, h1.2⟩, own_base h2 hb, h3⟩
theorem OwnT.off {w w' : World} {base : Nat} {v : Value} {it : ItemD} {S : List Nat} (h : OwnT w base v it) (on : Only S w w') (hd : ∀ b ∈ S, b < base) : OwnT w' base v it := by
  obtain ⟨nv, mv, rfl, h1, h2, h3⟩ := h
  exact ⟨nv, mv, rfl, h1.only on (fun b hb hs => by have := (own_fp h1.1 b hb).1; have := hd b hs; omega), own_only h2 on (fun b hb hs => by have := (own_fp h2 b hb).1; have := hd b hs; omega), h3⟩
set_option maxRecDepth 100000 in
set_option maxHeartbeats 8000000 in
theorem item_any (p m : Nat) (A D : Option Addr) (c d : Nat) (x : CodeD) (w : World) (h : Cur w p m) (hm : m ≤ 1000000000) (hx : CodeAt w (.agg #[.slice A x.elems.length c, .slice D x.limits.length d, .int .i64 x.repeats, .int .i64 x.bonus, .int .i64 x.keeps, .int .i64 x.fall]) x) (he : 0 < x.elems.length) (he2 : x.elems.length ≤ 1000) (hAp : ∀ a, A = some a → a.block ≠ p) :
    Calls Try.prog 92 #[.pointer (some ⟨p, 0, none⟩), .agg #[.slice A x.elems.length c, .slice D x.limits.length d, .int .i64 x.repeats, .int .i64 x.bonus, .int .i64 x.keeps, .int .i64 x.fall]] w fun e w' => ItPost w e w' 1 3 True ∧ Cur w' p (m + 40) ∧ Only [p] w w' := by
  have hpl := h.lt
  have CW := Lib.hid h
  obtain ⟨nv, mv, e0, q1, q2⟩ := hx
  injection e0 with e0
  have e1 := congrArg Array.toList e0
  simp only [List.cons.injEq] at e1
  obtain ⟨rfl, rfl, _⟩ := e1
  have HE := Lib.hid q1
  obtain ⟨_, _, e9, hnc, hcm, _⟩ := q1.1.out
  cases e9
  unfold maxLen at hcm
  clear h e0 q1 q2
  go_enter Try.func92, Try.ntmps92
  go_upto_region 3 with (fail)
  obtain ⟨wc, hwc⟩ : ∃ y : World, y = w.alloc (.cells #[.slice A x.elems.length c, .slice D x.limits.length d, .int .i64 x.repeats, .int .i64 x.bonus, .int .i64 x.keeps, .int .i64 x.fall] 26) := ⟨_, rfl⟩
  obtain ⟨w0, hw0⟩ : ∃ y : World, y = wc.alloc (.cells #[.slice none 0 0, .slice none 0 0, .bool false] 52) := ⟨_, rfl⟩
  have szc : w.heap.size + 1 = wc.heap.size := by rw [hwc]; simp
  rw [← hwc, ← hw0]
  have BR := Lib.hid (show Box w0 wc.heap.size 52 #[.slice none 0 0, .slice none 0 0, .bool false] from hw0 ▸ Box.new wc _ _ _ rfl)
  have K0 : Hid (Kept w w0) := Lib.hid (hw0 ▸ (hwc ▸ (Kept.refl w).alloc _ : Kept w wc).alloc _)
  have C0 := Lib.hid (CW.out.kept K0.out)
  have sz0 : wc.heap.size < w0.heap.size := BR.out.lt
  try rw [szc]
  clear hw0 hwc CW
  obtain ⟨r, hr⟩ : ∃ r : Nat, r = wc.heap.size := ⟨_, rfl⟩
  rw [← hr] at BR sz0 szc
  try rw [← hr]
  have hpr : p < r := by omega
  clear hr
  go_loopw [5, 11] (fun s5 s11 wr => ∃ k : Nat, k ≤ x.elems.length ∧ s11 = .int .i64 k ∧ OwnS wr w0.heap.size s5 ((nmsE x.elems).take k) ∧ Kept w0 wr) (fun _ i _ => x.elems.length - (RowKit.intOf i).toNat)
  case atStart => exact ⟨0, Nat.zero_le _, rfl, own_nilS _ _, Kept.refl _⟩
  case round =>
    obtain ⟨k, hk, rfl, ho, hkept⟩ := hrel
    obtain ⟨A5, c5, rfl, hn5, hm5, _⟩ := own_form ho.1
    have hkk : ((nmsE x.elems).take k).length = k := by rw [List.length_take, nmsE_len]; omega
    rw [hkk] at ho ⊢
    have HO := Lib.hid ho
    have szr : w0.heap.size ≤ wr.heap.size := hkept.size
    clear ho
    by_cases hlt : k < x.elems.length
    · obtain ⟨b, o, y, e1, hb, hy, q0, q1, q2, q3⟩ := elems_at (HE.out.kept (K0.out.trans hkept)).1.addr hlt
      subst e1
      have HSN := Lib.hid (nmsE_snoc hy)
      have hys : y.name.size ≤ maxLen := HE.out.2 y (List.mem_of_getElem? hy)
      have hlt' : (k : Int) < (x.elems.length : Int) := by omega
      have HKK := Lib.hid hkk
      clear hy hkk hn5 hm5
      go_wp2_with (at_builtin; refine wpList_append_SX _ rfl _ _ rfl w0.heap.size (.slice A5 k c5) ((nmsE x.elems).take k) rfl (HO.out.kept (((Kept.refl wr).alloc _).alloc _)) _ [y.name] rfl (strs_box1 (Box.new _ _ _ _ (by simp)) hys) (by rw [HKK.out]; simp only [List.length_cons, List.length_nil]; omega) (Nat.le_trans szr (((Kept.refl wr).alloc _).alloc _).size) ?_; intro v6 w6 o6 on6 f6; rw [← HSN.out] at o6; obtain ⟨A6, c6', rfl, _⟩ := own_form o6.1; have hl6 : ((nmsE x.elems).take (k + 1)).length = k + 1 := (by rw [List.length_take, nmsE_len]; omega); rw [hl6] at o6 ⊢; have O6 := Lib.hid o6; have K6 := Lib.hid (Only.above on6 (hkept.trans (((Kept.refl wr).alloc (.cells #[.string y.name, .int .i64 y.family, .int .i64 y.level, .int .i64 y.base] 43)).alloc (.cells #[.string y.name] 9))) (fun b hb => (own_fp HO.out.1 b hb).1)); clear o6 on6 f6 hl6)
      go_roundw
      case rel => exact ⟨k + 1, by omega, by go_num, O6.out, K6.out⟩
      case measure => simp [RowKit.intOf]; omega
    · have hkn : k = x.elems.length := by omega
      have hnn : (nmsE x.elems).take k = nmsE x.elems := List.take_of_length_le (by rw [nmsE_len]; omega)
      rw [hnn] at HO
      have hl : (nmsE x.elems).length = x.elems.length := nmsE_len _
      subst hkn
      have hd5 : Hid (∀ a, A5 = some a → a.block ≠ p) := Lib.hid (fun a e => by subst e; have := (own_fp HO.out.1 a.block (by simp [fp_some])).1; omega)
      have HL := Lib.hid hl
      clear hkk hnn hlt hk hl hn5
      go_wp2_with fail
      with_reducible refine (called_any p m A5 x.elems.length c5 (nmsE x.elems) wr (C0.out.kept hkept) (by omega) HO.out.strs HL.out.symm (by rw [HL.out]; exact he) (by rw [HL.out]; omega) hd5.out).mono ?_
      rintro e w6 ⟨⟨v6, it, rfl, o6, hb6, hs6⟩, c6, on6⟩
      have B6 := (BR.out.kept hkept).only on6 (not_one (by omega))
      have o7 : OwnT w6 w0.heap.size v6 it := o6.low szr
      obtain ⟨nv, mv, rfl, p1, q1, nd⟩ := o7
      obtain ⟨An, cn, rfl, _⟩ := own_form p1.1
      obtain ⟨Am, cm, rfl, _⟩ := own_form q1
      have O6 : Hid (OwnT w6 w0.heap.size (.agg #[.slice An it.names.length cn, .slice Am it.marks.length cm, .bool it.late]) it) := Lib.hid ⟨_, _, rfl, p1, q1, nd⟩
      have C6 := Lib.hid c6
      have N6 := Lib.hid (((K0.out.trans hkept).only [p]).trans on6)
      have HB6 := Lib.hid hb6
      have HS6 := Lib.hid hs6
      clear p1 q1 nd c6 on6 o6 hb6 hs6
      obtain ⟨x2, y2⟩ := B6.three
      go_wp2_with fail
      clear x2 y2
      obtain ⟨w9, hw9, B9, Q9⟩ := set3 B6 (.slice An it.names.length cn) (.slice Am it.marks.length cm) (.bool it.late)
      rw [← hw9]
      clear hw9
      obtain ⟨cc, ff⟩ := B9.three
      refine bodyPost_ret (v := .agg #[.slice An it.names.length cn, .slice Am it.marks.length cm, .bool it.late]) (by simp [results, Try.results92, go_sem, cc, ff]) rfl ?_
      refine ⟨⟨_, it, rfl, (O6.out.off Q9 (fun b hb => by rw [List.mem_singleton] at hb; omega)).low (by omega), HB6.out, HS6.out⟩, C6.out.far Q9 (fun b hb => by rw [List.mem_singleton] at hb; omega), N6.out.overD Q9 (fun b hb => by rw [List.mem_singleton] at hb; omega)⟩
end Go.Proofs.Ytlmaiblfgbobnaa
