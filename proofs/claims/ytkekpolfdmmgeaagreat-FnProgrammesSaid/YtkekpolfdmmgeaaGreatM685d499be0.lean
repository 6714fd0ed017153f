/- Contracts of functions that the proof leans on. No condition. -/
import Derived.Test.YtkekpolfdmmgeaaGreatM35103150fa
/- Draws of codes: any code. -/
namespace Go.Proofs.YtkekpolfdmmgeaaGreat
set_option linter.unusedVariables false
set_option linter.unusedSimpArgs false
set_option linter.unnecessarySimpa false
open Go.RowKit Go.Lib

/-- what a draw of any code leaves -/
def AcdPost (w : World) (e : Ending) (w' : World) : Prop := ∃ v c, e = .returned v ∧ OwnK w' w.heap.size v c ∧ c.elems.length ≤ 25 ∧ c.limits.length ≤ 6
theorem elN_box {w : World} {g : Nat} (h : Box w g 9 (elN.map Value.string).toArray) (B : Nat) (hB : B ≤ g) : OwnS w B (.slice (some ⟨g, 0, none⟩) 24 24) elN :=
  ⟨own_of_box h hB (Nat.le_refl _) (by unfold maxLen; omega) rfl rfl, fun z hz => by have := elN_sz hz; unfold maxLen; omega⟩
theorem lit_small {zs : List ByteArray} (h : zs.all (fun z => decide (z.size ≤ 1000)) = true) {x : ByteArray} (hx : x ∈ zs) : x.size ≤ maxLen := by
  have := List.all_eq_true.1 h x hx
  simp at this
  unfold maxLen
  omega
set_option maxRecDepth 100000 in
set_option maxHeartbeats 16000000 in
theorem anyCode_any (p m : Nat) (w : World) (h : Cur w p m) (hm : m ≤ 100000000) :
    Calls Tryz.prog 52 #[.pointer (some ⟨p, 0, none⟩)] w fun e w' => AcdPost w e w' ∧ Cur w' p (m + 500) ∧ Only [p] w w' := by
  have hpl := h.lt
  have CW := Lib.hid h
  clear h
  go_enter Tryz.func52, Tryz.ntmps52
  go_wp2_with fail
  obtain ⟨w0, hw0⟩ : ∃ x : World, x = w.alloc (.cells #[.slice none 0 0, .slice none 0 0, .int .i64 0, .int .i64 0, .int .i64 0, .int .i64 0] 26) := ⟨_, rfl⟩
  rw [← hw0]
  have BR := Lib.hid (show Box w0 w.heap.size 26 #[.slice none 0 0, .slice none 0 0, .int .i64 0, .int .i64 0, .int .i64 0, .int .i64 0] from hw0 ▸ Box.new w _ _ _ rfl)
  have K0 : Hid (Kept w w0) := Lib.hid (hw0 ▸ (Kept.refl w).alloc _)
  have C0 := Lib.hid (CW.out.kept K0.out)
  have sz0 : w.heap.size < w0.heap.size := by rw [hw0]; simp
  have hpl0 : p < w0.heap.size := by omega
  have FIN : Hid (∀ (bb M : Nat) (wr w9 : World) (c : CodeD) (ev lv : Value), DrSt p bb w0.heap.size M w0 wr c ev lv → Only [w.heap.size] wr w9 → M ≤ m + 500 → c.elems.length ≤ 25 → c.limits.length ≤ 6 →
      AcdPost w (.returned (.agg #[ev, lv, .int .i64 c.repeats, .int .i64 c.bonus, .int .i64 c.keeps, .int .i64 c.fall])) w9 ∧ Cur w9 p (m + 500) ∧ Only [p] w w9) := Lib.hid (fun bb M wr w9 c ev lv H q h1 h3 h4 => by
    refine ⟨⟨_, c, rfl, OwnK.base (base := w0.heap.size) (H.own.only q (fun b hb => not_one (by have := H.own.fps b hb; omega))) (by omega), h3, h4⟩, (H.cur.far q (fun x hx => by rw [List.mem_singleton] at hx; omega)).le h1, ?_⟩
    exact ((K0.out.only _).trans H.only).overD q (fun x hx => by rw [List.mem_singleton] at hx; omega))
  clear hw0 CW
  with_reducible refine (pointsCode_any p m w0 C0.out (by omega)).mono ?_
  rintro e w1 ⟨⟨v1, c, rfl, o1, h1, h24, hl5⟩, c1, on1⟩
  obtain ⟨ev, lv, rfl, p1, q1, nd⟩ := o1
  rcases ownE_cases p1 with ⟨_, he⟩ | ⟨ge, ce, rfl, hec, hem⟩
  · rw [he] at h1; simp at h1
  rcases ownI_cases q1 with ⟨_, he⟩ | ⟨gl, cl, rfl, hlc, hlm⟩
  · rw [he] at hl5; simp at hl5
  have HN : Hid (1 ≤ c.elems.length ∧ c.elems.length ≤ 24 ∧ c.limits.length = 5) := Lib.hid ⟨h1, h24, hl5⟩
  have HD := Lib.hid (OwnK.boxed p1 q1 nd c1 on1 hpl0 (Nat.le_refl _))
  unfold maxLen at hem hlm
  clear hl5 p1 q1 nd c1 on1 C0
  go_wp2_with fail
  obtain ⟨wb, hwb⟩ : ∃ x : World, x = w1.alloc (.cells #[.slice (some ⟨ge, 0, none⟩) c.elems.length ce, .slice (some ⟨gl, 0, none⟩) c.limits.length cl, .int .i64 c.repeats, .int .i64 c.bonus, .int .i64 c.keeps, .int .i64 c.fall] 26) := ⟨_, rfl⟩
  obtain ⟨bb, hbb⟩ : ∃ b : Nat, b = w1.heap.size := ⟨_, rfl⟩
  rw [← hwb, ← hbb] at HD ⊢
  clear hwb hbb
  with_reducible refine (pick_any p _ (c.elems.length : Int) wb HD.out.cur (by omega) (by omega)).mono ?_
  rintro e w2 ⟨x2, rfl, ⟨lo2, hi2⟩, c2, on2⟩
  obtain ⟨k, rfl⟩ : ∃ n : Nat, x2 = (n : Int) := ⟨x2.toNat, by omega⟩
  have hkn : k < c.elems.length := by have := hi2 (by omega); omega
  have hkn' : (k : Int) < (c.elems.length : Int) := by omega
  have HS2 := Lib.hid (HD.out.drawn c2 on2)
  clear c2 on2 hi2 HD
  go_wp2_with fail
  with_reducible refine (pick_any p _ 30 w2 HS2.out.cur (by omega) (by omega)).mono ?_
  rintro e w3 ⟨s, rfl, ⟨los, his⟩, c3, on3⟩
  have HSQ := Lib.hid ((HS2.out.drawn c3 on3).le (m' := m + 404) (by omega))
  have sz3 : w0.heap.size ≤ w3.heap.size := HSQ.out.only.size
  clear c3 on3 HS2 his los
  have HSB : Hid (∀ (w' : World), Box w' bb 26 #[.slice (some ⟨ge, 0, none⟩) c.elems.length ce, .slice (some ⟨gl, 0, none⟩) c.limits.length cl, .int .i64 c.repeats, .int .i64 c.bonus, .int .i64 c.keeps, .int .i64 c.fall] → w'.cell? ⟨bb, 0, none⟩ = some (Value.slice (some ⟨ge, 0, none⟩) c.elems.length ce)) := Lib.hid (fun w' b => b.cell 0)
  have HSL : Hid (∀ (w' : World), Box w' bb 26 #[.slice (some ⟨ge, 0, none⟩) c.elems.length ce, .slice (some ⟨gl, 0, none⟩) c.limits.length cl, .int .i64 c.repeats, .int .i64 c.bonus, .int .i64 c.keeps, .int .i64 c.fall] → w'.cell? ⟨bb, 1, none⟩ = some (Value.slice (some ⟨gl, 0, none⟩) c.limits.length cl)) := Lib.hid (fun w' b => b.cell 1)
  have hcase : s = 0 ∨ s = 1 ∨ s = 2 ∨ s = 3 ∨ s = 4 ∨ s = 5 ∨ s = 6 ∨ s = 7 ∨ s = 8 ∨ s = 9 ∨ s = 10 ∨ s = 11 ∨ (¬ s = 0 ∧ ¬ s = 1 ∧ ¬ s = 2 ∧ ¬ s = 3 ∧ ¬ s = 4 ∧ ¬ s = 5 ∧ ¬ s = 6 ∧ ¬ s = 7 ∧ ¬ s = 8 ∧ ¬ s = 9 ∧ ¬ s = 10 ∧ ¬ s = 11) := by omega
  rcases hcase with rfl | rfl | rfl | rfl | rfl | rfl | rfl | rfl | rfl | rfl | rfl | rfl | ⟨g0, g1, g2, g3, g4, g5, g6, g7, g8, g9, g10, g11⟩
  · go_upto_region 5 with (fail)
    refine region_pop (S := fun w' => w'.cell? ⟨bb, 0, none⟩ = some (Value.slice (some ⟨ge, 0, none⟩) c.elems.length ce)) 8 (by kernel_rfl) (by kernel_rfl) ?_
    simp only [List.take_succ_cons, List.take_zero, List.drop_succ_cons, List.drop_zero]
    refine startL (HSB.out _ (HSQ.out.kept (Kept.refl w3).drew).box) (fun hS0 => ?_)
    obtain ⟨wd, hwd⟩ : ∃ x : World, x = w3.drew := ⟨_, rfl⟩
    rw [← hwd] at hS0 ⊢
    have D0 := Lib.hid (HSQ.out.kept (hwd ▸ (Kept.refl w3).drew))
    have hpd : wd.heap.size ≠ p := Nat.ne_of_gt D0.out.cur.lt
    clear hwd
    refine takeL (i := 0) (v := ?_) rfl (by kernel_rfl) (by kernel_rfl) (by kernel_rfl) (fun _ _ _ h => h) (Or.inl ⟨by rfl, ?_⟩) hS0 ?_
    rotate_left 1
    · (intro w hSw; (try dsimp only at hSw); go_simp; try with_reducible rfl)
    try simp only [Act.put, List.setIfInBounds_toArray, List.set_cons_zero, List.set_cons_succ]
    refine takeL (i := 1) (v := ?_) rfl (by kernel_rfl) (by kernel_rfl) (by kernel_rfl) (fun _ _ _ h => h) (Or.inl ⟨by rfl, ?_⟩) hS0 ?_
    rotate_left 1
    · (intro w hSw; (try dsimp only at hSw); go_simp; try with_reducible rfl)
    try simp only [Act.put, List.setIfInBounds_toArray, List.set_cons_zero, List.set_cons_succ]
    refine takeL (i := 2) (v := ?_) rfl (by kernel_rfl) (by kernel_rfl) (by kernel_rfl) (fun _ _ _ h => h) (Or.inl ⟨by rfl, ?_⟩) hS0 ?_
    rotate_left 1
    · (intro w hSw; (try dsimp only at hSw); go_simp; try with_reducible rfl)
    try simp only [Act.put, List.setIfInBounds_toArray, List.set_cons_zero, List.set_cons_succ]
    refine takeL (i := 3) (v := ?_) rfl (by kernel_rfl) (by kernel_rfl) (by kernel_rfl) (fun _ _ _ h => h) (Or.inl ⟨by rfl, ?_⟩) hS0 ?_
    rotate_left 1
    · (intro w hSw; (try dsimp only at hSw); go_simp; try with_reducible rfl)
    try simp only [Act.put, List.setIfInBounds_toArray, List.set_cons_zero, List.set_cons_succ]
    refine onlyL (i := 4) rfl (by kernel_rfl) (fun K hK => ?_)
    go_simp
    obtain ⟨wa, hwa⟩ : ∃ x : World, x = wd.alloc (.cells #[.string ⟨#[]⟩, .string ⟨#[51, 97]⟩, .string ⟨#[65, 66, 67, 68, 69, 70]⟩, .string ⟨#[51, 65]⟩, .string ⟨#[90, 90, 90, 90, 90]⟩, .string ⟨#[48]⟩] 9) := ⟨_, rfl⟩
    rw [← hwa]
    have BL : Box wa wd.heap.size 9 #[.string ⟨#[]⟩, .string ⟨#[51, 97]⟩, .string ⟨#[65, 66, 67, 68, 69, 70]⟩, .string ⟨#[51, 65]⟩, .string ⟨#[90, 90, 90, 90, 90]⟩, .string ⟨#[48]⟩] := hwa ▸ Box.new wd _ _ _ rfl
    have Da := Lib.hid (D0.out.kept (hwa ▸ (Kept.refl wd).alloc _))
    clear hwa
    refine hK.out _ _ (HSB.out _ Da.out.box) (fun hS1 => ?_)
    clear hK K hS0
    try simp only [Act.put, List.setIfInBounds_toArray, List.set_cons_zero, List.set_cons_succ]
    refine onlyL (i := 5) rfl (by kernel_rfl) (fun K hK => ?_)
    go_simp
    with_reducible refine (of_lit p _ wd.heap.size 6 ([⟨#[]⟩, ⟨#[51, 97]⟩, ⟨#[65, 66, 67, 68, 69, 70]⟩, ⟨#[51, 65]⟩, ⟨#[90, 90, 90, 90, 90]⟩, ⟨#[48]⟩] : List ByteArray) wa Da.out.cur (by omega) BL hpd rfl (by omega) (by omega) (by decide)).mono ?_
    rintro e wm ⟨xm, rfl, hxm, c2, on2⟩
    have Dm := Lib.hid (Da.out.drawn c2 on2)
    have hsm : xm.size ≤ maxLen := lit_small (by decide) hxm
    clear c2 on2 BL hxm
    go_wp2_with fail
    refine hK.out _ _ (HSB.out _ Dm.out.box) (fun hS2 => ?_)
    clear hK K hS1
    try simp only [Act.put, List.setIfInBounds_toArray, List.set_cons_zero, List.set_cons_succ]
    refine takeL (i := 6) (v := ?_) rfl (by kernel_rfl) (by kernel_rfl) (by kernel_rfl) (fun _ _ _ h => h) (Or.inl ⟨by rfl, ?_⟩) hS2 ?_
    rotate_left 1
    · (intro w hSw; (try dsimp only at hSw); go_simp; try with_reducible rfl)
    try simp only [Act.put, List.setIfInBounds_toArray, List.set_cons_zero, List.set_cons_succ]
    refine takeL (i := 7) (v := ?_) rfl (by kernel_rfl) (by kernel_rfl) (by kernel_rfl) (fun _ _ _ h => h) (Or.inl ⟨by rfl, ?_⟩) hS2 ?_
    rotate_left 1
    · (intro w hSw; (try dsimp only at hSw); go_simp; try with_reducible rfl)
    try simp only [Act.put, List.setIfInBounds_toArray, List.set_cons_zero, List.set_cons_succ]
    refine doneL (by kernel_rfl) ?_
    clear hS2
    obtain ⟨y, hyk, ⟨q0, q1, q2, q3⟩, hys, f0, f1, f2, f3⟩ := ownE_at Dm.out.elems hkn
    have HYK := Lib.hid hyk
    clear hyk
    go_upto_region 33 with (fail)
    clear q0 q1 q2 q3 f0 f1 f2 f3
    have HZ0 := Lib.hid (show DrSt p bb w0.heap.size _ w0 (wm.setCell ⟨ge, k * 4, none⟩ (.string xm)) { c with elems := c.elems.set k { y with name := xm } } (Value.slice (some ⟨ge, 0, none⟩) c.elems.length ce) (Value.slice (some ⟨gl, 0, none⟩) c.limits.length cl) from Dm.out.cellE (j := 0) rfl HYK.out (by omega) rfl hsm)
    obtain ⟨wz, hwz⟩ : ∃ x : World, x = wm.setCell ⟨ge, k * 4, none⟩ (.string xm) := ⟨_, rfl⟩
    rw [← hwz] at HZ0 ⊢
    have HZ := HZ0
    clear HZ0 hwz
    obtain ⟨xb, yb⟩ := HZ.out.box.six
    have B2 := BR.out.only HZ.out.only (not_one (Nat.ne_of_gt hpl))
    obtain ⟨x2, y2⟩ := B2.six
    go_wp2_with fail
    clear xb yb x2 y2
    obtain ⟨w9, hw9, B9, Q9⟩ := set6 B2 (Value.slice (some ⟨ge, 0, none⟩) c.elems.length ce) (Value.slice (some ⟨gl, 0, none⟩) c.limits.length cl) (.int .i64 (c.repeats)) (.int .i64 (c.bonus)) (.int .i64 (c.keeps)) (.int .i64 (c.fall))
    rw [← hw9]
    clear hw9
    obtain ⟨cc, ff⟩ := B9.six
    refine bodyPost_ret (v := .agg #[Value.slice (some ⟨ge, 0, none⟩) c.elems.length ce, Value.slice (some ⟨gl, 0, none⟩) c.limits.length cl, .int .i64 (c.repeats), .int .i64 (c.bonus), .int .i64 (c.keeps), .int .i64 (c.fall)]) (by simp [results, Tryz.results52, go_sem, cc, ff]) rfl ?_
    exact FIN.out _ _ _ _ ({ c with elems := c.elems.set k { y with name := xm } }) _ _ HZ.out Q9 (by omega) (by have := HN.out; rw [List.length_set]; omega) (by have := HN.out; (try dsimp only); omega)
  · go_upto_region 7 with (fail)
    refine region_pop (S := fun w' => w'.cell? ⟨bb, 0, none⟩ = some (Value.slice (some ⟨ge, 0, none⟩) c.elems.length ce)) 8 (by kernel_rfl) (by kernel_rfl) ?_
    simp only [List.take_succ_cons, List.take_zero, List.drop_succ_cons, List.drop_zero]
    refine startL (HSB.out _ (HSQ.out.kept (Kept.refl w3).drew).box) (fun hS0 => ?_)
    obtain ⟨wd, hwd⟩ : ∃ x : World, x = w3.drew := ⟨_, rfl⟩
    rw [← hwd] at hS0 ⊢
    have D0 := Lib.hid (HSQ.out.kept (hwd ▸ (Kept.refl w3).drew))
    have hpd : wd.heap.size ≠ p := Nat.ne_of_gt D0.out.cur.lt
    clear hwd
    refine takeL (i := 0) (v := ?_) rfl (by kernel_rfl) (by kernel_rfl) (by kernel_rfl) (fun _ _ _ h => h) (Or.inl ⟨by rfl, ?_⟩) hS0 ?_
    rotate_left 1
    · (intro w hSw; (try dsimp only at hSw); go_simp; try with_reducible rfl)
    try simp only [Act.put, List.setIfInBounds_toArray, List.set_cons_zero, List.set_cons_succ]
    refine takeL (i := 1) (v := ?_) rfl (by kernel_rfl) (by kernel_rfl) (by kernel_rfl) (fun _ _ _ h => h) (Or.inl ⟨by rfl, ?_⟩) hS0 ?_
    rotate_left 1
    · (intro w hSw; (try dsimp only at hSw); go_simp; try with_reducible rfl)
    try simp only [Act.put, List.setIfInBounds_toArray, List.set_cons_zero, List.set_cons_succ]
    refine takeL (i := 2) (v := ?_) rfl (by kernel_rfl) (by kernel_rfl) (by kernel_rfl) (fun _ _ _ h => h) (Or.inl ⟨by rfl, ?_⟩) hS0 ?_
    rotate_left 1
    · (intro w hSw; (try dsimp only at hSw); go_simp; try with_reducible rfl)
    try simp only [Act.put, List.setIfInBounds_toArray, List.set_cons_zero, List.set_cons_succ]
    refine takeL (i := 3) (v := ?_) rfl (by kernel_rfl) (by kernel_rfl) (by kernel_rfl) (fun _ _ _ h => h) (Or.inl ⟨by rfl, ?_⟩) hS0 ?_
    rotate_left 1
    · (intro w hSw; (try dsimp only at hSw); go_simp; try with_reducible rfl)
    try simp only [Act.put, List.setIfInBounds_toArray, List.set_cons_zero, List.set_cons_succ]
    refine onlyL (i := 4) rfl (by kernel_rfl) (fun K hK => ?_)
    go_simp
    obtain ⟨wa, hwa⟩ : ∃ x : World, x = wd.alloc (.cells #[.int .i64 (-1), .int .i64 4, .int .i64 5] 3) := ⟨_, rfl⟩
    rw [← hwa]
    have BL : Box wa wd.heap.size 3 #[.int .i64 (-1), .int .i64 4, .int .i64 5] := hwa ▸ Box.new wd _ _ _ rfl
    have Da := Lib.hid (D0.out.kept (hwa ▸ (Kept.refl wd).alloc _))
    clear hwa
    refine hK.out _ _ (HSB.out _ Da.out.box) (fun hS1 => ?_)
    clear hK K hS0
    try simp only [Act.put, List.setIfInBounds_toArray, List.set_cons_zero, List.set_cons_succ]
    refine onlyL (i := 5) rfl (by kernel_rfl) (fun K hK => ?_)
    go_simp
    with_reducible refine (among_lit p _ wd.heap.size 3 [-1, 4, 5] wa Da.out.cur (by omega) BL hpd rfl (by omega) (by omega)).mono ?_
    rintro e wm ⟨xm, rfl, hxm, c2, on2⟩
    have Dm := Lib.hid (Da.out.drawn c2 on2)
    skip
    clear c2 on2 BL hxm
    go_wp2_with fail
    refine hK.out _ _ (HSB.out _ Dm.out.box) (fun hS2 => ?_)
    clear hK K hS1
    try simp only [Act.put, List.setIfInBounds_toArray, List.set_cons_zero, List.set_cons_succ]
    refine takeL (i := 6) (v := ?_) rfl (by kernel_rfl) (by kernel_rfl) (by kernel_rfl) (fun _ _ _ h => h) (Or.inl ⟨by rfl, ?_⟩) hS2 ?_
    rotate_left 1
    · (intro w hSw; (try dsimp only at hSw); go_simp; try with_reducible rfl)
    try simp only [Act.put, List.setIfInBounds_toArray, List.set_cons_zero, List.set_cons_succ]
    refine takeL (i := 7) (v := ?_) rfl (by kernel_rfl) (by kernel_rfl) (by kernel_rfl) (fun _ _ _ h => h) (Or.inl ⟨by rfl, ?_⟩) hS2 ?_
    rotate_left 1
    · (intro w hSw; (try dsimp only at hSw); go_simp; try with_reducible rfl)
    try simp only [Act.put, List.setIfInBounds_toArray, List.set_cons_zero, List.set_cons_succ]
    refine doneL (by kernel_rfl) ?_
    clear hS2
    obtain ⟨y, hyk, ⟨q0, q1, q2, q3⟩, hys, f0, f1, f2, f3⟩ := ownE_at Dm.out.elems hkn
    have HYK := Lib.hid hyk
    clear hyk
    go_upto_region 33 with (fail)
    clear q0 q1 q2 q3 f0 f1 f2 f3
    have HZ0 := Lib.hid (show DrSt p bb w0.heap.size _ w0 (wm.setCell ⟨ge, k * 4 + 1, none⟩ (.int .i64 xm)) { c with elems := c.elems.set k { y with family := xm } } (Value.slice (some ⟨ge, 0, none⟩) c.elems.length ce) (Value.slice (some ⟨gl, 0, none⟩) c.limits.length cl) from Dm.out.cellE (j := 1) rfl HYK.out (by omega) rfl hys)
    obtain ⟨wz, hwz⟩ : ∃ x : World, x = wm.setCell ⟨ge, k * 4 + 1, none⟩ (.int .i64 xm) := ⟨_, rfl⟩
    rw [← hwz] at HZ0 ⊢
    have HZ := HZ0
    clear HZ0 hwz
    obtain ⟨xb, yb⟩ := HZ.out.box.six
    have B2 := BR.out.only HZ.out.only (not_one (Nat.ne_of_gt hpl))
    obtain ⟨x2, y2⟩ := B2.six
    go_wp2_with fail
    clear xb yb x2 y2
    obtain ⟨w9, hw9, B9, Q9⟩ := set6 B2 (Value.slice (some ⟨ge, 0, none⟩) c.elems.length ce) (Value.slice (some ⟨gl, 0, none⟩) c.limits.length cl) (.int .i64 (c.repeats)) (.int .i64 (c.bonus)) (.int .i64 (c.keeps)) (.int .i64 (c.fall))
    rw [← hw9]
    clear hw9
    obtain ⟨cc, ff⟩ := B9.six
    refine bodyPost_ret (v := .agg #[Value.slice (some ⟨ge, 0, none⟩) c.elems.length ce, Value.slice (some ⟨gl, 0, none⟩) c.limits.length cl, .int .i64 (c.repeats), .int .i64 (c.bonus), .int .i64 (c.keeps), .int .i64 (c.fall)]) (by simp [results, Tryz.results52, go_sem, cc, ff]) rfl ?_
    exact FIN.out _ _ _ _ ({ c with elems := c.elems.set k { y with family := xm } }) _ _ HZ.out Q9 (by omega) (by have := HN.out; rw [List.length_set]; omega) (by have := HN.out; (try dsimp only); omega)
  · go_upto_region 9 with (fail)
    refine region_pop (S := fun w' => w'.cell? ⟨bb, 0, none⟩ = some (Value.slice (some ⟨ge, 0, none⟩) c.elems.length ce)) 8 (by kernel_rfl) (by kernel_rfl) ?_
    simp only [List.take_succ_cons, List.take_zero, List.drop_succ_cons, List.drop_zero]
    refine startL (HSB.out _ (HSQ.out.kept (Kept.refl w3).drew).box) (fun hS0 => ?_)
    obtain ⟨wd, hwd⟩ : ∃ x : World, x = w3.drew := ⟨_, rfl⟩
    rw [← hwd] at hS0 ⊢
    have D0 := Lib.hid (HSQ.out.kept (hwd ▸ (Kept.refl w3).drew))
    have hpd : wd.heap.size ≠ p := Nat.ne_of_gt D0.out.cur.lt
    clear hwd
    refine takeL (i := 0) (v := ?_) rfl (by kernel_rfl) (by kernel_rfl) (by kernel_rfl) (fun _ _ _ h => h) (Or.inl ⟨by rfl, ?_⟩) hS0 ?_
    rotate_left 1
    · (intro w hSw; (try dsimp only at hSw); go_simp; try with_reducible rfl)
    try simp only [Act.put, List.setIfInBounds_toArray, List.set_cons_zero, List.set_cons_succ]
    refine takeL (i := 1) (v := ?_) rfl (by kernel_rfl) (by kernel_rfl) (by kernel_rfl) (fun _ _ _ h => h) (Or.inl ⟨by rfl, ?_⟩) hS0 ?_
    rotate_left 1
    · (intro w hSw; (try dsimp only at hSw); go_simp; try with_reducible rfl)
    try simp only [Act.put, List.setIfInBounds_toArray, List.set_cons_zero, List.set_cons_succ]
    refine takeL (i := 2) (v := ?_) rfl (by kernel_rfl) (by kernel_rfl) (by kernel_rfl) (fun _ _ _ h => h) (Or.inl ⟨by rfl, ?_⟩) hS0 ?_
    rotate_left 1
    · (intro w hSw; (try dsimp only at hSw); go_simp; try with_reducible rfl)
    try simp only [Act.put, List.setIfInBounds_toArray, List.set_cons_zero, List.set_cons_succ]
    refine takeL (i := 3) (v := ?_) rfl (by kernel_rfl) (by kernel_rfl) (by kernel_rfl) (fun _ _ _ h => h) (Or.inl ⟨by rfl, ?_⟩) hS0 ?_
    rotate_left 1
    · (intro w hSw; (try dsimp only at hSw); go_simp; try with_reducible rfl)
    try simp only [Act.put, List.setIfInBounds_toArray, List.set_cons_zero, List.set_cons_succ]
    refine onlyL (i := 4) rfl (by kernel_rfl) (fun K hK => ?_)
    go_simp
    obtain ⟨wa, hwa⟩ : ∃ x : World, x = wd.alloc (.cells #[.int .i64 (-1), .int .i64 4, .int .i64 5] 3) := ⟨_, rfl⟩
    rw [← hwa]
    have BL : Box wa wd.heap.size 3 #[.int .i64 (-1), .int .i64 4, .int .i64 5] := hwa ▸ Box.new wd _ _ _ rfl
    have Da := Lib.hid (D0.out.kept (hwa ▸ (Kept.refl wd).alloc _))
    clear hwa
    refine hK.out _ _ (HSB.out _ Da.out.box) (fun hS1 => ?_)
    clear hK K hS0
    try simp only [Act.put, List.setIfInBounds_toArray, List.set_cons_zero, List.set_cons_succ]
    refine onlyL (i := 5) rfl (by kernel_rfl) (fun K hK => ?_)
    go_simp
    with_reducible refine (among_lit p _ wd.heap.size 3 [-1, 4, 5] wa Da.out.cur (by omega) BL hpd rfl (by omega) (by omega)).mono ?_
    rintro e wm ⟨xm, rfl, hxm, c2, on2⟩
    have Dm := Lib.hid (Da.out.drawn c2 on2)
    skip
    clear c2 on2 BL hxm
    go_wp2_with fail
    refine hK.out _ _ (HSB.out _ Dm.out.box) (fun hS2 => ?_)
    clear hK K hS1
    try simp only [Act.put, List.setIfInBounds_toArray, List.set_cons_zero, List.set_cons_succ]
    refine takeL (i := 6) (v := ?_) rfl (by kernel_rfl) (by kernel_rfl) (by kernel_rfl) (fun _ _ _ h => h) (Or.inl ⟨by rfl, ?_⟩) hS2 ?_
    rotate_left 1
    · (intro w hSw; (try dsimp only at hSw); go_simp; try with_reducible rfl)
    try simp only [Act.put, List.setIfInBounds_toArray, List.set_cons_zero, List.set_cons_succ]
    refine takeL (i := 7) (v := ?_) rfl (by kernel_rfl) (by kernel_rfl) (by kernel_rfl) (fun _ _ _ h => h) (Or.inl ⟨by rfl, ?_⟩) hS2 ?_
    rotate_left 1
    · (intro w hSw; (try dsimp only at hSw); go_simp; try with_reducible rfl)
    try simp only [Act.put, List.setIfInBounds_toArray, List.set_cons_zero, List.set_cons_succ]
    refine doneL (by kernel_rfl) ?_
    clear hS2
    obtain ⟨y, hyk, ⟨q0, q1, q2, q3⟩, hys, f0, f1, f2, f3⟩ := ownE_at Dm.out.elems hkn
    have HYK := Lib.hid hyk
    clear hyk
    go_upto_region 33 with (fail)
    clear q0 q1 q2 q3 f0 f1 f2 f3
    have HZ0 := Lib.hid (show DrSt p bb w0.heap.size _ w0 (wm.setCell ⟨ge, k * 4 + 2, none⟩ (.int .i64 xm)) { c with elems := c.elems.set k { y with level := xm } } (Value.slice (some ⟨ge, 0, none⟩) c.elems.length ce) (Value.slice (some ⟨gl, 0, none⟩) c.limits.length cl) from Dm.out.cellE (j := 2) rfl HYK.out (by omega) rfl hys)
    obtain ⟨wz, hwz⟩ : ∃ x : World, x = wm.setCell ⟨ge, k * 4 + 2, none⟩ (.int .i64 xm) := ⟨_, rfl⟩
    rw [← hwz] at HZ0 ⊢
    have HZ := HZ0
    clear HZ0 hwz
    obtain ⟨xb, yb⟩ := HZ.out.box.six
    have B2 := BR.out.only HZ.out.only (not_one (Nat.ne_of_gt hpl))
    obtain ⟨x2, y2⟩ := B2.six
    go_wp2_with fail
    clear xb yb x2 y2
    obtain ⟨w9, hw9, B9, Q9⟩ := set6 B2 (Value.slice (some ⟨ge, 0, none⟩) c.elems.length ce) (Value.slice (some ⟨gl, 0, none⟩) c.limits.length cl) (.int .i64 (c.repeats)) (.int .i64 (c.bonus)) (.int .i64 (c.keeps)) (.int .i64 (c.fall))
    rw [← hw9]
    clear hw9
    obtain ⟨cc, ff⟩ := B9.six
    refine bodyPost_ret (v := .agg #[Value.slice (some ⟨ge, 0, none⟩) c.elems.length ce, Value.slice (some ⟨gl, 0, none⟩) c.limits.length cl, .int .i64 (c.repeats), .int .i64 (c.bonus), .int .i64 (c.keeps), .int .i64 (c.fall)]) (by simp [results, Tryz.results52, go_sem, cc, ff]) rfl ?_
    exact FIN.out _ _ _ _ ({ c with elems := c.elems.set k { y with level := xm } }) _ _ HZ.out Q9 (by omega) (by have := HN.out; rw [List.length_set]; omega) (by have := HN.out; (try dsimp only); omega)
  · go_upto_region 11 with (fail)
    refine region_pop (S := fun w' => w'.cell? ⟨bb, 0, none⟩ = some (Value.slice (some ⟨ge, 0, none⟩) c.elems.length ce)) 8 (by kernel_rfl) (by kernel_rfl) ?_
    simp only [List.take_succ_cons, List.take_zero, List.drop_succ_cons, List.drop_zero]
    refine startL (HSB.out _ (HSQ.out.kept (Kept.refl w3).drew).box) (fun hS0 => ?_)
    obtain ⟨wd, hwd⟩ : ∃ x : World, x = w3.drew := ⟨_, rfl⟩
    rw [← hwd] at hS0 ⊢
    have D0 := Lib.hid (HSQ.out.kept (hwd ▸ (Kept.refl w3).drew))
    have hpd : wd.heap.size ≠ p := Nat.ne_of_gt D0.out.cur.lt
    clear hwd
    refine takeL (i := 0) (v := ?_) rfl (by kernel_rfl) (by kernel_rfl) (by kernel_rfl) (fun _ _ _ h => h) (Or.inl ⟨by rfl, ?_⟩) hS0 ?_
    rotate_left 1
    · (intro w hSw; (try dsimp only at hSw); go_simp; try with_reducible rfl)
    try simp only [Act.put, List.setIfInBounds_toArray, List.set_cons_zero, List.set_cons_succ]
    refine takeL (i := 1) (v := ?_) rfl (by kernel_rfl) (by kernel_rfl) (by kernel_rfl) (fun _ _ _ h => h) (Or.inl ⟨by rfl, ?_⟩) hS0 ?_
    rotate_left 1
    · (intro w hSw; (try dsimp only at hSw); go_simp; try with_reducible rfl)
    try simp only [Act.put, List.setIfInBounds_toArray, List.set_cons_zero, List.set_cons_succ]
    refine takeL (i := 2) (v := ?_) rfl (by kernel_rfl) (by kernel_rfl) (by kernel_rfl) (fun _ _ _ h => h) (Or.inl ⟨by rfl, ?_⟩) hS0 ?_
    rotate_left 1
    · (intro w hSw; (try dsimp only at hSw); go_simp; try with_reducible rfl)
    try simp only [Act.put, List.setIfInBounds_toArray, List.set_cons_zero, List.set_cons_succ]
    refine takeL (i := 3) (v := ?_) rfl (by kernel_rfl) (by kernel_rfl) (by kernel_rfl) (fun _ _ _ h => h) (Or.inl ⟨by rfl, ?_⟩) hS0 ?_
    rotate_left 1
    · (intro w hSw; (try dsimp only at hSw); go_simp; try with_reducible rfl)
    try simp only [Act.put, List.setIfInBounds_toArray, List.set_cons_zero, List.set_cons_succ]
    refine onlyL (i := 4) rfl (by kernel_rfl) (fun K hK => ?_)
    go_simp
    obtain ⟨wa, hwa⟩ : ∃ x : World, x = wd.alloc (.cells #[.int .i64 0, .int .i64 1, .int .i64 2000, .int .i64 2001] 3) := ⟨_, rfl⟩
    rw [← hwa]
    have BL : Box wa wd.heap.size 3 #[.int .i64 0, .int .i64 1, .int .i64 2000, .int .i64 2001] := hwa ▸ Box.new wd _ _ _ rfl
    have Da := Lib.hid (D0.out.kept (hwa ▸ (Kept.refl wd).alloc _))
    clear hwa
    refine hK.out _ _ (HSB.out _ Da.out.box) (fun hS1 => ?_)
    clear hK K hS0
    try simp only [Act.put, List.setIfInBounds_toArray, List.set_cons_zero, List.set_cons_succ]
    refine onlyL (i := 5) rfl (by kernel_rfl) (fun K hK => ?_)
    go_simp
    with_reducible refine (among_lit p _ wd.heap.size 4 [0, 1, 2000, 2001] wa Da.out.cur (by omega) BL hpd rfl (by omega) (by omega)).mono ?_
    rintro e wm ⟨xm, rfl, hxm, c2, on2⟩
    have Dm := Lib.hid (Da.out.drawn c2 on2)
    skip
    clear c2 on2 BL hxm
    go_wp2_with fail
    refine hK.out _ _ (HSB.out _ Dm.out.box) (fun hS2 => ?_)
    clear hK K hS1
    try simp only [Act.put, List.setIfInBounds_toArray, List.set_cons_zero, List.set_cons_succ]
    refine takeL (i := 6) (v := ?_) rfl (by kernel_rfl) (by kernel_rfl) (by kernel_rfl) (fun _ _ _ h => h) (Or.inl ⟨by rfl, ?_⟩) hS2 ?_
    rotate_left 1
    · (intro w hSw; (try dsimp only at hSw); go_simp; try with_reducible rfl)
    try simp only [Act.put, List.setIfInBounds_toArray, List.set_cons_zero, List.set_cons_succ]
    refine takeL (i := 7) (v := ?_) rfl (by kernel_rfl) (by kernel_rfl) (by kernel_rfl) (fun _ _ _ h => h) (Or.inl ⟨by rfl, ?_⟩) hS2 ?_
    rotate_left 1
    · (intro w hSw; (try dsimp only at hSw); go_simp; try with_reducible rfl)
    try simp only [Act.put, List.setIfInBounds_toArray, List.set_cons_zero, List.set_cons_succ]
    refine doneL (by kernel_rfl) ?_
    clear hS2
    obtain ⟨y, hyk, ⟨q0, q1, q2, q3⟩, hys, f0, f1, f2, f3⟩ := ownE_at Dm.out.elems hkn
    have HYK := Lib.hid hyk
    clear hyk
    go_upto_region 33 with (fail)
    clear q0 q1 q2 q3 f0 f1 f2 f3
    have HZ0 := Lib.hid (show DrSt p bb w0.heap.size _ w0 (wm.setCell ⟨ge, k * 4 + 3, none⟩ (.int .i64 xm)) { c with elems := c.elems.set k { y with base := xm } } (Value.slice (some ⟨ge, 0, none⟩) c.elems.length ce) (Value.slice (some ⟨gl, 0, none⟩) c.limits.length cl) from Dm.out.cellE (j := 3) rfl HYK.out (by omega) rfl hys)
    obtain ⟨wz, hwz⟩ : ∃ x : World, x = wm.setCell ⟨ge, k * 4 + 3, none⟩ (.int .i64 xm) := ⟨_, rfl⟩
    rw [← hwz] at HZ0 ⊢
    have HZ := HZ0
    clear HZ0 hwz
    obtain ⟨xb, yb⟩ := HZ.out.box.six
    have B2 := BR.out.only HZ.out.only (not_one (Nat.ne_of_gt hpl))
    obtain ⟨x2, y2⟩ := B2.six
    go_wp2_with fail
    clear xb yb x2 y2
    obtain ⟨w9, hw9, B9, Q9⟩ := set6 B2 (Value.slice (some ⟨ge, 0, none⟩) c.elems.length ce) (Value.slice (some ⟨gl, 0, none⟩) c.limits.length cl) (.int .i64 (c.repeats)) (.int .i64 (c.bonus)) (.int .i64 (c.keeps)) (.int .i64 (c.fall))
    rw [← hw9]
    clear hw9
    obtain ⟨cc, ff⟩ := B9.six
    refine bodyPost_ret (v := .agg #[Value.slice (some ⟨ge, 0, none⟩) c.elems.length ce, Value.slice (some ⟨gl, 0, none⟩) c.limits.length cl, .int .i64 (c.repeats), .int .i64 (c.bonus), .int .i64 (c.keeps), .int .i64 (c.fall)]) (by simp [results, Tryz.results52, go_sem, cc, ff]) rfl ?_
    exact FIN.out _ _ _ _ ({ c with elems := c.elems.set k { y with base := xm } }) _ _ HZ.out Q9 (by omega) (by have := HN.out; rw [List.length_set]; omega) (by have := HN.out; (try dsimp only); omega)
  · go_upto_region 13 with (fail)
    refine region_pop (S := fun w' => w'.cell? ⟨bb, 1, none⟩ = some (Value.slice (some ⟨gl, 0, none⟩) c.limits.length cl)) 8 (by kernel_rfl) (by kernel_rfl) ?_
    simp only [List.take_succ_cons, List.take_zero, List.drop_succ_cons, List.drop_zero]
    refine startL (HSL.out _ (HSQ.out.kept (Kept.refl w3).drew).box) (fun hS0 => ?_)
    obtain ⟨wd, hwd⟩ : ∃ x : World, x = w3.drew := ⟨_, rfl⟩
    rw [← hwd] at hS0 ⊢
    have D0 := Lib.hid (HSQ.out.kept (hwd ▸ (Kept.refl w3).drew))
    clear hwd
    refine takeL (i := 0) (v := ?_) rfl (by kernel_rfl) (by kernel_rfl) (by kernel_rfl) (fun _ _ _ h => h) (Or.inl ⟨by rfl, ?_⟩) hS0 ?_
    rotate_left 1
    · (intro w hSw; (try dsimp only at hSw); go_simp; try with_reducible rfl)
    try simp only [Act.put, List.setIfInBounds_toArray, List.set_cons_zero, List.set_cons_succ]
    refine takeL (i := 1) (v := ?_) rfl (by kernel_rfl) (by kernel_rfl) (by kernel_rfl) (fun _ _ _ h => h) (Or.inl ⟨by rfl, ?_⟩) hS0 ?_
    rotate_left 1
    · (intro w hSw; (try dsimp only at hSw); go_simp; try with_reducible rfl)
    try simp only [Act.put, List.setIfInBounds_toArray, List.set_cons_zero, List.set_cons_succ]
    refine takeL (i := 2) (v := ?_) rfl (by kernel_rfl) (by kernel_rfl) (by kernel_rfl) (fun _ _ _ h => h) (Or.inl ⟨by rfl, ?_⟩) hS0 ?_
    rotate_left 1
    · (intro w hSw; (try dsimp only at hSw); go_simp; try with_reducible rfl)
    try simp only [Act.put, List.setIfInBounds_toArray, List.set_cons_zero, List.set_cons_succ]
    refine takeL (i := 4) (v := ?_) rfl (by kernel_rfl) (by kernel_rfl) (by kernel_rfl) (fun _ _ _ h => h) (Or.inl ⟨by rfl, ?_⟩) hS0 ?_
    rotate_left 1
    · (intro w hSw; (try dsimp only at hSw); go_simp; try with_reducible rfl)
    try simp only [Act.put, List.setIfInBounds_toArray, List.set_cons_zero, List.set_cons_succ]
    refine readyL (rs := [3, 5]) (by kernel_rfl) (by simp) ?_
    refine consL (i := 3) rfl (fun K hK => ?_) (consL (i := 5) rfl (fun K hK => ?_) (allNil))
    ·
      go_simp
      with_reducible refine (pick_any p _ 5 wd D0.out.cur (by omega) (by omega)).mono ?_
      rintro e wk ⟨xk, rfl, ⟨lok, hik⟩, c2, on2⟩
      obtain ⟨kl, rfl⟩ : ∃ n : Nat, xk = (n : Int) := ⟨xk.toNat, by omega⟩
      have hk5 : (kl : Int) < 5 := hik (by omega)
      have Dk := Lib.hid (D0.out.drawn c2 on2)
      skip
      clear c2 on2 hik
      go_wp2_with fail
      refine hK.out _ _ (HSL.out _ Dk.out.box) (fun hS1 => ?_)
      clear hK K hS0
      try simp only [Act.put, List.setIfInBounds_toArray, List.set_cons_zero, List.set_cons_succ]
      refine onlyL (i := 5) rfl (by kernel_rfl) (fun K hK => ?_)
      go_simp
      obtain ⟨wa, hwa⟩ : ∃ x : World, x = wk.alloc (.cells #[.int .i64 (-1), .int .i64 9, .int .i64 10] 3) := ⟨_, rfl⟩
      rw [← hwa]
      have BL : Box wa wk.heap.size 3 #[.int .i64 (-1), .int .i64 9, .int .i64 10] := hwa ▸ Box.new wk _ _ _ rfl
      have Da := Lib.hid (Dk.out.kept (hwa ▸ (Kept.refl wk).alloc _))
      have hpd : wk.heap.size ≠ p := Nat.ne_of_gt Dk.out.cur.lt
      obtain ⟨gb, hgb⟩ : ∃ b : Nat, b = wk.heap.size := ⟨_, rfl⟩
      rw [← hgb] at BL hpd ⊢
      clear hwa hgb
      refine hK.out _ _ (HSL.out _ Da.out.box) (fun hS2 => ?_)
      clear hK K hS1
      try simp only [Act.put, List.setIfInBounds_toArray, List.set_cons_zero, List.set_cons_succ]
      have hk6 : (kl : Int) < (c.limits.length : Int) := by have := HN.out; (try dsimp only); omega
      have hk7 : kl < c.limits.length := by omega
      refine onlyL (i := 6) rfl (by kernel_rfl) (fun K hK => ?_)
      go_simp
      with_reducible refine (among_lit p _ gb 3 [-1, 9, 10] wa Da.out.cur (by omega) BL hpd rfl (by omega) (by omega)).mono ?_
      rintro e wm ⟨xm, rfl, hxm, c2, on2⟩
      have Dm := Lib.hid (Da.out.drawn c2 on2)
      clear c2 on2 BL hxm
      go_wp2_with fail
      refine hK.out _ _ (HSL.out _ Dm.out.box) (fun hS3 => ?_)
      clear hK K hS2
      try simp only [Act.put, List.setIfInBounds_toArray, List.set_cons_zero, List.set_cons_succ]
      refine takeL (i := 7) (v := ?_) rfl (by kernel_rfl) (by kernel_rfl) (by kernel_rfl) (fun _ _ _ h => h) (Or.inl ⟨by rfl, ?_⟩) hS3 ?_
      rotate_left 1
      · (intro w hSw; (try dsimp only at hSw); go_simp; try with_reducible rfl)
      try simp only [Act.put, List.setIfInBounds_toArray, List.set_cons_zero, List.set_cons_succ]
      refine doneL (by kernel_rfl) ?_
      clear hS3
      obtain ⟨y, q0, f0⟩ := ownI_at Dm.out.lims hk7
      go_upto_region 33 with (fail)
      clear q0 f0
      have HZ0 := Lib.hid (show DrSt p bb w0.heap.size _ w0 (wm.setCell ⟨gl, kl, none⟩ (.int .i64 xm)) { c with limits := c.limits.set kl xm } (Value.slice (some ⟨ge, 0, none⟩) c.elems.length ce) (Value.slice (some ⟨gl, 0, none⟩) c.limits.length cl) from Dm.out.cellL rfl)
      obtain ⟨wz, hwz⟩ : ∃ x : World, x = wm.setCell ⟨gl, kl, none⟩ (.int .i64 xm) := ⟨_, rfl⟩
      rw [← hwz] at HZ0 ⊢
      have HZ := HZ0
      clear HZ0 hwz
      obtain ⟨xb, yb⟩ := HZ.out.box.six
      have B2 := BR.out.only HZ.out.only (not_one (Nat.ne_of_gt hpl))
      obtain ⟨x2, y2⟩ := B2.six
      go_wp2_with fail
      clear xb yb x2 y2
      obtain ⟨w9, hw9, B9, Q9⟩ := set6 B2 (Value.slice (some ⟨ge, 0, none⟩) c.elems.length ce) (Value.slice (some ⟨gl, 0, none⟩) c.limits.length cl) (.int .i64 (c.repeats)) (.int .i64 (c.bonus)) (.int .i64 (c.keeps)) (.int .i64 (c.fall))
      rw [← hw9]
      clear hw9
      obtain ⟨cc, ff⟩ := B9.six
      refine bodyPost_ret (v := .agg #[Value.slice (some ⟨ge, 0, none⟩) c.elems.length ce, Value.slice (some ⟨gl, 0, none⟩) c.limits.length cl, .int .i64 (c.repeats), .int .i64 (c.bonus), .int .i64 (c.keeps), .int .i64 (c.fall)]) (by simp [results, Tryz.results52, go_sem, cc, ff]) rfl ?_
      exact FIN.out _ _ _ _ ({ c with limits := c.limits.set kl xm }) _ _ HZ.out Q9 (by omega) (by have := HN.out; (try dsimp only); omega) (by have := HN.out; rw [List.length_set]; omega)
    ·
      go_simp
      obtain ⟨wa, hwa⟩ : ∃ x : World, x = wd.alloc (.cells #[.int .i64 (-1), .int .i64 9, .int .i64 10] 3) := ⟨_, rfl⟩
      rw [← hwa]
      have BL : Box wa wd.heap.size 3 #[.int .i64 (-1), .int .i64 9, .int .i64 10] := hwa ▸ Box.new wd _ _ _ rfl
      have Da := Lib.hid (D0.out.kept (hwa ▸ (Kept.refl wd).alloc _))
      have hpd : wd.heap.size ≠ p := Nat.ne_of_gt D0.out.cur.lt
      obtain ⟨gb, hgb⟩ : ∃ b : Nat, b = wd.heap.size := ⟨_, rfl⟩
      rw [← hgb] at BL hpd ⊢
      clear hwa hgb
      refine hK.out _ _ (HSL.out _ Da.out.box) (fun hS4 => ?_)
      clear hK K hS0
      try simp only [Act.put, List.setIfInBounds_toArray, List.set_cons_zero, List.set_cons_succ]
      refine onlyL (i := 3) rfl (by kernel_rfl) (fun K hK => ?_)
      go_simp
      with_reducible refine (pick_any p _ 5 wa Da.out.cur (by omega) (by omega)).mono ?_
      rintro e wk ⟨xk, rfl, ⟨lok, hik⟩, c2, on2⟩
      obtain ⟨kl, rfl⟩ : ∃ n : Nat, xk = (n : Int) := ⟨xk.toNat, by omega⟩
      have hk5 : (kl : Int) < 5 := hik (by omega)
      have Dk := Lib.hid (Da.out.drawn c2 on2)
      have BL := BL.only on2 (not_one hpd)
      clear c2 on2 hik
      go_wp2_with fail
      refine hK.out _ _ (HSL.out _ Dk.out.box) (fun hS5 => ?_)
      clear hK K hS4
      try simp only [Act.put, List.setIfInBounds_toArray, List.set_cons_zero, List.set_cons_succ]
      have hk6 : (kl : Int) < (c.limits.length : Int) := by have := HN.out; (try dsimp only); omega
      have hk7 : kl < c.limits.length := by omega
      refine onlyL (i := 6) rfl (by kernel_rfl) (fun K hK => ?_)
      go_simp
      with_reducible refine (among_lit p _ gb 3 [-1, 9, 10] wk Dk.out.cur (by omega) BL hpd rfl (by omega) (by omega)).mono ?_
      rintro e wm ⟨xm, rfl, hxm, c2, on2⟩
      have Dm := Lib.hid (Dk.out.drawn c2 on2)
      clear c2 on2 BL hxm
      go_wp2_with fail
      refine hK.out _ _ (HSL.out _ Dm.out.box) (fun hS6 => ?_)
      clear hK K hS5
      try simp only [Act.put, List.setIfInBounds_toArray, List.set_cons_zero, List.set_cons_succ]
      refine takeL (i := 7) (v := ?_) rfl (by kernel_rfl) (by kernel_rfl) (by kernel_rfl) (fun _ _ _ h => h) (Or.inl ⟨by rfl, ?_⟩) hS6 ?_
      rotate_left 1
      · (intro w hSw; (try dsimp only at hSw); go_simp; try with_reducible rfl)
      try simp only [Act.put, List.setIfInBounds_toArray, List.set_cons_zero, List.set_cons_succ]
      refine doneL (by kernel_rfl) ?_
      clear hS6
      obtain ⟨y, q0, f0⟩ := ownI_at Dm.out.lims hk7
      go_upto_region 33 with (fail)
      clear q0 f0
      have HZ0 := Lib.hid (show DrSt p bb w0.heap.size _ w0 (wm.setCell ⟨gl, kl, none⟩ (.int .i64 xm)) { c with limits := c.limits.set kl xm } (Value.slice (some ⟨ge, 0, none⟩) c.elems.length ce) (Value.slice (some ⟨gl, 0, none⟩) c.limits.length cl) from Dm.out.cellL rfl)
      obtain ⟨wz, hwz⟩ : ∃ x : World, x = wm.setCell ⟨gl, kl, none⟩ (.int .i64 xm) := ⟨_, rfl⟩
      rw [← hwz] at HZ0 ⊢
      have HZ := HZ0
      clear HZ0 hwz
      obtain ⟨xb, yb⟩ := HZ.out.box.six
      have B2 := BR.out.only HZ.out.only (not_one (Nat.ne_of_gt hpl))
      obtain ⟨x2, y2⟩ := B2.six
      go_wp2_with fail
      clear xb yb x2 y2
      obtain ⟨w9, hw9, B9, Q9⟩ := set6 B2 (Value.slice (some ⟨ge, 0, none⟩) c.elems.length ce) (Value.slice (some ⟨gl, 0, none⟩) c.limits.length cl) (.int .i64 (c.repeats)) (.int .i64 (c.bonus)) (.int .i64 (c.keeps)) (.int .i64 (c.fall))
      rw [← hw9]
      clear hw9
      obtain ⟨cc, ff⟩ := B9.six
      refine bodyPost_ret (v := .agg #[Value.slice (some ⟨ge, 0, none⟩) c.elems.length ce, Value.slice (some ⟨gl, 0, none⟩) c.limits.length cl, .int .i64 (c.repeats), .int .i64 (c.bonus), .int .i64 (c.keeps), .int .i64 (c.fall)]) (by simp [results, Tryz.results52, go_sem, cc, ff]) rfl ?_
      exact FIN.out _ _ _ _ ({ c with limits := c.limits.set kl xm }) _ _ HZ.out Q9 (by omega) (by have := HN.out; (try dsimp only); omega) (by have := HN.out; rw [List.length_set]; omega)
  · obtain ⟨xb, yb⟩ := HSQ.out.box.six
    go_upto_region 33 with (at_builtin; refine wpList_append_JD _ rfl _ _ rfl w0.heap.size (Value.slice (some ⟨gl, 0, none⟩) c.limits.length cl) c.limits rfl (HSQ.out.lims.kept ((Kept.refl w3).alloc _)) _ [0] rfl (ints_box1 (Box.new _ _ _ _ rfl)) (by have := HN.out; simp only [List.length_cons, List.length_nil]; omega) (Nat.le_trans sz3 ((Kept.refl w3).alloc _).size) ?_; intro v4 w4 o4 on4 f4; have D4 := HSQ.out.kept ((Kept.refl w3).alloc (.cells #[.int .i64 0] 3)); have ST := Lib.hid (D4.setL on4 o4 f4); obtain ⟨x4, y4⟩ := (D4.midL on4).1.six; have hl4 : (c.limits ++ [0]).length = c.limits.length + 1 := (by simp); obtain ⟨A4, c4, rfl, _⟩ := own_form o4; rw [hl4] at ST ⊢; have HL4 := Lib.hid hl4; clear o4 on4 f4 D4 hl4)
    clear xb yb x4 y4
    have HZ0 := Lib.hid (ST.out)
    obtain ⟨wz, hwz⟩ : ∃ x : World, x = w4.setCell ⟨bb, 1, none⟩ (.slice A4 (c.limits.length + 1) c4) := ⟨_, rfl⟩
    rw [← hwz] at HZ0 ⊢
    have HZ := HZ0
    clear HZ0 hwz
    obtain ⟨xb, yb⟩ := HZ.out.box.six
    have B2 := BR.out.only HZ.out.only (not_one (Nat.ne_of_gt hpl))
    obtain ⟨x2, y2⟩ := B2.six
    go_wp2_with fail
    clear xb yb x2 y2
    obtain ⟨w9, hw9, B9, Q9⟩ := set6 B2 (Value.slice (some ⟨ge, 0, none⟩) c.elems.length ce) (Value.slice A4 (c.limits.length + 1) c4) (.int .i64 (c.repeats)) (.int .i64 (c.bonus)) (.int .i64 (c.keeps)) (.int .i64 (c.fall))
    rw [← hw9]
    clear hw9
    obtain ⟨cc, ff⟩ := B9.six
    refine bodyPost_ret (v := .agg #[Value.slice (some ⟨ge, 0, none⟩) c.elems.length ce, Value.slice A4 (c.limits.length + 1) c4, .int .i64 (c.repeats), .int .i64 (c.bonus), .int .i64 (c.keeps), .int .i64 (c.fall)]) (by simp [results, Tryz.results52, go_sem, cc, ff]) rfl ?_
    exact FIN.out _ _ _ _ ({ c with limits := c.limits ++ [0] }) _ _ HZ.out Q9 (by omega) (by have := HN.out; (try dsimp only); omega) (by have := HN.out; have := HL4.out; (try dsimp only); omega)
  · go_wp2_with fail
    obtain ⟨wa, hwa⟩ : ∃ x : World, x = w3.alloc (.cells #[.int .i64 0, .int .i64 3, .int .i64 4] 3) := ⟨_, rfl⟩
    rw [← hwa]
    have BL : Box wa w3.heap.size 3 #[.int .i64 0, .int .i64 3, .int .i64 4] := hwa ▸ Box.new w3 _ _ _ rfl
    have Da := Lib.hid (HSQ.out.kept (hwa ▸ (Kept.refl w3).alloc _))
    have hpd : w3.heap.size ≠ p := Nat.ne_of_gt HSQ.out.cur.lt
    clear hwa
    with_reducible refine (among_lit p _ w3.heap.size 3 [0, 3, 4] wa Da.out.cur (by omega) BL hpd rfl (by omega) (by omega)).mono ?_
    rintro e wm ⟨xm, rfl, hxm, c2, on2⟩
    have Dm := Lib.hid (Da.out.drawn c2 on2)
    clear c2 on2 BL hxm
    obtain ⟨xb, yb⟩ := Dm.out.box.six
    go_upto_region 33 with (fail)
    clear xb yb
    have HZ0 := Lib.hid (Dm.out.repeats xm)
    obtain ⟨wz, hwz⟩ : ∃ x : World, x = wm.setCell ⟨bb, 2, none⟩ (.int .i64 xm) := ⟨_, rfl⟩
    rw [← hwz] at HZ0 ⊢
    have HZ := HZ0
    clear HZ0 hwz
    obtain ⟨xb, yb⟩ := HZ.out.box.six
    have B2 := BR.out.only HZ.out.only (not_one (Nat.ne_of_gt hpl))
    obtain ⟨x2, y2⟩ := B2.six
    go_wp2_with fail
    clear xb yb x2 y2
    obtain ⟨w9, hw9, B9, Q9⟩ := set6 B2 (Value.slice (some ⟨ge, 0, none⟩) c.elems.length ce) (Value.slice (some ⟨gl, 0, none⟩) c.limits.length cl) (.int .i64 (xm)) (.int .i64 (c.bonus)) (.int .i64 (c.keeps)) (.int .i64 (c.fall))
    rw [← hw9]
    clear hw9
    obtain ⟨cc, ff⟩ := B9.six
    refine bodyPost_ret (v := .agg #[Value.slice (some ⟨ge, 0, none⟩) c.elems.length ce, Value.slice (some ⟨gl, 0, none⟩) c.limits.length cl, .int .i64 (xm), .int .i64 (c.bonus), .int .i64 (c.keeps), .int .i64 (c.fall)]) (by simp [results, Tryz.results52, go_sem, cc, ff]) rfl ?_
    exact FIN.out _ _ _ _ ({ c with repeats := xm }) _ _ HZ.out Q9 (by omega) (by have := HN.out; (try dsimp only); omega) (by have := HN.out; (try dsimp only); omega)
  · go_wp2_with fail
    obtain ⟨wa, hwa⟩ : ∃ x : World, x = w3.alloc (.cells #[.int .i64 (-1), .int .i64 20, .int .i64 21] 3) := ⟨_, rfl⟩
    rw [← hwa]
    have BL : Box wa w3.heap.size 3 #[.int .i64 (-1), .int .i64 20, .int .i64 21] := hwa ▸ Box.new w3 _ _ _ rfl
    have Da := Lib.hid (HSQ.out.kept (hwa ▸ (Kept.refl w3).alloc _))
    have hpd : w3.heap.size ≠ p := Nat.ne_of_gt HSQ.out.cur.lt
    clear hwa
    with_reducible refine (among_lit p _ w3.heap.size 3 [-1, 20, 21] wa Da.out.cur (by omega) BL hpd rfl (by omega) (by omega)).mono ?_
    rintro e wm ⟨xm, rfl, hxm, c2, on2⟩
    have Dm := Lib.hid (Da.out.drawn c2 on2)
    clear c2 on2 BL hxm
    obtain ⟨xb, yb⟩ := Dm.out.box.six
    go_upto_region 33 with (fail)
    clear xb yb
    have HZ0 := Lib.hid (Dm.out.bonus xm)
    obtain ⟨wz, hwz⟩ : ∃ x : World, x = wm.setCell ⟨bb, 3, none⟩ (.int .i64 xm) := ⟨_, rfl⟩
    rw [← hwz] at HZ0 ⊢
    have HZ := HZ0
    clear HZ0 hwz
    obtain ⟨xb, yb⟩ := HZ.out.box.six
    have B2 := BR.out.only HZ.out.only (not_one (Nat.ne_of_gt hpl))
    obtain ⟨x2, y2⟩ := B2.six
    go_wp2_with fail
    clear xb yb x2 y2
    obtain ⟨w9, hw9, B9, Q9⟩ := set6 B2 (Value.slice (some ⟨ge, 0, none⟩) c.elems.length ce) (Value.slice (some ⟨gl, 0, none⟩) c.limits.length cl) (.int .i64 (c.repeats)) (.int .i64 (xm)) (.int .i64 (c.keeps)) (.int .i64 (c.fall))
    rw [← hw9]
    clear hw9
    obtain ⟨cc, ff⟩ := B9.six
    refine bodyPost_ret (v := .agg #[Value.slice (some ⟨ge, 0, none⟩) c.elems.length ce, Value.slice (some ⟨gl, 0, none⟩) c.limits.length cl, .int .i64 (c.repeats), .int .i64 (xm), .int .i64 (c.keeps), .int .i64 (c.fall)]) (by simp [results, Tryz.results52, go_sem, cc, ff]) rfl ?_
    exact FIN.out _ _ _ _ ({ c with bonus := xm }) _ _ HZ.out Q9 (by omega) (by have := HN.out; (try dsimp only); omega) (by have := HN.out; (try dsimp only); omega)
  · go_wp2_with fail
    obtain ⟨wa, hwa⟩ : ∃ x : World, x = w3.alloc (.cells #[.int .i64 49, .int .i64 50, .int .i64 100, .int .i64 101] 3) := ⟨_, rfl⟩
    rw [← hwa]
    have BL : Box wa w3.heap.size 3 #[.int .i64 49, .int .i64 50, .int .i64 100, .int .i64 101] := hwa ▸ Box.new w3 _ _ _ rfl
    have Da := Lib.hid (HSQ.out.kept (hwa ▸ (Kept.refl w3).alloc _))
    have hpd : w3.heap.size ≠ p := Nat.ne_of_gt HSQ.out.cur.lt
    clear hwa
    with_reducible refine (among_lit p _ w3.heap.size 4 [49, 50, 100, 101] wa Da.out.cur (by omega) BL hpd rfl (by omega) (by omega)).mono ?_
    rintro e wm ⟨xm, rfl, hxm, c2, on2⟩
    have Dm := Lib.hid (Da.out.drawn c2 on2)
    clear c2 on2 BL hxm
    obtain ⟨xb, yb⟩ := Dm.out.box.six
    go_upto_region 33 with (fail)
    clear xb yb
    have HZ0 := Lib.hid (Dm.out.keeps xm)
    obtain ⟨wz, hwz⟩ : ∃ x : World, x = wm.setCell ⟨bb, 4, none⟩ (.int .i64 xm) := ⟨_, rfl⟩
    rw [← hwz] at HZ0 ⊢
    have HZ := HZ0
    clear HZ0 hwz
    obtain ⟨xb, yb⟩ := HZ.out.box.six
    have B2 := BR.out.only HZ.out.only (not_one (Nat.ne_of_gt hpl))
    obtain ⟨x2, y2⟩ := B2.six
    go_wp2_with fail
    clear xb yb x2 y2
    obtain ⟨w9, hw9, B9, Q9⟩ := set6 B2 (Value.slice (some ⟨ge, 0, none⟩) c.elems.length ce) (Value.slice (some ⟨gl, 0, none⟩) c.limits.length cl) (.int .i64 (c.repeats)) (.int .i64 (c.bonus)) (.int .i64 (xm)) (.int .i64 (c.fall))
    rw [← hw9]
    clear hw9
    obtain ⟨cc, ff⟩ := B9.six
    refine bodyPost_ret (v := .agg #[Value.slice (some ⟨ge, 0, none⟩) c.elems.length ce, Value.slice (some ⟨gl, 0, none⟩) c.limits.length cl, .int .i64 (c.repeats), .int .i64 (c.bonus), .int .i64 (xm), .int .i64 (c.fall)]) (by simp [results, Tryz.results52, go_sem, cc, ff]) rfl ?_
    exact FIN.out _ _ _ _ ({ c with keeps := xm }) _ _ HZ.out Q9 (by omega) (by have := HN.out; (try dsimp only); omega) (by have := HN.out; (try dsimp only); omega)
  · go_wp2_with fail
    obtain ⟨wa, hwa⟩ : ∃ x : World, x = w3.alloc (.cells #[.int .i64 (-1), .int .i64 500, .int .i64 501] 3) := ⟨_, rfl⟩
    rw [← hwa]
    have BL : Box wa w3.heap.size 3 #[.int .i64 (-1), .int .i64 500, .int .i64 501] := hwa ▸ Box.new w3 _ _ _ rfl
    have Da := Lib.hid (HSQ.out.kept (hwa ▸ (Kept.refl w3).alloc _))
    have hpd : w3.heap.size ≠ p := Nat.ne_of_gt HSQ.out.cur.lt
    clear hwa
    with_reducible refine (among_lit p _ w3.heap.size 3 [-1, 500, 501] wa Da.out.cur (by omega) BL hpd rfl (by omega) (by omega)).mono ?_
    rintro e wm ⟨xm, rfl, hxm, c2, on2⟩
    have Dm := Lib.hid (Da.out.drawn c2 on2)
    clear c2 on2 BL hxm
    obtain ⟨xb, yb⟩ := Dm.out.box.six
    go_upto_region 33 with (fail)
    clear xb yb
    have HZ0 := Lib.hid (Dm.out.fall xm)
    obtain ⟨wz, hwz⟩ : ∃ x : World, x = wm.setCell ⟨bb, 5, none⟩ (.int .i64 xm) := ⟨_, rfl⟩
    rw [← hwz] at HZ0 ⊢
    have HZ := HZ0
    clear HZ0 hwz
    obtain ⟨xb, yb⟩ := HZ.out.box.six
    have B2 := BR.out.only HZ.out.only (not_one (Nat.ne_of_gt hpl))
    obtain ⟨x2, y2⟩ := B2.six
    go_wp2_with fail
    clear xb yb x2 y2
    obtain ⟨w9, hw9, B9, Q9⟩ := set6 B2 (Value.slice (some ⟨ge, 0, none⟩) c.elems.length ce) (Value.slice (some ⟨gl, 0, none⟩) c.limits.length cl) (.int .i64 (c.repeats)) (.int .i64 (c.bonus)) (.int .i64 (c.keeps)) (.int .i64 (xm))
    rw [← hw9]
    clear hw9
    obtain ⟨cc, ff⟩ := B9.six
    refine bodyPost_ret (v := .agg #[Value.slice (some ⟨ge, 0, none⟩) c.elems.length ce, Value.slice (some ⟨gl, 0, none⟩) c.limits.length cl, .int .i64 (c.repeats), .int .i64 (c.bonus), .int .i64 (c.keeps), .int .i64 (xm)]) (by simp [results, Tryz.results52, go_sem, cc, ff]) rfl ?_
    exact FIN.out _ _ _ _ ({ c with fall := xm }) _ _ HZ.out Q9 (by omega) (by have := HN.out; (try dsimp only); omega) (by have := HN.out; (try dsimp only); omega)
  · obtain ⟨xb, yb⟩ := HSQ.out.box.six
    go_upto_region 33 with (fail)
    clear xb yb
    have HZ0 := Lib.hid (HSQ.out.nilE)
    obtain ⟨wz, hwz⟩ : ∃ x : World, x = w3.setCell ⟨bb, 0, none⟩ (.slice none 0 0) := ⟨_, rfl⟩
    rw [← hwz] at HZ0 ⊢
    have HZ := HZ0
    clear HZ0 hwz
    obtain ⟨xb, yb⟩ := HZ.out.box.six
    have B2 := BR.out.only HZ.out.only (not_one (Nat.ne_of_gt hpl))
    obtain ⟨x2, y2⟩ := B2.six
    go_wp2_with fail
    clear xb yb x2 y2
    obtain ⟨w9, hw9, B9, Q9⟩ := set6 B2 (Value.slice none 0 0) (Value.slice (some ⟨gl, 0, none⟩) c.limits.length cl) (.int .i64 (c.repeats)) (.int .i64 (c.bonus)) (.int .i64 (c.keeps)) (.int .i64 (c.fall))
    rw [← hw9]
    clear hw9
    obtain ⟨cc, ff⟩ := B9.six
    refine bodyPost_ret (v := .agg #[Value.slice none 0 0, Value.slice (some ⟨gl, 0, none⟩) c.limits.length cl, .int .i64 (c.repeats), .int .i64 (c.bonus), .int .i64 (c.keeps), .int .i64 (c.fall)]) (by simp [results, Tryz.results52, go_sem, cc, ff]) rfl ?_
    exact FIN.out _ _ _ _ ({ c with elems := [] }) _ _ HZ.out Q9 (by omega) (Nat.zero_le _) (by have := HN.out; (try dsimp only); omega)
  · obtain ⟨xb, yb⟩ := HSQ.out.box.six
    go_wp2_with fail
    clear xb yb
    have HZ0 := Lib.hid (HSQ.out.nilE)
    obtain ⟨wz, hwz⟩ : ∃ x : World, x = w3.setCell ⟨bb, 0, none⟩ (.slice none 0 0) := ⟨_, rfl⟩
    rw [← hwz] at HZ0 ⊢
    have HZ := HZ0
    clear HZ0 hwz
    refine (elementNames_any wz).mono ?_
    rintro e wn ⟨rfl, bn, kn⟩
    have szn := kn.size
    have hB0 : w0.heap.size ≤ wz.heap.size := HZ.out.only.size
    have ON := Lib.hid (elN_box bn wz.heap.size (Nat.le_refl _))
    have HSN := Lib.hid (HZ.out.kept kn)
    have hbz : bb < wz.heap.size := HZ.out.box.lt
    have hlz : gl < wz.heap.size := (own_fp HZ.out.lims gl (by simp [fp_some])).2
    clear bn kn HZ
    go_wp2_with (at_builtin; refine wpList_append_SQ _ rfl _ _ rfl wz.heap.size (.slice (some ⟨wz.heap.size, 0, none⟩) 24 24) elN rfl (ON.out.kept ((Kept.refl wn).alloc _)) _ [⟨#[90, 90]⟩] rfl (strs_box1 (Box.new _ _ _ _ rfl) (by unfold maxLen; decide)) (by decide) (by simp; omega) ?_; intro v4 w4 o4 on4; have D4 := Lib.hid ((HSN.out.kept ((Kept.refl wn).alloc (.cells #[.string ⟨#[90, 90]⟩] 9))).far_ on4 (N := wz.heap.size) (fun b hb => by rw [fp_some, List.mem_singleton] at hb; rw [hb]; exact Nat.le_refl _) hbz (fun b hb => by simp only [fp_none, List.nil_append] at hb; rw [fp_some, List.mem_singleton] at hb; rw [hb]; exact hlz) (by omega)); have O4 := Lib.hid o4; obtain ⟨g4, cp4, rfl⟩ : ∃ g cap, v4 = .slice (some ⟨g, 0, none⟩) 25 cap := (by rcases ownS_casesQ o4 with ⟨_, h⟩ | ⟨g, cap, e⟩ <;> first | (exact absurd h (by decide)) | (exact ⟨g, cap, e⟩)); clear o4 on4)
    clear HSN ON
    obtain ⟨cur, Bc, _, _, _, hcur⟩ := own_box O4.out.1
    have HA4 : Hid (Aside g4 9 cur p bb w4 (.slice none 0 0)) := Lib.hid ⟨Bc, by have := (own_fp O4.out.1 g4 (by simp [fp_some])).1; omega, by have := (own_fp O4.out.1 g4 (by simp [fp_some])).1; omega, fun hb => by cases hb⟩
    have HCU : Hid (∀ k, k < 25 → ∃ z, cur[k]? = some (.string z) ∧ z.size ≤ maxLen) := Lib.hid (fun k hk => by
      have hz : (elN ++ [⟨#[90, 90]⟩])[k]? = some ((elN ++ [⟨#[90, 90]⟩])[k]'(by rw [List.length_append, elN_len]; exact hk)) := List.getElem?_eq_getElem _
      refine ⟨_, ?_, O4.out.2 _ (List.mem_of_getElem? hz)⟩
      have h1 : (cur.toList.take (25 * 1))[k]? = some (Value.string ((elN ++ [⟨#[90, 90]⟩])[k]'(by rw [List.length_append, elN_len]; exact hk))) := by rw [hcur, List.getElem?_map, hz]; rfl
      rw [List.getElem?_take, if_pos (by omega), Array.getElem?_toList] at h1
      exact h1)
    clear O4 hcur Bc hbz hlz szn hB0
    go_loopw [107] (fun i wr => ∃ (k : Nat) (c : CodeD) (ev lv : Value), i = .int .i64 k ∧ k ≤ 25 ∧ c.limits.length = 5 ∧ c.elems.length ≤ k ∧ DrSt p bb w0.heap.size (m + 404) w0 wr c ev lv ∧ Aside g4 9 cur p bb wr ev) (fun i _ => 25 - (RowKit.intOf i).toNat)
    case atStart => exact ⟨0, { c with elems := [] }, _, _, rfl, by omega, HN.out.2.2, Nat.le_refl _, D4.out, HA4.out⟩
    case round =>
      clear D4 HA4
      obtain ⟨k, c, ev, lv, rfl, hk, hl5, hle, hst, has⟩ := hrel
      have HL5 := Lib.hid hl5
      clear hl5
      obtain ⟨Ae, ce, rfl, _⟩ := own_form hst.elems.1
      obtain ⟨Al, cl, rfl, _⟩ := own_form hst.lims
      have HSQ := Lib.hid hst
      have HAQ := Lib.hid has
      by_cases hk25 : k < 25
      · have hk25' : (k : Int) < 25 := by omega
        obtain ⟨z, hz, hzs⟩ := HCU.out k hk25
        have hx : wr.cell? ⟨g4, k, none⟩ = some (.string z) := (has.box.cell k).trans hz
        obtain ⟨xb, yb⟩ := hst.box.six
        have szr : w0.heap.size ≤ wr.heap.size := hst.only.size
        clear hst has hz
        go_wp2_with (at_builtin; refine wpList_append_ED _ rfl _ _ rfl w0.heap.size (.slice Ae c.elems.length ce) c.elems rfl (HSQ.out.elems.kept ((Kept.refl wr).alloc _)) _ [ElemD.mk z 0 0 100] rfl (elems_one (ElemD.mk z 0 0 100) (Box.new _ _ _ _ rfl) hzs) (by simp only [List.length_cons, List.length_nil]; omega) (Nat.le_trans szr ((Kept.refl wr).alloc _).size) ?_; intro v5 w5 o5 on5 f5; have D5 := HSQ.out.kept ((Kept.refl wr).alloc (.cells #[.string z, .int .i64 0, .int .i64 0, .int .i64 100] 60)); have A5 := HAQ.out.kept ((Kept.refl wr).alloc (.cells #[.string z, .int .i64 0, .int .i64 0, .int .i64 100] 60)); have ST := Lib.hid (D5.setE on5 o5 f5); have SA := Lib.hid (A5.setE on5 f5); obtain ⟨x5, y5⟩ := (D5.midE on5).1.six; have hl5 : (c.elems ++ [ElemD.mk z 0 0 100]).length = c.elems.length + 1 := (by simp); obtain ⟨A5', c5, rfl, _⟩ := own_form o5.1; rw [hl5] at ST SA ⊢; have HL6 := Lib.hid hl5; clear o5 on5 f5 D5 A5 hl5 xb yb)
        go_roundw
        case rel => exact ⟨k + 1, { c with elems := c.elems ++ [ElemD.mk z 0 0 100] }, _, _, by go_num, by omega, HL5.out, by rw [HL6.out]; omega, ST.out, SA.out⟩
        case measure => simp [RowKit.intOf]; omega
      · have HZ := HSQ
        clear hst has
        go_upto_region 33 with (fail)
        obtain ⟨xb, yb⟩ := HZ.out.box.six
        have B2 := BR.out.only HZ.out.only (not_one (Nat.ne_of_gt hpl))
        obtain ⟨x2, y2⟩ := B2.six
        go_wp2_with fail
        clear xb yb x2 y2
        obtain ⟨w9, hw9, B9, Q9⟩ := set6 B2 (Value.slice Ae c.elems.length ce) (Value.slice Al c.limits.length cl) (.int .i64 (c.repeats)) (.int .i64 (c.bonus)) (.int .i64 (c.keeps)) (.int .i64 (c.fall))
        rw [← hw9]
        clear hw9
        obtain ⟨cc, ff⟩ := B9.six
        refine bodyPost_ret (v := .agg #[Value.slice Ae c.elems.length ce, Value.slice Al c.limits.length cl, .int .i64 (c.repeats), .int .i64 (c.bonus), .int .i64 (c.keeps), .int .i64 (c.fall)]) (by simp [results, Tryz.results52, go_sem, cc, ff]) rfl ?_
        exact FIN.out _ _ _ _ (c) _ _ HZ.out Q9 (by omega) (by omega) (by have := HL5.out; omega)
  · have HZ := HSQ
    go_upto_region 33 with (fail)
    obtain ⟨xb, yb⟩ := HZ.out.box.six
    have B2 := BR.out.only HZ.out.only (not_one (Nat.ne_of_gt hpl))
    obtain ⟨x2, y2⟩ := B2.six
    go_wp2_with fail
    clear xb yb x2 y2
    obtain ⟨w9, hw9, B9, Q9⟩ := set6 B2 (Value.slice (some ⟨ge, 0, none⟩) c.elems.length ce) (Value.slice (some ⟨gl, 0, none⟩) c.limits.length cl) (.int .i64 (c.repeats)) (.int .i64 (c.bonus)) (.int .i64 (c.keeps)) (.int .i64 (c.fall))
    rw [← hw9]
    clear hw9
    obtain ⟨cc, ff⟩ := B9.six
    refine bodyPost_ret (v := .agg #[Value.slice (some ⟨ge, 0, none⟩) c.elems.length ce, Value.slice (some ⟨gl, 0, none⟩) c.limits.length cl, .int .i64 (c.repeats), .int .i64 (c.bonus), .int .i64 (c.keeps), .int .i64 (c.fall)]) (by simp [results, Tryz.results52, go_sem, cc, ff]) rfl ?_
    exact FIN.out _ _ _ _ (c) _ _ HZ.out Q9 (by omega) (by have := HN.out; (try dsimp only); omega) (by have := HN.out; (try dsimp only); omega)
end Go.Proofs.YtkekpolfdmmgeaaGreat
