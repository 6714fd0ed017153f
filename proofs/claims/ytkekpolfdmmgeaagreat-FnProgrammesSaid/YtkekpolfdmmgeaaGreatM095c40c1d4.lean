/- Contracts of functions that the proof leans on. No condition. -/
import Derived.Test.YtkekpolfdmmgeaaGreatMf2733f378d
/- Draws: programmes and what is done to them. -/
namespace Go.Proofs.YtkekpolfdmmgeaaGreat
set_option linter.unusedVariables false
set_option linter.unusedSimpArgs false
set_option linter.unnecessarySimpa false
open Go.RowKit Go.Lib

/-- what a draw of a code, a list of items and two numbers leaves -/
def J4Post (w : World) (e : Ending) (w' : World) : Prop := ∃ cv lv c its cs, ∃ n z : Int, e = .returned (.tuple #[cv, lv, .int .i64 n, .int .i64 z]) ∧ OwnK w' w.heap.size cv c ∧ OwnC w' w.heap.size lv its cs ∧ c.elems.length ≤ 25 ∧ c.limits.length ≤ 6 ∧ its.length ≤ 15
def TmPost (w : World) (e : Ending) (w' : World) : Prop := ∃ lv its cs, ∃ nm : ByteArray, nm.size ≤ maxLen ∧ e = .returned (.tuple #[lv, .string nm]) ∧ OwnC w' w.heap.size lv its cs ∧ its.length ≤ 15
set_option maxRecDepth 100000 in
set_option maxHeartbeats 16000000 in
theorem drawDropItem_any (v : Value) (w : World) (h : Byts w v) :
    Calls Tryz.prog 10 #[v] w fun e w' => J3Post w e w' ∧ Kept w w' := by
  have HB := Lib.hid h
  obtain ⟨A, n, c, rfl, _, _, _⟩ := h
  go_enter Tryz.func10, Tryz.ntmps10
  go_wp2_with fail
  obtain ⟨wr, hwr⟩ : ∃ x : World, x = w.alloc (.cells #[.slice none 0 0, .slice none 0 0, .int .i64 0, .int .i64 0, .int .i64 0, .int .i64 0] 26) := ⟨_, rfl⟩
  rw [← hwr]
  have BR := Lib.hid (show Box wr w.heap.size 26 #[.slice none 0 0, .slice none 0 0, .int .i64 0, .int .i64 0, .int .i64 0, .int .i64 0] from hwr ▸ Box.new w _ _ _ rfl)
  have KR : Kept w wr := hwr ▸ (Kept.refl w).alloc _
  have szr : w.heap.size < wr.heap.size := BR.out.lt
  have hsz : wr.heap.size = w.heap.size + 1 := by rw [hwr]; simp
  clear hwr
  obtain ⟨A', n', c', e', hnc, hcm, hb⟩ := HB.out.kept KR
  cases e'
  obtain ⟨w0, hw0⟩ : ∃ x : World, x = wr.alloc (.cells #[.slice A n c, .int .i64 0, .int .u64 0] 54) := ⟨_, rfl⟩
  rw [← hw0]
  have C0 : Hid (Cur w0 wr.heap.size 0) := Lib.hid (hw0 ▸ Cur.init hnc hcm hb)
  have K0 : Hid (Kept wr w0) := Lib.hid (hw0 ▸ (Kept.refl wr).alloc _)
  have sz0 : wr.heap.size < w0.heap.size := C0.out.lt
  clear hw0 hb hnc hcm
  obtain ⟨p, hp⟩ : ∃ p, p = w.heap.size + 1 := ⟨_, rfl⟩
  rw [hsz, ← hp] at C0 sz0
  rw [← hp]
  have FIN : Hid (∀ (w3 w9 : World) (cv lv : Value) (X : CodeD) (its : List ItemD) (cs : List (Value × Value)) (n : Int), OwnK w3 w0.heap.size cv X → OwnC w3 w0.heap.size lv its cs → Only [p] w0 w3 → Only [w.heap.size] w3 w9 → (X.elems.length ≤ 25 ∧ X.limits.length ≤ 6) → its.length ≤ 15 → J3Post w (.returned (.tuple #[cv, lv, .int .i64 n])) w9 ∧ Kept w w9) := Lib.hid (fun w3 w9 cv lv X its cs n a b on q h1 h2 => by
    have hq : ∀ b ∈ [w.heap.size], b < w0.heap.size ∨ w3.heap.size ≤ b := fun b hb => by rw [List.mem_singleton] at hb; omega
    exact ⟨⟨cv, lv, X, its, cs, n, rfl, OwnK.base (a.off q hq) (by omega), OwnC.base (b.off q hq) (by omega), h1.1, h1.2, h2⟩, q.above (on.above (KR.trans K0.out) (fun x hx => by rw [List.mem_singleton] at hx; omega)) (fun x hx => by rw [List.mem_singleton] at hx; omega)⟩)
  have hrp : w.heap.size ≠ p := by omega
  replace BR := Lib.hid (BR.out.kept K0.out)
  have hpl0 : p < w0.heap.size := sz0
  have hrw0 : w.heap.size < w0.heap.size := by omega
  clear hp KR K0 hsz
  with_reducible refine (anyProgramme_any p 0 w0 C0.out (by omega)).mono ?_
  rintro e w1 ⟨⟨cv, lv, x, its, cs, rfl, o1, o2, h25, h6, hi15⟩, c1, on1⟩
  obtain ⟨ev, lv', rfl, p1, q1, nd⟩ := o1
  obtain ⟨Ae, ce, rfl, _⟩ := own_form p1.1
  obtain ⟨Al, cl, rfl, _⟩ := own_form q1
  obtain ⟨Aq, cq, rfl, hnq, hmq, _⟩ := own_form o2.2.1
  unfold maxLen at hmq
  have HD := Lib.hid (OwnK.boxed p1 q1 nd c1 on1 hpl0 (Nat.le_refl _))
  have HOw := Lib.hid o2
  clear p1 q1 nd c1 on1 C0 o2
  go_upto_region 3 with (fail)
  obtain ⟨w3, hw3⟩ : ∃ y : World, y = w1.alloc (.cells #[.slice Ae x.elems.length ce, .slice Al x.limits.length cl, .int .i64 x.repeats, .int .i64 x.bonus, .int .i64 x.keeps, .int .i64 x.fall] 26) := ⟨_, rfl⟩
  have k3 : Kept w1 w3 := hw3 ▸ (Kept.refl w1).alloc _
  obtain ⟨bb, hbb⟩ : ∃ b : Nat, b = w1.heap.size := ⟨_, rfl⟩
  rw [← hw3, ← hbb] at HD ⊢
  have HS := HD
  have HO := Lib.hid (HOw.out.kept k3)
  clear hw3 hbb HD HOw k3
  have HP : Hid (∀ (W : World), ∀ b ∈ [p], b < w0.heap.size ∨ W.heap.size ≤ b) := Lib.hid (fun W b hb => by rw [List.mem_singleton] at hb; subst hb; exact .inl hpl0)
  have HSX : Hid (∀ w' : World, Box w' bb 26 #[.slice Ae x.elems.length ce, .slice Al x.limits.length cl, .int .i64 x.repeats, .int .i64 x.bonus, .int .i64 x.keeps, .int .i64 x.fall] → w'.cell? ⟨bb, 0, none⟩ = some (.slice Ae x.elems.length ce) ∧ w'.cell? ⟨bb, 1, none⟩ = some (.slice Al x.limits.length cl) ∧ w'.cell? ⟨bb, 2, none⟩ = some (.int .i64 x.repeats) ∧ w'.cell? ⟨bb, 3, none⟩ = some (.int .i64 x.bonus) ∧ w'.cell? ⟨bb, 4, none⟩ = some (.int .i64 x.keeps) ∧ w'.cell? ⟨bb, 5, none⟩ = some (.int .i64 x.fall)) := Lib.hid (fun w' b => b.six.1)
  refine region_pop (S := fun w' => w'.cell? ⟨bb, 0, none⟩ = some (.slice Ae x.elems.length ce) ∧ w'.cell? ⟨bb, 1, none⟩ = some (.slice Al x.limits.length cl) ∧ w'.cell? ⟨bb, 2, none⟩ = some (.int .i64 x.repeats) ∧ w'.cell? ⟨bb, 3, none⟩ = some (.int .i64 x.bonus) ∧ w'.cell? ⟨bb, 4, none⟩ = some (.int .i64 x.keeps) ∧ w'.cell? ⟨bb, 5, none⟩ = some (.int .i64 x.fall)) 13 (by kernel_rfl) (by kernel_rfl) ?_
  simp only [List.take_succ_cons, List.take_zero, List.drop_succ_cons, List.drop_zero]
  refine startL (HSX.out _ (HS.out.kept (Kept.refl w3).drew).box) (fun hS0 => ?_)
  obtain ⟨wd, hwd⟩ : ∃ y : World, y = w3.drew := ⟨_, rfl⟩
  rw [← hwd] at hS0 ⊢
  have kd : Kept w3 wd := hwd ▸ (Kept.refl w3).drew
  have D0 := Lib.hid (HS.out.kept kd)
  have O0 := Lib.hid (HO.out.kept kd)
  have hw1 : IntKind.i64.wrap ((its.length : Int) + 1) = (its.length : Int) + 1 := IntWalk.i64_in _ (by omega)
  clear hwd
  refine takeL (i := 0) (v := ?_) rfl (by kernel_rfl) (by kernel_rfl) (by kernel_rfl) (fun _ _ _ h => h) (Or.inl ⟨by rfl, ?_⟩) hS0 ?_
  rotate_left 1
  · (intro w hSw; (try dsimp only at hSw); go_simp; try with_reducible rfl)
  try simp only [Act.put, List.setIfInBounds_toArray, List.set_cons_zero, List.set_cons_succ]
  refine takeL (i := 1) (v := ?_) rfl (by kernel_rfl) (by kernel_rfl) (by kernel_rfl) (fun _ _ _ h => h) (Or.inl ⟨by rfl, ?_⟩) hS0 ?_
  rotate_left 1
  · (intro w hSw; (try dsimp only at hSw); go_simp; try with_reducible rfl)
  try simp only [Act.put, List.setIfInBounds_toArray, List.set_cons_zero, List.set_cons_succ]
  refine takeL (i := 2) (v := ?_) rfl (by kernel_rfl) (by kernel_rfl) (by kernel_rfl) (fun _ _ _ h => h) (Or.inl ⟨by rfl, ?_⟩) hS0 ?_
  rotate_left 1
  · (intro w hSw; (try dsimp only at hSw); go_simp; try with_reducible rfl)
  try simp only [Act.put, List.setIfInBounds_toArray, List.set_cons_zero, List.set_cons_succ]
  refine takeL (i := 3) (v := ?_) rfl (by kernel_rfl) (by kernel_rfl) (by kernel_rfl) (fun _ _ _ h => h) (Or.inl ⟨by rfl, ?_⟩) hS0 ?_
  rotate_left 1
  · (intro w hSw; (try dsimp only at hSw); go_simp; try with_reducible rfl)
  try simp only [Act.put, List.setIfInBounds_toArray, List.set_cons_zero, List.set_cons_succ]
  refine takeL (i := 4) (v := ?_) rfl (by kernel_rfl) (by kernel_rfl) (by kernel_rfl) (fun _ _ _ h => h) (Or.inl ⟨by rfl, ?_⟩) hS0 ?_
  rotate_left 1
  · (intro w hSw; (try dsimp only at hSw); go_simp; try with_reducible rfl)
  try simp only [Act.put, List.setIfInBounds_toArray, List.set_cons_zero, List.set_cons_succ]
  refine takeL (i := 5) (v := ?_) rfl (by kernel_rfl) (by kernel_rfl) (by kernel_rfl) (fun _ _ _ h => h) (Or.inl ⟨by rfl, ?_⟩) hS0 ?_
  rotate_left 1
  · (intro w hSw; (try dsimp only at hSw); go_simp; try with_reducible rfl)
  try simp only [Act.put, List.setIfInBounds_toArray, List.set_cons_zero, List.set_cons_succ]
  refine takeL (i := 7) (v := ?_) rfl (by kernel_rfl) (by kernel_rfl) (by kernel_rfl) (fun _ _ _ h => h) (Or.inl ⟨by rfl, ?_⟩) hS0 ?_
  rotate_left 1
  · (intro w hSw; (try dsimp only at hSw); go_simp; try with_reducible rfl)
  try simp only [Act.put, List.setIfInBounds_toArray, List.set_cons_zero, List.set_cons_succ]
  refine onlyL (i := 6) rfl (by kernel_rfl) (fun K hK => ?_)
  go_simp
  with_reducible refine (pick_any p _ ((its.length : Int) + 1) wd D0.out.cur (by omega) (by omega)).mono ?_
  rintro e w6 ⟨x6, rfl, ⟨loN, hiN⟩, cN, onN⟩
  have D6 := Lib.hid (D0.out.drawn cN onN)
  have O6 := Lib.hid (O0.out.off onN (HP.out wd))
  skip
  clear cN onN hiN
  go_wp2_with fail
  refine hK.out _ _ (HSX.out _ D6.out.box) (fun hS1 => ?_)
  clear hK K hS0
  try simp only [Act.put, List.setIfInBounds_toArray, List.set_cons_zero, List.set_cons_succ]
  refine onlyL (i := 8) rfl (by kernel_rfl) (fun K hK => ?_)
  go_simp
  with_reducible refine (pick_any p _ 20 w6 D6.out.cur (by omega) (by omega)).mono ?_
  rintro e w8 ⟨x8, rfl, ⟨loN, hiN⟩, cN, onN⟩
  have D8 := Lib.hid (D6.out.drawn cN onN)
  have O8 := Lib.hid (O6.out.off onN (HP.out w6))
  obtain ⟨u, hu, hu0, hu1⟩ : ∃ q : Int, x8.tdiv 19 = q ∧ 0 ≤ q ∧ q ≤ 1 := ⟨_, rfl, Int.tdiv_nonneg loN (by omega), by have := hiN (by omega); rw [Int.tdiv_eq_ediv_of_nonneg loN]; omega⟩
  have hue : x8 / 19 = u := by rw [← hu, Int.tdiv_eq_ediv_of_nonneg loN]
  have hu9 : IntKind.i64.wrap u = u := IntWalk.i64_in _ (by omega)
  obtain ⟨nn, hw9⟩ : ∃ n : Int, IntKind.i64.wrap (x6 - u) = n := ⟨_, rfl⟩
  clear cN onN hiN
  go_wp2_with fail
  refine hK.out _ _ (HSX.out _ D8.out.box) (fun hS2 => ?_)
  clear hK K hS1
  try simp only [Act.put, List.setIfInBounds_toArray, List.set_cons_zero, List.set_cons_succ]
  refine takeL (i := 9) (v := ?_) rfl (by kernel_rfl) (by kernel_rfl) (by kernel_rfl) (fun _ _ _ h => h) (Or.inl ⟨by rfl, ?_⟩) hS2 ?_
  rotate_left 1
  · (intro w hSw; (try dsimp only at hSw); go_simp; try with_reducible rfl)
  try simp only [Act.put, List.setIfInBounds_toArray, List.set_cons_zero, List.set_cons_succ]
  refine takeL (i := 10) (v := ?_) rfl (by kernel_rfl) (by kernel_rfl) (by kernel_rfl) (fun _ _ _ h => h) (Or.inl ⟨by rfl, ?_⟩) hS2 ?_
  rotate_left 1
  · (intro w hSw; (try dsimp only at hSw); go_simp; try with_reducible rfl)
  try simp only [Act.put, List.setIfInBounds_toArray, List.set_cons_zero, List.set_cons_succ]
  refine onlyL (i := 11) rfl (by kernel_rfl) (fun K hK => ?_)
  clear hw1 hu hue hu9 hw9
  have B2 := BR.out.only D8.out.only (not_one hrp)
  obtain ⟨x2, y2⟩ := B2.six
  go_simp
  clear x2 y2
  obtain ⟨wz, hwz, Bz, Qz⟩ := set6 B2 (Value.slice Ae x.elems.length ce) (Value.slice Al x.limits.length cl) (.int .i64 x.repeats) (.int .i64 x.bonus) (.int .i64 x.keeps) (.int .i64 x.fall)
  rw [← hwz]
  clear hwz
  have hbr : bb ≠ w.heap.size := by have := D8.out.hbb; omega
  refine hK.out _ _ (HSX.out _ (D8.out.box.only Qz (not_one hbr))) (fun hS3 => ?_)
  clear hK K hS2
  try simp only [Act.put, List.setIfInBounds_toArray, List.set_cons_zero, List.set_cons_succ]
  refine onlyL (i := 12) rfl (by kernel_rfl) (fun K hK => ?_)
  go_simp
  refine hK.out _ _ (HSX.out _ (D8.out.box.only Qz (not_one hbr))) (fun hS4 => ?_)
  clear hK K hS3
  try simp only [Act.put, List.setIfInBounds_toArray, List.set_cons_zero, List.set_cons_succ]
  refine doneL (by kernel_rfl) ?_
  clear hS4
  go_wp2_with fail
  obtain ⟨cc, ff⟩ := Bz.six
  refine bodyPost_ret (v := .tuple #[.agg #[Value.slice Ae x.elems.length ce, Value.slice Al x.limits.length cl, .int .i64 x.repeats, .int .i64 x.bonus, .int .i64 x.keeps, .int .i64 x.fall], .slice Aq its.length cq, .int .i64 nn]) (by simp [results, Tryz.results10, go_sem, cc, ff]) rfl ?_
  exact FIN.out _ wz _ _ x _ _ nn D8.out.own O8.out D8.out.only Qz ⟨h25, h6⟩ hi15
set_option maxRecDepth 100000 in
set_option maxHeartbeats 16000000 in
theorem drawMoveItem_any (v : Value) (w : World) (h : Byts w v) :
    Calls Tryz.prog 7 #[v] w fun e w' => J4Post w e w' ∧ Kept w w' := by
  have HB := Lib.hid h
  obtain ⟨A, n, c, rfl, _, _, _⟩ := h
  go_enter Tryz.func7, Tryz.ntmps7
  go_wp2_with fail
  obtain ⟨wr, hwr⟩ : ∃ x : World, x = w.alloc (.cells #[.slice none 0 0, .slice none 0 0, .int .i64 0, .int .i64 0, .int .i64 0, .int .i64 0] 26) := ⟨_, rfl⟩
  rw [← hwr]
  have BR := Lib.hid (show Box wr w.heap.size 26 #[.slice none 0 0, .slice none 0 0, .int .i64 0, .int .i64 0, .int .i64 0, .int .i64 0] from hwr ▸ Box.new w _ _ _ rfl)
  have KR : Kept w wr := hwr ▸ (Kept.refl w).alloc _
  have szr : w.heap.size < wr.heap.size := BR.out.lt
  have hsz : wr.heap.size = w.heap.size + 1 := by rw [hwr]; simp
  clear hwr
  obtain ⟨A', n', c', e', hnc, hcm, hb⟩ := HB.out.kept KR
  cases e'
  obtain ⟨w0, hw0⟩ : ∃ x : World, x = wr.alloc (.cells #[.slice A n c, .int .i64 0, .int .u64 0] 54) := ⟨_, rfl⟩
  rw [← hw0]
  have C0 : Hid (Cur w0 wr.heap.size 0) := Lib.hid (hw0 ▸ Cur.init hnc hcm hb)
  have K0 : Hid (Kept wr w0) := Lib.hid (hw0 ▸ (Kept.refl wr).alloc _)
  have sz0 : wr.heap.size < w0.heap.size := C0.out.lt
  clear hw0 hb hnc hcm
  obtain ⟨p, hp⟩ : ∃ p, p = w.heap.size + 1 := ⟨_, rfl⟩
  rw [hsz, ← hp] at C0 sz0
  rw [← hp]
  have FIN : Hid (∀ (w3 w9 : World) (cv lv : Value) (X : CodeD) (its : List ItemD) (cs : List (Value × Value)) (n z : Int), OwnK w3 w0.heap.size cv X → OwnC w3 w0.heap.size lv its cs → Only [p] w0 w3 → Only [w.heap.size] w3 w9 → (X.elems.length ≤ 25 ∧ X.limits.length ≤ 6) → its.length ≤ 15 → J4Post w (.returned (.tuple #[cv, lv, .int .i64 n, .int .i64 z])) w9 ∧ Kept w w9) := Lib.hid (fun w3 w9 cv lv X its cs n z a b on q h1 h2 => by
    have hq : ∀ b ∈ [w.heap.size], b < w0.heap.size ∨ w3.heap.size ≤ b := fun b hb => by rw [List.mem_singleton] at hb; omega
    exact ⟨⟨cv, lv, X, its, cs, n, z, rfl, OwnK.base (a.off q hq) (by omega), OwnC.base (b.off q hq) (by omega), h1.1, h1.2, h2⟩, q.above (on.above (KR.trans K0.out) (fun x hx => by rw [List.mem_singleton] at hx; omega)) (fun x hx => by rw [List.mem_singleton] at hx; omega)⟩)
  have hrp : w.heap.size ≠ p := by omega
  replace BR := Lib.hid (BR.out.kept K0.out)
  have hpl0 : p < w0.heap.size := sz0
  have hrw0 : w.heap.size < w0.heap.size := by omega
  clear hp KR K0 hsz
  with_reducible refine (anyProgramme_any p 0 w0 C0.out (by omega)).mono ?_
  rintro e w1 ⟨⟨cv, lv, x, its, cs, rfl, o1, o2, h25, h6, hi15⟩, c1, on1⟩
  obtain ⟨ev, lv', rfl, p1, q1, nd⟩ := o1
  obtain ⟨Ae, ce, rfl, _⟩ := own_form p1.1
  obtain ⟨Al, cl, rfl, _⟩ := own_form q1
  obtain ⟨Aq, cq, rfl, hnq, hmq, _⟩ := own_form o2.2.1
  unfold maxLen at hmq
  have HD := Lib.hid (OwnK.boxed p1 q1 nd c1 on1 hpl0 (Nat.le_refl _))
  have HOw := Lib.hid o2
  clear p1 q1 nd c1 on1 C0 o2
  go_upto_region 3 with (fail)
  obtain ⟨w3, hw3⟩ : ∃ y : World, y = w1.alloc (.cells #[.slice Ae x.elems.length ce, .slice Al x.limits.length cl, .int .i64 x.repeats, .int .i64 x.bonus, .int .i64 x.keeps, .int .i64 x.fall] 26) := ⟨_, rfl⟩
  have k3 : Kept w1 w3 := hw3 ▸ (Kept.refl w1).alloc _
  obtain ⟨bb, hbb⟩ : ∃ b : Nat, b = w1.heap.size := ⟨_, rfl⟩
  rw [← hw3, ← hbb] at HD ⊢
  have HS := HD
  have HO := Lib.hid (HOw.out.kept k3)
  clear hw3 hbb HD HOw k3
  have HP : Hid (∀ (W : World), ∀ b ∈ [p], b < w0.heap.size ∨ W.heap.size ≤ b) := Lib.hid (fun W b hb => by rw [List.mem_singleton] at hb; subst hb; exact .inl hpl0)
  have HSX : Hid (∀ w' : World, Box w' bb 26 #[.slice Ae x.elems.length ce, .slice Al x.limits.length cl, .int .i64 x.repeats, .int .i64 x.bonus, .int .i64 x.keeps, .int .i64 x.fall] → w'.cell? ⟨bb, 0, none⟩ = some (.slice Ae x.elems.length ce) ∧ w'.cell? ⟨bb, 1, none⟩ = some (.slice Al x.limits.length cl) ∧ w'.cell? ⟨bb, 2, none⟩ = some (.int .i64 x.repeats) ∧ w'.cell? ⟨bb, 3, none⟩ = some (.int .i64 x.bonus) ∧ w'.cell? ⟨bb, 4, none⟩ = some (.int .i64 x.keeps) ∧ w'.cell? ⟨bb, 5, none⟩ = some (.int .i64 x.fall)) := Lib.hid (fun w' b => b.six.1)
  refine region_pop (S := fun w' => w'.cell? ⟨bb, 0, none⟩ = some (.slice Ae x.elems.length ce) ∧ w'.cell? ⟨bb, 1, none⟩ = some (.slice Al x.limits.length cl) ∧ w'.cell? ⟨bb, 2, none⟩ = some (.int .i64 x.repeats) ∧ w'.cell? ⟨bb, 3, none⟩ = some (.int .i64 x.bonus) ∧ w'.cell? ⟨bb, 4, none⟩ = some (.int .i64 x.keeps) ∧ w'.cell? ⟨bb, 5, none⟩ = some (.int .i64 x.fall)) 19 (by kernel_rfl) (by kernel_rfl) ?_
  simp only [List.take_succ_cons, List.take_zero, List.drop_succ_cons, List.drop_zero]
  refine startL (HSX.out _ (HS.out.kept (Kept.refl w3).drew).box) (fun hS0 => ?_)
  obtain ⟨wd, hwd⟩ : ∃ y : World, y = w3.drew := ⟨_, rfl⟩
  rw [← hwd] at hS0 ⊢
  have kd : Kept w3 wd := hwd ▸ (Kept.refl w3).drew
  have D0 := Lib.hid (HS.out.kept kd)
  have O0 := Lib.hid (HO.out.kept kd)
  have hw1 : IntKind.i64.wrap ((its.length : Int) + 1) = (its.length : Int) + 1 := IntWalk.i64_in _ (by omega)
  clear hwd
  refine takeL (i := 0) (v := ?_) rfl (by kernel_rfl) (by kernel_rfl) (by kernel_rfl) (fun _ _ _ h => h) (Or.inl ⟨by rfl, ?_⟩) hS0 ?_
  rotate_left 1
  · (intro w hSw; (try dsimp only at hSw); go_simp; try with_reducible rfl)
  try simp only [Act.put, List.setIfInBounds_toArray, List.set_cons_zero, List.set_cons_succ]
  refine takeL (i := 1) (v := ?_) rfl (by kernel_rfl) (by kernel_rfl) (by kernel_rfl) (fun _ _ _ h => h) (Or.inl ⟨by rfl, ?_⟩) hS0 ?_
  rotate_left 1
  · (intro w hSw; (try dsimp only at hSw); go_simp; try with_reducible rfl)
  try simp only [Act.put, List.setIfInBounds_toArray, List.set_cons_zero, List.set_cons_succ]
  refine takeL (i := 2) (v := ?_) rfl (by kernel_rfl) (by kernel_rfl) (by kernel_rfl) (fun _ _ _ h => h) (Or.inl ⟨by rfl, ?_⟩) hS0 ?_
  rotate_left 1
  · (intro w hSw; (try dsimp only at hSw); go_simp; try with_reducible rfl)
  try simp only [Act.put, List.setIfInBounds_toArray, List.set_cons_zero, List.set_cons_succ]
  refine takeL (i := 3) (v := ?_) rfl (by kernel_rfl) (by kernel_rfl) (by kernel_rfl) (fun _ _ _ h => h) (Or.inl ⟨by rfl, ?_⟩) hS0 ?_
  rotate_left 1
  · (intro w hSw; (try dsimp only at hSw); go_simp; try with_reducible rfl)
  try simp only [Act.put, List.setIfInBounds_toArray, List.set_cons_zero, List.set_cons_succ]
  refine takeL (i := 4) (v := ?_) rfl (by kernel_rfl) (by kernel_rfl) (by kernel_rfl) (fun _ _ _ h => h) (Or.inl ⟨by rfl, ?_⟩) hS0 ?_
  rotate_left 1
  · (intro w hSw; (try dsimp only at hSw); go_simp; try with_reducible rfl)
  try simp only [Act.put, List.setIfInBounds_toArray, List.set_cons_zero, List.set_cons_succ]
  refine takeL (i := 5) (v := ?_) rfl (by kernel_rfl) (by kernel_rfl) (by kernel_rfl) (fun _ _ _ h => h) (Or.inl ⟨by rfl, ?_⟩) hS0 ?_
  rotate_left 1
  · (intro w hSw; (try dsimp only at hSw); go_simp; try with_reducible rfl)
  try simp only [Act.put, List.setIfInBounds_toArray, List.set_cons_zero, List.set_cons_succ]
  refine takeL (i := 7) (v := ?_) rfl (by kernel_rfl) (by kernel_rfl) (by kernel_rfl) (fun _ _ _ h => h) (Or.inl ⟨by rfl, ?_⟩) hS0 ?_
  rotate_left 1
  · (intro w hSw; (try dsimp only at hSw); go_simp; try with_reducible rfl)
  try simp only [Act.put, List.setIfInBounds_toArray, List.set_cons_zero, List.set_cons_succ]
  refine takeL (i := 11) (v := ?_) rfl (by kernel_rfl) (by kernel_rfl) (by kernel_rfl) (fun _ _ _ h => h) (Or.inl ⟨by rfl, ?_⟩) hS0 ?_
  rotate_left 1
  · (intro w hSw; (try dsimp only at hSw); go_simp; try with_reducible rfl)
  try simp only [Act.put, List.setIfInBounds_toArray, List.set_cons_zero, List.set_cons_succ]
  refine takeL (i := 12) (v := ?_) rfl (by kernel_rfl) (by kernel_rfl) (by kernel_rfl) (fun _ _ _ h => h) (Or.inl ⟨by rfl, ?_⟩) hS0 ?_
  rotate_left 1
  · (intro w hSw; (try dsimp only at hSw); go_simp; try with_reducible rfl)
  try simp only [Act.put, List.setIfInBounds_toArray, List.set_cons_zero, List.set_cons_succ]
  refine takeL (i := 13) (v := ?_) rfl (by kernel_rfl) (by kernel_rfl) (by kernel_rfl) (fun _ _ _ h => h) (Or.inl ⟨by rfl, ?_⟩) hS0 ?_
  rotate_left 1
  · (intro w hSw; (try dsimp only at hSw); go_simp; try with_reducible rfl)
  try simp only [Act.put, List.setIfInBounds_toArray, List.set_cons_zero, List.set_cons_succ]
  refine takeL (i := 14) (v := ?_) rfl (by kernel_rfl) (by kernel_rfl) (by kernel_rfl) (fun _ _ _ h => h) (Or.inl ⟨by rfl, ?_⟩) hS0 ?_
  rotate_left 1
  · (intro w hSw; (try dsimp only at hSw); go_simp; try with_reducible rfl)
  try simp only [Act.put, List.setIfInBounds_toArray, List.set_cons_zero, List.set_cons_succ]
  refine onlyL (i := 6) rfl (by kernel_rfl) (fun K hK => ?_)
  go_simp
  with_reducible refine (pick_any p _ ((its.length : Int) + 1) wd D0.out.cur (by omega) (by omega)).mono ?_
  rintro e w6 ⟨x6, rfl, ⟨loN, hiN⟩, cN, onN⟩
  have D6 := Lib.hid (D0.out.drawn cN onN)
  have O6 := Lib.hid (O0.out.off onN (HP.out wd))
  skip
  clear cN onN hiN
  go_wp2_with fail
  refine hK.out _ _ (HSX.out _ D6.out.box) (fun hS1 => ?_)
  clear hK K hS0
  try simp only [Act.put, List.setIfInBounds_toArray, List.set_cons_zero, List.set_cons_succ]
  refine onlyL (i := 8) rfl (by kernel_rfl) (fun K hK => ?_)
  go_simp
  with_reducible refine (pick_any p _ 20 w6 D6.out.cur (by omega) (by omega)).mono ?_
  rintro e w8 ⟨x8, rfl, ⟨loN, hiN⟩, cN, onN⟩
  have D8 := Lib.hid (D6.out.drawn cN onN)
  have O8 := Lib.hid (O6.out.off onN (HP.out w6))
  obtain ⟨u, hu, hu0, hu1⟩ : ∃ q : Int, x8.tdiv 19 = q ∧ 0 ≤ q ∧ q ≤ 1 := ⟨_, rfl, Int.tdiv_nonneg loN (by omega), by have := hiN (by omega); rw [Int.tdiv_eq_ediv_of_nonneg loN]; omega⟩
  have hue : x8 / 19 = u := by rw [← hu, Int.tdiv_eq_ediv_of_nonneg loN]
  have hu9 : IntKind.i64.wrap u = u := IntWalk.i64_in _ (by omega)
  obtain ⟨nn, hw9⟩ : ∃ n : Int, IntKind.i64.wrap (x6 - u) = n := ⟨_, rfl⟩
  clear cN onN hiN
  go_wp2_with fail
  refine hK.out _ _ (HSX.out _ D8.out.box) (fun hS2 => ?_)
  clear hK K hS1
  try simp only [Act.put, List.setIfInBounds_toArray, List.set_cons_zero, List.set_cons_succ]
  refine takeL (i := 9) (v := ?_) rfl (by kernel_rfl) (by kernel_rfl) (by kernel_rfl) (fun _ _ _ h => h) (Or.inl ⟨by rfl, ?_⟩) hS2 ?_
  rotate_left 1
  · (intro w hSw; (try dsimp only at hSw); go_simp; try with_reducible rfl)
  try simp only [Act.put, List.setIfInBounds_toArray, List.set_cons_zero, List.set_cons_succ]
  refine takeL (i := 10) (v := ?_) rfl (by kernel_rfl) (by kernel_rfl) (by kernel_rfl) (fun _ _ _ h => h) (Or.inl ⟨by rfl, ?_⟩) hS2 ?_
  rotate_left 1
  · (intro w hSw; (try dsimp only at hSw); go_simp; try with_reducible rfl)
  try simp only [Act.put, List.setIfInBounds_toArray, List.set_cons_zero, List.set_cons_succ]
  refine onlyL (i := 15) rfl (by kernel_rfl) (fun K hK => ?_)
  go_simp
  with_reducible refine (pick_any p _ ((its.length : Int) + 1) w8 D8.out.cur (by omega) (by omega)).mono ?_
  rintro e w15 ⟨x15, rfl, ⟨loN, hiN⟩, cN, onN⟩
  have D15 := Lib.hid (D8.out.drawn cN onN)
  have O15 := Lib.hid (O8.out.off onN (HP.out w8))
  skip
  clear cN onN hiN
  go_wp2_with fail
  refine hK.out _ _ (HSX.out _ D15.out.box) (fun hS3 => ?_)
  clear hK K hS2
  try simp only [Act.put, List.setIfInBounds_toArray, List.set_cons_zero, List.set_cons_succ]
  refine onlyL (i := 16) rfl (by kernel_rfl) (fun K hK => ?_)
  clear hw1 hu hue hu9 hw9
  have B2 := BR.out.only D15.out.only (not_one hrp)
  obtain ⟨x2, y2⟩ := B2.six
  go_simp
  clear x2 y2
  obtain ⟨wz, hwz, Bz, Qz⟩ := set6 B2 (Value.slice Ae x.elems.length ce) (Value.slice Al x.limits.length cl) (.int .i64 x.repeats) (.int .i64 x.bonus) (.int .i64 x.keeps) (.int .i64 x.fall)
  rw [← hwz]
  clear hwz
  have hbr : bb ≠ w.heap.size := by have := D15.out.hbb; omega
  refine hK.out _ _ (HSX.out _ (D15.out.box.only Qz (not_one hbr))) (fun hS4 => ?_)
  clear hK K hS3
  try simp only [Act.put, List.setIfInBounds_toArray, List.set_cons_zero, List.set_cons_succ]
  refine onlyL (i := 17) rfl (by kernel_rfl) (fun K hK => ?_)
  go_simp
  refine hK.out _ _ (HSX.out _ (D15.out.box.only Qz (not_one hbr))) (fun hS5 => ?_)
  clear hK K hS4
  try simp only [Act.put, List.setIfInBounds_toArray, List.set_cons_zero, List.set_cons_succ]
  refine onlyL (i := 18) rfl (by kernel_rfl) (fun K hK => ?_)
  go_simp
  refine hK.out _ _ (HSX.out _ (D15.out.box.only Qz (not_one hbr))) (fun hS6 => ?_)
  clear hK K hS5
  try simp only [Act.put, List.setIfInBounds_toArray, List.set_cons_zero, List.set_cons_succ]
  refine doneL (by kernel_rfl) ?_
  clear hS6
  go_wp2_with fail
  obtain ⟨cc, ff⟩ := Bz.six
  refine bodyPost_ret (v := .tuple #[.agg #[Value.slice Ae x.elems.length ce, Value.slice Al x.limits.length cl, .int .i64 x.repeats, .int .i64 x.bonus, .int .i64 x.keeps, .int .i64 x.fall], .slice Aq its.length cq, .int .i64 nn, .int .i64 x15]) (by simp [results, Tryz.results7, go_sem, cc, ff]) rfl ?_
  exact FIN.out _ wz _ _ x _ _ nn x15 D15.out.own O15.out D15.out.only Qz ⟨h25, h6⟩ hi15
set_option maxRecDepth 100000 in
set_option maxHeartbeats 8000000 in
theorem drawMarkLate_any (v : Value) (w : World) (h : Byts w v) :
    Calls Tryz.prog 16 #[v] w fun e w' => LsPost w e w' 15 ∧ Kept w w' := by
  obtain ⟨A, n, c, rfl, hnc, hcm, hb⟩ := h
  go_enter Tryz.func16, Tryz.ntmps16
  go_wp2_with fail
  obtain ⟨w0, hw0⟩ : ∃ x : World, x = w.alloc (.cells #[.slice A n c, .int .i64 0, .int .u64 0] 54) := ⟨_, rfl⟩
  rw [← hw0]
  have C0 : Hid (Cur w0 w.heap.size 0) := Lib.hid (hw0 ▸ Cur.init hnc hcm hb)
  have K0 : Hid (Kept w w0) := Lib.hid (hw0 ▸ (Kept.refl w).alloc _)
  clear hw0 hb
  have sz0 : w.heap.size < w0.heap.size := C0.out.lt
  obtain ⟨p, hp⟩ : ∃ p, p = w.heap.size := ⟨_, rfl⟩
  rw [← hp] at C0 sz0 ⊢
  have hpw : w.heap.size ≤ p := Nat.le_of_eq hp.symm
  clear hp
  have FINK : Hid (∀ w3 : World, Only [p] w0 w3 → Kept w w3) := Lib.hid (fun w3 on => on.above K0.out (fun x hx => by rw [List.mem_singleton] at hx; omega))
  have szk : w.heap.size ≤ w0.heap.size := Nat.le_of_lt (by have := K0.out.size; omega)
  with_reducible refine (anyProgramme_any p 0 w0 C0.out (by omega)).mono ?_
  rintro e w1 ⟨⟨cv, lv, x, its, cs, rfl, o1, o2, h25, h6, hi15⟩, c1, on1⟩
  obtain ⟨ev, lv', rfl, p1, q1, nd⟩ := o1
  obtain ⟨Ae, ce, rfl, _⟩ := own_form p1.1
  obtain ⟨Al, cl, rfl, _⟩ := own_form q1
  obtain ⟨Aq, cq, rfl, hnq, hmq, hAq⟩ := own_form o2.2.1
  unfold maxLen at hmq
  have HAQ := Lib.hid hAq
  have O1 := Lib.hid o2
  have C1 := Lib.hid c1
  have N1 := Lib.hid on1
  clear p1 q1 nd c1 on1 C0 o2 hAq
  go_upto_region 3 with (fail)
  obtain ⟨w3, hw3⟩ : ∃ y : World, y = w1.alloc (.cells #[.slice Ae x.elems.length ce, .slice Al x.limits.length cl, .int .i64 x.repeats, .int .i64 x.bonus, .int .i64 x.keeps, .int .i64 x.fall] 26) := ⟨_, rfl⟩
  have k3 : Kept w1 w3 := hw3 ▸ (Kept.refl w1).alloc _
  rw [← hw3]
  have O3 := Lib.hid (O1.out.kept k3)
  have C3 := Lib.hid (C1.out.kept k3)
  have N3 := Lib.hid (N1.out.trans (k3.only _))
  clear hw3 k3 O1 C1 N1
  go_wp2_with fail
  go_ret
  exact ⟨⟨_, its, cs, rfl, O3.out.base szk, hi15⟩, FINK.out _ N3.out⟩
theorem lit_names {w : World} {base g cap : Nat} {zs : List ByteArray} {z : ByteArray} (h : OwnS w base (.slice (some ⟨g, 0, none⟩) zs.length cap) zs) (hn : 0 < zs.length) (hz : w.cell? ⟨g, 0, none⟩ = some (.string z)) : z.size ≤ maxLen := by
  obtain ⟨y, hy, hc, _⟩ := ownS_at h hn
  rw [hz] at hc
  injection hc with hc
  injection hc with hc
  subst hc
  exact h.2 _ (List.mem_of_getElem? hy)
set_option maxRecDepth 100000 in
set_option maxHeartbeats 8000000 in
theorem drawTimesOf_any (v : Value) (w : World) (h : Byts w v) :
    Calls Tryz.prog 13 #[v] w fun e w' => TmPost w e w' ∧ Kept w w' := by
  obtain ⟨A, n, c, rfl, hnc, hcm, hb⟩ := h
  go_enter Tryz.func13, Tryz.ntmps13
  go_wp2_with fail
  obtain ⟨w0, hw0⟩ : ∃ x : World, x = w.alloc (.cells #[.slice A n c, .int .i64 0, .int .u64 0] 54) := ⟨_, rfl⟩
  rw [← hw0]
  have C0 : Hid (Cur w0 w.heap.size 0) := Lib.hid (hw0 ▸ Cur.init hnc hcm hb)
  have K0 : Hid (Kept w w0) := Lib.hid (hw0 ▸ (Kept.refl w).alloc _)
  clear hw0 hb
  have sz0 : w.heap.size < w0.heap.size := C0.out.lt
  obtain ⟨p, hp⟩ : ∃ p, p = w.heap.size := ⟨_, rfl⟩
  rw [← hp] at C0 sz0 ⊢
  have hpw : w.heap.size ≤ p := Nat.le_of_eq hp.symm
  clear hp
  have FINK : Hid (∀ w3 : World, Only [p] w0 w3 → Kept w w3) := Lib.hid (fun w3 on => on.above K0.out (fun x hx => by rw [List.mem_singleton] at hx; omega))
  have szk : w.heap.size ≤ w0.heap.size := Nat.le_of_lt (by have := K0.out.size; omega)
  with_reducible refine (anyProgramme_any p 0 w0 C0.out (by omega)).mono ?_
  rintro e w1 ⟨⟨cv, lv, x, its, cs, rfl, o1, o2, h25, h6, hi15⟩, c1, on1⟩
  obtain ⟨ev, lv', rfl, p1, q1, nd⟩ := o1
  obtain ⟨Ae, ce, rfl, _⟩ := own_form p1.1
  obtain ⟨Al, cl, rfl, _⟩ := own_form q1
  obtain ⟨Aq, cq, rfl, hnq, hmq, hAq⟩ := own_form o2.2.1
  unfold maxLen at hmq
  have HAQ := Lib.hid hAq
  have O1 := Lib.hid o2
  have C1 := Lib.hid c1
  have N1 := Lib.hid on1
  clear p1 q1 nd c1 on1 C0 o2 hAq
  go_upto_region 3 with (fail)
  obtain ⟨w3, hw3⟩ : ∃ y : World, y = w1.alloc (.cells #[.slice Ae x.elems.length ce, .slice Al x.limits.length cl, .int .i64 x.repeats, .int .i64 x.bonus, .int .i64 x.keeps, .int .i64 x.fall] 26) := ⟨_, rfl⟩
  have k3 : Kept w1 w3 := hw3 ▸ (Kept.refl w1).alloc _
  rw [← hw3]
  have O3 := Lib.hid (O1.out.kept k3)
  have C3 := Lib.hid (C1.out.kept k3)
  have N3 := Lib.hid (N1.out.trans (k3.only _))
  clear hw3 k3 O1 C1 N1
  have HPP : Hid (∀ (W : World), ∀ b ∈ [p], b < w0.heap.size ∨ W.heap.size ≤ b) := Lib.hid (fun W b hb => by rw [List.mem_singleton] at hb; subst hb; exact .inl sz0)
  go_cut [29] (fun s29 wx => ∃ b : Bool, s29 = .bool b ∧ (b = true → ∃ (gn nc g : Nat) (it : ItemD) (z : ByteArray), Aq = some ⟨g, 0, none⟩ ∧ 0 < its.length ∧ 0 < it.names.length ∧ z.size ≤ maxLen ∧ wx.cell? ⟨g, 0, none⟩ = some (.slice (some ⟨gn, 0, none⟩) it.names.length nc) ∧ wx.cell? ⟨gn, 0, none⟩ = some (.string z)) ∧ OwnC wx w0.heap.size (.slice Aq its.length cq) its cs ∧ Cur wx p 3100 ∧ Only [p] w0 wx)
  case first =>
    by_cases h0 : 0 < its.length
    · obtain ⟨g, rfl⟩ := HAQ.out h0
      have h0' : (0 : Int) < (its.length : Int) := by omega
      obtain ⟨it, nv, mv, hi, hc, on', om'⟩ := O3.out.at h0
      obtain ⟨An, cn, rfl, _, hmn, hAn⟩ := own_form on'.1
      unfold maxLen at hmn
      obtain ⟨⟨q0, _, _⟩, _⟩ := ownC_cells O3.out hi hc
      rw [Nat.zero_mul] at q0
      by_cases hn : 0 < it.names.length
      · have hn' : (0 : Int) < (it.names.length : Int) := by omega
        obtain ⟨gn, rfl⟩ := hAn hn
        have HI := Lib.hid hi
        have HC := Lib.hid hc
        clear on' om' hi hc
        go_wp2_with fail
        with_reducible refine (one_any p _ 2 w3 C3.out (by omega) (by omega)).mono ?_
        rintro e w4 ⟨b4, rfl, c4, on4⟩
        have O4 := Lib.hid (O3.out.off on4 (HPP.out w3))
        obtain ⟨⟨r0, _, _⟩, _⟩ := ownC_cells O4.out HI.out HC.out
        rw [Nat.zero_mul] at r0
        obtain ⟨z, _, rz, _⟩ := ownS_at (O4.out.2.2.1 0 _ _ _ HC.out HI.out).1 hn
        have R0 := Lib.hid r0
        have RZ := Lib.hid rz
        have HZS : Hid (z.size ≤ maxLen) := Lib.hid (lit_names (O4.out.2.2.1 0 _ _ _ HC.out HI.out).1 hn rz)
        have C4 := Lib.hid c4
        have N4 := Lib.hid (N3.out.trans on4)
        clear r0 rz c4 on4 q0
        go_wp2_with fail
        go_meet
        exact ⟨_, rfl, fun _ => ⟨gn, cn, g, it, z, rfl, h0, hn, HZS.out, R0.out, RZ.out⟩, O4.out, C4.out.le (by omega), N4.out⟩
      · have hn' : ¬ (0 : Int) < (it.names.length : Int) := by omega
        clear on' om' hi hc
        go_wp2_with fail
        go_meet
        exact ⟨false, rfl, (fun h => by cases h), O3.out, C3.out.le (by omega), N3.out⟩
    · have h0' : ¬ (0 : Int) < (its.length : Int) := by omega
      go_wp2_with fail
      go_meet
      exact ⟨false, rfl, (fun h => by cases h), O3.out, C3.out.le (by omega), N3.out⟩
  case rest =>
    obtain ⟨b, rfl, hbt, o5, c5, on5⟩ := hcut
    have O5 := Lib.hid o5
    have C5 := Lib.hid c5
    have N5 := Lib.hid on5
    obtain ⟨w5, hw5⟩ : ∃ y : World, y = wc := ⟨_, rfl⟩
    rw [← hw5] at O5 C5 N5 hbt ⊢
    clear o5 c5 on5 O3 C3 N3 hw5
    cases b with
    | true =>
      obtain ⟨gn, nc, g, it, z, rfl, h0, hn, hzs, r0, rz⟩ := hbt rfl
      have h0' : (0 : Int) < (its.length : Int) := by omega
      have hn' : (0 : Int) < (it.names.length : Int) := by omega
      have HZS := Lib.hid hzs
      clear hbt hzs
      go_wp2_with fail
      go_quiet (fail)
      go_wp2_with fail
      go_ret2
      exact ⟨⟨_, its, cs, z, HZS.out, rfl, (O5.out.kept ((Kept.refl _).drewN _)).base szk, hi15⟩, (FINK.out _ N5.out).trans ((Kept.refl _).drewN _)⟩
    | false =>
      clear hbt
      go_wp2_with fail
      refine (elementNames_any w5).mono ?_
      rintro e wn ⟨rfl, bn, kn⟩
      have O6 := Lib.hid (O5.out.kept kn)
      have C6 := Lib.hid (C5.out.kept kn)
      have N6 := Lib.hid (N5.out.trans (kn.only _))
      have hgp : p < w5.heap.size := C5.out.lt
      have hgl : Hid (∀ b ∈ fp (.slice Aq its.length cq) ++ fpL cs, b < w5.heap.size) := Lib.hid (fun b hb => (O5.out.fps b hb).2)
      have hg0 : w0.heap.size ≤ w5.heap.size := N5.out.size
      obtain ⟨gx, hgx⟩ : ∃ b : Nat, b = w5.heap.size := ⟨_, rfl⟩
      rw [← hgx] at bn hgp hgl hg0 ⊢
      clear hgx kn O5 C5 N5
      go_wp2_with (at_builtin; refine wpList_append_SX _ rfl _ _ rfl gx (.slice (some ⟨gx, 0, none⟩) 24 24) elN rfl (elN_box (bn.kept ((Kept.refl wn).alloc _)) gx (Nat.le_refl _)) _ [⟨#[]⟩, ⟨#[97]⟩] rfl (strs_lit [⟨#[]⟩, ⟨#[97]⟩] (Box.new _ _ _ _ rfl) rfl (by decide) (by decide)) (by simp [elN_len]) (Nat.le_of_lt (bn.kept ((Kept.refl wn).alloc _)).lt) ?_; intro v8 w8 o8 on8 f8; have ka := (Kept.refl wn).alloc (.cells #[.string ⟨#[]⟩, .string ⟨#[97]⟩] 9); have O8 := Lib.hid ((O6.out.kept ka).only on8 (fun b hb hs => by rw [fp_some, List.mem_singleton] at hs; have hs' : b = gx := hs; have := hgl.out b hb; omega)); have C8 := Lib.hid ((C6.out.kept ka).far on8 (fun b hb => by rw [fp_some, List.mem_singleton] at hb; have hs' : b = gx := hb; omega)); have N8 := Lib.hid ((N6.out.trans (ka.only _)).overD on8 (fun b hb => by rw [fp_some, List.mem_singleton] at hb; have hs' : b = gx := hb; omega)); obtain ⟨zs8, hz8⟩ : ∃ l : List ByteArray, l = elN ++ ([⟨#[]⟩, ⟨#[97]⟩] : List ByteArray) := ⟨_, rfl⟩; rw [← hz8] at o8; have OS8 := Lib.hid o8; have HZ8 := Lib.hid hz8; have hz80 : 0 < zs8.length := (by rw [hz8]; simp); have hz81 : zs8.length ≤ 1000000 := (by rw [hz8]; simp [elN_len]); obtain ⟨A8, c8, rfl, hn8, hm8, _⟩ := own_form OS8.out.1; have hA8 : ∀ a, A8 = some a → a.block ≠ p := (fun a e => by subst e; have := (own_fp OS8.out.1 a.block (by simp [fp_some])).1; omega); clear o8 on8 f8 hz8 ka)
      with_reducible refine (of_any p _ A8 zs8.length c8 zs8 w8 C8.out (by omega) OS8.out.strs rfl hz80 hz81 hA8).mono ?_
      rintro e w9 ⟨x9, rfl, hx9, c9, on9⟩
      have hxs : x9.size ≤ maxLen := by
        unfold maxLen
        rw [HZ8.out] at hx9
        rcases List.mem_append.1 hx9 with q | q
        · have := elN_sz q; omega
        · have := List.all_eq_true.1 (show ([⟨#[]⟩, ⟨#[97]⟩] : List ByteArray).all (fun z => decide (z.size ≤ 1000)) = true by decide) x9 q
          simp at this
          omega
      have O9 := Lib.hid (O8.out.off on9 (HPP.out w8))
      have N9 := Lib.hid (N8.out.trans on9)
      have HXS := Lib.hid hxs
      clear c9 on9 hx9 hxs
      go_wp2_with fail
      go_ret2
      exact ⟨⟨_, its, cs, x9, HXS.out, rfl, O9.out.base szk, hi15⟩, FINK.out _ N9.out⟩
end Go.Proofs.YtkekpolfdmmgeaaGreat
