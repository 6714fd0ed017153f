/- Contracts of functions that the proof leans on. No condition. -/
import Derived.Test.YtlmaiblfgbobnaaM52f209ecd7
/- Draws of codes and what goes with them. -/
namespace Go.Proofs.Ytlmaiblfgbobnaa
set_option linter.unusedVariables false
set_option linter.unusedSimpArgs false
set_option linter.unnecessarySimpa false
open Go.RowKit Go.Lib

theorem OwnK.drawn {w w' : World} {p base : Nat} {v : Value} {c : CodeD} (h : OwnK w base v c) (on : Only [p] w w') (hp : p < base) : OwnK w' base v c :=
  h.only on (fun b hb => not_one (by have := h.fps b hb; omega))
/-- what a draw of a code and another value leaves -/
def CdX (w : World) (e : Ending) (w' : World) (x : Value) : Prop := ∃ v c, e = .returned (.tuple #[v, x]) ∧ OwnK w' w.heap.size v c ∧ c.elems.length ≤ 25 ∧ c.limits.length ≤ 6
def CdInt (w : World) (e : Ending) (w' : World) : Prop := ∃ f : Int, CdX w e w' (.int .i64 f)
def CdPct (w : World) (e : Ending) (w' : World) : Prop := ∃ f : Int, f ∈ [1, 50, 100, 150, 200, 201, 0] ∧ CdX w e w' (.int .i64 f)
def CdStr (w : World) (e : Ending) (w' : World) : Prop := ∃ s : ByteArray, s.size ≤ maxLen ∧ CdX w e w' (.string s)
def StrPost (e : Ending) : Prop := ∃ s : ByteArray, s.size ≤ maxLen ∧ e = .returned (.string s)
set_option maxRecDepth 100000 in
set_option maxHeartbeats 8000000 in
theorem drawOfFamily_any (v : Value) (w : World) (h : Byts w v) :
    Calls Try.prog 5 #[v] w fun e w' => CdInt w e w' ∧ Kept w w' := by
  have HB := Lib.hid h
  obtain ⟨A, n, c, rfl, _, _, _⟩ := h
  go_enter Try.func5, Try.ntmps5
  go_wp2_with fail
  obtain ⟨wr, hwr⟩ : ∃ x : World, x = w.alloc (.cells #[.slice none 0 0, .slice none 0 0, .int .i64 0, .int .i64 0, .int .i64 0, .int .i64 0] 26) := ⟨_, rfl⟩
  rw [← hwr]
  have BR := Lib.hid (show Box wr w.heap.size 26 #[.slice none 0 0, .slice none 0 0, .int .i64 0, .int .i64 0, .int .i64 0, .int .i64 0] from hwr ▸ Box.new w _ _ _ rfl)
  have KR : Kept w wr := hwr ▸ (Kept.refl w).alloc _
  have szr : w.heap.size < wr.heap.size := BR.out.lt
  have hsz : wr.heap.size = w.heap.size + 1 := by rw [hwr]; simp
  clear hwr
  obtain ⟨A', n', c', e', hnc, hcm, hb⟩ := HB.out.kept KR
  cases e'
  obtain ⟨w0, hw0⟩ : ∃ x : World, x = wr.alloc (.cells #[.slice A n c, .int .i64 0, .int .u64 0] 60) := ⟨_, rfl⟩
  rw [← hw0]
  have C0 : Hid (Cur w0 wr.heap.size 0) := Lib.hid (hw0 ▸ Cur.init hnc hcm hb)
  have K0 : Hid (Kept wr w0) := Lib.hid (hw0 ▸ (Kept.refl wr).alloc _)
  have sz0 : wr.heap.size < w0.heap.size := C0.out.lt
  clear hw0 hb hnc hcm
  obtain ⟨p, hp⟩ : ∃ p, p = w.heap.size + 1 := ⟨_, rfl⟩
  rw [hsz, ← hp] at C0 sz0
  rw [← hp]
  have FIN : Hid (∀ (w3 w9 : World) (v : Value) (cX : CodeD) (x : Value), OwnK w3 w0.heap.size v cX → Only [p] w0 w3 → Only [w.heap.size] w3 w9 → cX.elems.length ≤ 25 → cX.limits.length ≤ 6 → CdX w (.returned (.tuple #[v, x])) w9 x ∧ Kept w w9) := Lib.hid (fun w3 w9 v cX x o on q h1 h2 =>
    ⟨⟨v, cX, rfl, OwnK.base (base := w0.heap.size) (o.only q (fun b hb => not_one (by have := o.fps b hb; omega))) (by omega), h1, h2⟩,
     q.above (on.above (KR.trans K0.out) (fun x hx => by rw [List.mem_singleton] at hx; omega)) (fun x hx => by rw [List.mem_singleton] at hx; omega)⟩)
  have hpr : w.heap.size ≠ p := by omega
  replace BR := Lib.hid (BR.out.kept K0.out)
  clear hp KR K0 hsz
  with_reducible refine (anyCode_any p 0 w0 C0.out (by omega)).mono ?_
  rintro e w1 ⟨⟨v1, cX, rfl, o1, h25, h6⟩, c1, on1⟩
  obtain ⟨ev, lv, rfl, p1, q1, nd⟩ := o1
  obtain ⟨Ae, ce, rfl, _⟩ := own_form p1.1
  obtain ⟨Al, cl, rfl, _⟩ := own_form q1
  have O1 : Hid (OwnK w1 w0.heap.size (.agg #[.slice Ae cX.elems.length ce, .slice Al cX.limits.length cl, .int .i64 cX.repeats, .int .i64 cX.bonus, .int .i64 cX.keeps, .int .i64 cX.fall]) cX) := Lib.hid ⟨_, _, rfl, p1, q1, nd⟩
  have C1 := Lib.hid c1
  have N1 := Lib.hid on1
  clear p1 q1 nd c1 on1
  go_wp2_with fail
  with_reducible refine (pick_any p _ 6 w1 C1.out (by omega) (by omega)).mono ?_
  rintro e w2 ⟨x2, rfl, ⟨lo2, hi2⟩, c2, on2⟩
  have O2 := Lib.hid (O1.out.drawn on2 sz0)
  have C2 := Lib.hid c2
  have N2 := Lib.hid (N1.out.trans on2)
  have hx2 : x2 < 6 := hi2 (by omega)
  clear c2 on2 hi2
  go_wp2_with fail
  with_reducible refine (pick_any p _ 20 w2 C2.out (by omega) (by omega)).mono ?_
  rintro e w3 ⟨x3, rfl, ⟨lo3, hi3⟩, c3, on3⟩
  have O3 := Lib.hid (O2.out.drawn on3 sz0)
  have N3 := Lib.hid (N2.out.trans on3)
  have hx3 : x3 < 20 := hi3 (by omega)
  clear c3 on3 hi3
  obtain ⟨q, hq, hq0, hq1⟩ : ∃ q : Int, x3.tdiv 19 = q ∧ 0 ≤ q ∧ q ≤ 1 := ⟨_, rfl, Int.tdiv_nonneg lo3 (by omega), by rw [Int.tdiv_eq_ediv_of_nonneg lo3]; omega⟩
  have hqe : x3 / 19 = q := by rw [← hq, Int.tdiv_eq_ediv_of_nonneg lo3]
  have B2 := BR.out.only N3.out (not_one hpr)
  obtain ⟨x2, y2⟩ := B2.six
  go_wp2_with fail
  clear x2 y2
  obtain ⟨w9, hw9, B9, Q9⟩ := set6 B2 (.slice Ae cX.elems.length ce) (.slice Al cX.limits.length cl) (.int .i64 cX.repeats) (.int .i64 cX.bonus) (.int .i64 cX.keeps) (.int .i64 cX.fall)
  rw [← hw9]
  clear hw9
  obtain ⟨cc, ff⟩ := B9.six
  refine bodyPost_ret (v := .tuple #[.agg #[.slice Ae cX.elems.length ce, .slice Al cX.limits.length cl, .int .i64 cX.repeats, .int .i64 cX.bonus, .int .i64 cX.keeps, .int .i64 cX.fall], .int .i64 (x2 - q)]) (by simp [results, Try.results5, go_sem, cc, ff]) rfl ?_
  obtain ⟨f1, f2⟩ := FIN.out _ _ _ cX (.int .i64 (x2 - q)) O3.out N3.out Q9 h25 h6
  exact ⟨⟨_, f1⟩, f2⟩
set_option maxRecDepth 100000 in
set_option maxHeartbeats 8000000 in
theorem drawScaleCode_any (v : Value) (w : World) (h : Byts w v) :
    Calls Try.prog 12 #[v] w fun e w' => CdPct w e w' ∧ Kept w w' := by
  have HB := Lib.hid h
  obtain ⟨A, n, c, rfl, _, _, _⟩ := h
  go_enter Try.func12, Try.ntmps12
  go_wp2_with fail
  obtain ⟨wr, hwr⟩ : ∃ x : World, x = w.alloc (.cells #[.slice none 0 0, .slice none 0 0, .int .i64 0, .int .i64 0, .int .i64 0, .int .i64 0] 26) := ⟨_, rfl⟩
  rw [← hwr]
  have BR := Lib.hid (show Box wr w.heap.size 26 #[.slice none 0 0, .slice none 0 0, .int .i64 0, .int .i64 0, .int .i64 0, .int .i64 0] from hwr ▸ Box.new w _ _ _ rfl)
  have KR : Kept w wr := hwr ▸ (Kept.refl w).alloc _
  have szr : w.heap.size < wr.heap.size := BR.out.lt
  have hsz : wr.heap.size = w.heap.size + 1 := by rw [hwr]; simp
  clear hwr
  obtain ⟨A', n', c', e', hnc, hcm, hb⟩ := HB.out.kept KR
  cases e'
  obtain ⟨w0, hw0⟩ : ∃ x : World, x = wr.alloc (.cells #[.slice A n c, .int .i64 0, .int .u64 0] 60) := ⟨_, rfl⟩
  rw [← hw0]
  have C0 : Hid (Cur w0 wr.heap.size 0) := Lib.hid (hw0 ▸ Cur.init hnc hcm hb)
  have K0 : Hid (Kept wr w0) := Lib.hid (hw0 ▸ (Kept.refl wr).alloc _)
  have sz0 : wr.heap.size < w0.heap.size := C0.out.lt
  clear hw0 hb hnc hcm
  obtain ⟨p, hp⟩ : ∃ p, p = w.heap.size + 1 := ⟨_, rfl⟩
  rw [hsz, ← hp] at C0 sz0
  rw [← hp]
  have FIN : Hid (∀ (w3 w9 : World) (v : Value) (cX : CodeD) (x : Value), OwnK w3 w0.heap.size v cX → Only [p] w0 w3 → Only [w.heap.size] w3 w9 → cX.elems.length ≤ 25 → cX.limits.length ≤ 6 → CdX w (.returned (.tuple #[v, x])) w9 x ∧ Kept w w9) := Lib.hid (fun w3 w9 v cX x o on q h1 h2 =>
    ⟨⟨v, cX, rfl, OwnK.base (base := w0.heap.size) (o.only q (fun b hb => not_one (by have := o.fps b hb; omega))) (by omega), h1, h2⟩,
     q.above (on.above (KR.trans K0.out) (fun x hx => by rw [List.mem_singleton] at hx; omega)) (fun x hx => by rw [List.mem_singleton] at hx; omega)⟩)
  have hpr : w.heap.size ≠ p := by omega
  replace BR := Lib.hid (BR.out.kept K0.out)
  clear hp KR K0 hsz
  with_reducible refine (anyCode_any p 0 w0 C0.out (by omega)).mono ?_
  rintro e w1 ⟨⟨v1, cX, rfl, o1, h25, h6⟩, c1, on1⟩
  obtain ⟨ev, lv, rfl, p1, q1, nd⟩ := o1
  obtain ⟨Ae, ce, rfl, _⟩ := own_form p1.1
  obtain ⟨Al, cl, rfl, _⟩ := own_form q1
  have O1 : Hid (OwnK w1 w0.heap.size (.agg #[.slice Ae cX.elems.length ce, .slice Al cX.limits.length cl, .int .i64 cX.repeats, .int .i64 cX.bonus, .int .i64 cX.keeps, .int .i64 cX.fall]) cX) := Lib.hid ⟨_, _, rfl, p1, q1, nd⟩
  have C1 := Lib.hid c1
  have N1 := Lib.hid on1
  clear p1 q1 nd c1 on1
  go_wp2_with fail
  obtain ⟨wa, hwa⟩ : ∃ x : World, x = w1.alloc (.cells #[.int .i64 1, .int .i64 50, .int .i64 100, .int .i64 150, .int .i64 200, .int .i64 201, .int .i64 0] 3) := ⟨_, rfl⟩
  rw [← hwa]
  have BL : Box wa w1.heap.size 3 #[.int .i64 1, .int .i64 50, .int .i64 100, .int .i64 150, .int .i64 200, .int .i64 201, .int .i64 0] := hwa ▸ Box.new w1 _ _ _ rfl
  have ka : Kept w1 wa := hwa ▸ (Kept.refl w1).alloc _
  have Oa := Lib.hid (O1.out.kept ka)
  have Na := Lib.hid (N1.out.trans (ka.only _))
  have hpd : w1.heap.size ≠ p := Nat.ne_of_gt C1.out.lt
  have Ca := Lib.hid (C1.out.kept ka)
  clear hwa ka
  with_reducible refine (among_lit p _ w1.heap.size 7 [1, 50, 100, 150, 200, 201, 0] wa Ca.out (by omega) BL hpd rfl (by omega) (by omega)).mono ?_
  rintro e w3 ⟨x3, rfl, hx3, c3, on3⟩
  have O3 := Lib.hid (Oa.out.drawn on3 sz0)
  have N3 := Lib.hid (Na.out.trans on3)
  have HX := Lib.hid hx3
  clear c3 on3 BL hx3
  have B2 := BR.out.only N3.out (not_one hpr)
  obtain ⟨x2, y2⟩ := B2.six
  go_wp2_with fail
  clear x2 y2
  obtain ⟨w9, hw9, B9, Q9⟩ := set6 B2 (.slice Ae cX.elems.length ce) (.slice Al cX.limits.length cl) (.int .i64 cX.repeats) (.int .i64 cX.bonus) (.int .i64 cX.keeps) (.int .i64 cX.fall)
  rw [← hw9]
  clear hw9
  obtain ⟨cc, ff⟩ := B9.six
  refine bodyPost_ret (v := .tuple #[.agg #[.slice Ae cX.elems.length ce, .slice Al cX.limits.length cl, .int .i64 cX.repeats, .int .i64 cX.bonus, .int .i64 cX.keeps, .int .i64 cX.fall], .int .i64 x3]) (by simp [results, Try.results12, go_sem, cc, ff]) rfl ?_
  obtain ⟨f1, f2⟩ := FIN.out _ _ _ cX (.int .i64 x3) O3.out N3.out Q9 h25 h6
  exact ⟨⟨_, HX.out, f1⟩, f2⟩
set_option maxRecDepth 100000 in
set_option maxHeartbeats 8000000 in
theorem drawFindElement_any (v : Value) (w : World) (h : Byts w v) :
    Calls Try.prog 15 #[v] w fun e w' => CdStr w e w' ∧ Kept w w' := by
  have HB := Lib.hid h
  obtain ⟨A, n, c, rfl, _, _, _⟩ := h
  go_enter Try.func15, Try.ntmps15
  go_wp2_with fail
  obtain ⟨wr, hwr⟩ : ∃ x : World, x = w.alloc (.cells #[.slice none 0 0, .slice none 0 0, .int .i64 0, .int .i64 0, .int .i64 0, .int .i64 0] 26) := ⟨_, rfl⟩
  rw [← hwr]
  have BR := Lib.hid (show Box wr w.heap.size 26 #[.slice none 0 0, .slice none 0 0, .int .i64 0, .int .i64 0, .int .i64 0, .int .i64 0] from hwr ▸ Box.new w _ _ _ rfl)
  have KR : Kept w wr := hwr ▸ (Kept.refl w).alloc _
  have szr : w.heap.size < wr.heap.size := BR.out.lt
  have hsz : wr.heap.size = w.heap.size + 1 := by rw [hwr]; simp
  clear hwr
  obtain ⟨A', n', c', e', hnc, hcm, hb⟩ := HB.out.kept KR
  cases e'
  obtain ⟨w0, hw0⟩ : ∃ x : World, x = wr.alloc (.cells #[.slice A n c, .int .i64 0, .int .u64 0] 60) := ⟨_, rfl⟩
  rw [← hw0]
  have C0 : Hid (Cur w0 wr.heap.size 0) := Lib.hid (hw0 ▸ Cur.init hnc hcm hb)
  have K0 : Hid (Kept wr w0) := Lib.hid (hw0 ▸ (Kept.refl wr).alloc _)
  have sz0 : wr.heap.size < w0.heap.size := C0.out.lt
  clear hw0 hb hnc hcm
  obtain ⟨p, hp⟩ : ∃ p, p = w.heap.size + 1 := ⟨_, rfl⟩
  rw [hsz, ← hp] at C0 sz0
  rw [← hp]
  have FIN : Hid (∀ (w3 w9 : World) (v : Value) (cX : CodeD) (x : Value), OwnK w3 w0.heap.size v cX → Only [p] w0 w3 → Only [w.heap.size] w3 w9 → cX.elems.length ≤ 25 → cX.limits.length ≤ 6 → CdX w (.returned (.tuple #[v, x])) w9 x ∧ Kept w w9) := Lib.hid (fun w3 w9 v cX x o on q h1 h2 =>
    ⟨⟨v, cX, rfl, OwnK.base (base := w0.heap.size) (o.only q (fun b hb => not_one (by have := o.fps b hb; omega))) (by omega), h1, h2⟩,
     q.above (on.above (KR.trans K0.out) (fun x hx => by rw [List.mem_singleton] at hx; omega)) (fun x hx => by rw [List.mem_singleton] at hx; omega)⟩)
  have hpr : w.heap.size ≠ p := by omega
  replace BR := Lib.hid (BR.out.kept K0.out)
  clear hp KR K0 hsz
  with_reducible refine (anyCode_any p 0 w0 C0.out (by omega)).mono ?_
  rintro e w1 ⟨⟨v1, cX, rfl, o1, h25, h6⟩, c1, on1⟩
  obtain ⟨ev, lv, rfl, p1, q1, nd⟩ := o1
  obtain ⟨Ae, ce, rfl, _⟩ := own_form p1.1
  obtain ⟨Al, cl, rfl, _⟩ := own_form q1
  have O1 : Hid (OwnK w1 w0.heap.size (.agg #[.slice Ae cX.elems.length ce, .slice Al cX.limits.length cl, .int .i64 cX.repeats, .int .i64 cX.bonus, .int .i64 cX.keeps, .int .i64 cX.fall]) cX) := Lib.hid ⟨_, _, rfl, p1, q1, nd⟩
  have C1 := Lib.hid c1
  have N1 := Lib.hid on1
  clear p1 q1 nd c1 on1
  go_wp2_with fail
  refine (elementNames_any w1).mono ?_
  rintro e w2 ⟨rfl, bn, kn⟩
  have ON := Lib.hid (elN_box bn w1.heap.size (Nat.le_refl _))
  have O2 := Lib.hid (O1.out.kept kn)
  have C2 := Lib.hid (C1.out.kept kn)
  have N2 := Lib.hid (N1.out.trans (kn.only _))
  have szn := kn.size
  have hp1 : p < w1.heap.size := C1.out.lt
  have s01 : w0.heap.size ≤ w1.heap.size := N1.out.size
  clear bn kn
  go_wp2_with (at_builtin; refine wpList_append_SQ _ rfl _ _ rfl w1.heap.size (.slice (some ⟨w1.heap.size, 0, none⟩) 24 24) elN rfl (ON.out.kept ((Kept.refl w2).alloc _)) _ [⟨#[]⟩, ⟨#[88, 88]⟩] rfl (strs_lit [⟨#[]⟩, ⟨#[88, 88]⟩] (Box.new _ _ _ _ rfl) rfl (by decide) (by decide)) (by decide) (Nat.le_trans szn ((Kept.refl w2).alloc _).size) ?_; intro v4 w4 o4 on4; have k4 := (Kept.refl w2).alloc (.cells #[.string ⟨#[]⟩, .string ⟨#[88, 88]⟩] 9); have C4 := Lib.hid ((C2.out.kept k4).far on4 (fun x hx => by have := (own_fp ON.out.1 x hx).1; omega)); have N4 := Lib.hid ((N2.out.trans (k4.only _)).overD on4 (fun x hx => by have := (own_fp ON.out.1 x hx).1; omega)); have O4 := Lib.hid ((O2.out.kept k4).only on4 (fun b hb hx => by have h1 := (own_fp ON.out.1 b hx).1; have h2 := (O1.out.fps b hb).2; omega)); have OS := Lib.hid o4; obtain ⟨A4, cp4, rfl, hn4, hm4, _⟩ := own_form o4.1; have hd4 : Hid (∀ a, A4 = some a → a.block ≠ p) := Lib.hid (fun a e => by subst e; have := (own_fp OS.out.1 a.block (by simp [fp_some])).1; omega); clear o4 on4 k4)
  have hl26 : Hid (elN.length + 2 = (elN ++ [(⟨#[]⟩ : ByteArray), ⟨#[88, 88]⟩]).length) := Lib.hid rfl
  have HS4 : Hid (Strs w4 (.slice A4 (elN.length + 2) cp4) (elN ++ [(⟨#[]⟩ : ByteArray), ⟨#[88, 88]⟩])) := Lib.hid OS.out.strs
  with_reducible refine (of_any p _ A4 (elN.length + 2) cp4 (elN ++ [(⟨#[]⟩ : ByteArray), ⟨#[88, 88]⟩]) w4 C4.out (by omega) HS4.out hl26.out (by decide) (by decide) hd4.out).mono ?_
  rintro e w5 ⟨x5, rfl, hx5, c5, on5⟩
  have O5 := Lib.hid (O4.out.drawn on5 sz0)
  have N5 := Lib.hid (N4.out.trans on5)
  have HX : Hid (x5.size ≤ maxLen) := Lib.hid (OS.out.2 x5 hx5)
  clear c5 on5 hx5
  have B2 := BR.out.only N5.out (not_one hpr)
  obtain ⟨x2, y2⟩ := B2.six
  go_wp2_with fail
  clear x2 y2
  obtain ⟨w9, hw9, B9, Q9⟩ := set6 B2 (.slice Ae cX.elems.length ce) (.slice Al cX.limits.length cl) (.int .i64 cX.repeats) (.int .i64 cX.bonus) (.int .i64 cX.keeps) (.int .i64 cX.fall)
  rw [← hw9]
  clear hw9
  obtain ⟨cc, ff⟩ := B9.six
  refine bodyPost_ret (v := .tuple #[.agg #[.slice Ae cX.elems.length ce, .slice Al cX.limits.length cl, .int .i64 cX.repeats, .int .i64 cX.bonus, .int .i64 cX.keeps, .int .i64 cX.fall], .string x5]) (by simp [results, Try.results15, go_sem, cc, ff]) rfl ?_
  obtain ⟨f1, f2⟩ := FIN.out _ _ _ cX (.string x5) O5.out N5.out Q9 h25 h6
  exact ⟨⟨_, HX.out, f1⟩, f2⟩
set_option maxRecDepth 100000 in
set_option maxHeartbeats 8000000 in
theorem drawIsElementName_any (v : Value) (w : World) (h : Byts w v) :
    Calls Try.prog 18 #[v] w fun e w' => StrPost e ∧ Kept w w' := by
  have HB := Lib.hid h
  obtain ⟨A, n, c, rfl, _, _, _⟩ := h
  go_enter Try.func18, Try.ntmps18
  go_wp2_with fail
  obtain ⟨A', n', c', e', hnc, hcm, hb⟩ := HB.out
  cases e'
  obtain ⟨w0, hw0⟩ : ∃ x : World, x = w.alloc (.cells #[.slice A n c, .int .i64 0, .int .u64 0] 60) := ⟨_, rfl⟩
  rw [← hw0]
  have C0 : Hid (Cur w0 w.heap.size 0) := Lib.hid (hw0 ▸ Cur.init hnc hcm hb)
  have K0 : Hid (Kept w w0) := Lib.hid (hw0 ▸ (Kept.refl w).alloc _)
  have sz0 : w.heap.size < w0.heap.size := C0.out.lt
  clear hw0 hb hnc hcm
  obtain ⟨p, hp⟩ : ∃ p, p = w.heap.size := ⟨_, rfl⟩
  rw [← hp] at C0 sz0 ⊢
  have FIN : Hid (∀ w3 : World, Only [p] w0 w3 → Kept w w3) := Lib.hid (fun w3 on => on.above K0.out (fun x hx => by rw [List.mem_singleton] at hx; omega))
  clear hp K0
  with_reducible refine (one_any p _ 2 w0 C0.out (by omega) (by omega)).mono ?_
  rintro e w1 ⟨b1, rfl, c1, on1⟩
  have C1 := Lib.hid c1
  have N1 := Lib.hid on1
  clear c1 on1
  cases b1 with
  | true =>
    go_wp2_with fail
    refine (elementNames_any w1).mono ?_
    rintro e w2 ⟨rfl, bn, kn⟩
    have C2 := Lib.hid (C1.out.kept kn)
    have N2 := Lib.hid (N1.out.trans (kn.only _))
    have hp1 : p < w1.heap.size := C1.out.lt
    go_wp2_with fail
    with_reducible refine (of_lit p _ w1.heap.size 24 elN w2 C2.out (by omega) bn (Nat.ne_of_gt hp1) rfl (by omega) (by omega) (by decide)).mono ?_
    rintro e w5 ⟨x5, rfl, hx5, c5, on5⟩
    have N5 := Lib.hid (N2.out.trans on5)
    have HX : Hid (x5.size ≤ maxLen) := Lib.hid (by have := elN_sz hx5; unfold maxLen; omega)
    clear c5 on5 hx5 bn kn
    go_wp2_with fail
    go_ret
    exact ⟨⟨_, HX.out, rfl⟩, FIN.out _ N5.out⟩
  | false =>
    go_wp2_with fail
    obtain ⟨wa, hwa⟩ : ∃ x : World, x = w1.alloc (.cells #[.string ⟨#[]⟩, .string ⟨#[65]⟩, .string ⟨#[65, 66, 67, 68, 69]⟩, .string ⟨#[65, 66, 67, 68, 69, 70]⟩, .string ⟨#[51, 97]⟩, .string ⟨#[51, 32, 65]⟩, .string ⟨#[48]⟩, .string ⟨#[0]⟩, .string ⟨#[90, 57, 90, 57, 90]⟩, .string ⟨#[91]⟩, .string ⟨#[64]⟩, .string ⟨#[47]⟩, .string ⟨#[58]⟩] 9) := ⟨_, rfl⟩
    rw [← hwa]
    have BL : Box wa w1.heap.size 9 #[.string ⟨#[]⟩, .string ⟨#[65]⟩, .string ⟨#[65, 66, 67, 68, 69]⟩, .string ⟨#[65, 66, 67, 68, 69, 70]⟩, .string ⟨#[51, 97]⟩, .string ⟨#[51, 32, 65]⟩, .string ⟨#[48]⟩, .string ⟨#[0]⟩, .string ⟨#[90, 57, 90, 57, 90]⟩, .string ⟨#[91]⟩, .string ⟨#[64]⟩, .string ⟨#[47]⟩, .string ⟨#[58]⟩] := hwa ▸ Box.new w1 _ _ _ rfl
    have ka : Kept w1 wa := hwa ▸ (Kept.refl w1).alloc _
    have Na := Lib.hid (N1.out.trans (ka.only _))
    have hpd : w1.heap.size ≠ p := Nat.ne_of_gt C1.out.lt
    have Ca := Lib.hid (C1.out.kept ka)
    clear hwa ka
    with_reducible refine (of_lit p _ w1.heap.size 13 [⟨#[]⟩, ⟨#[65]⟩, ⟨#[65, 66, 67, 68, 69]⟩, ⟨#[65, 66, 67, 68, 69, 70]⟩, ⟨#[51, 97]⟩, ⟨#[51, 32, 65]⟩, ⟨#[48]⟩, ⟨#[0]⟩, ⟨#[90, 57, 90, 57, 90]⟩, ⟨#[91]⟩, ⟨#[64]⟩, ⟨#[47]⟩, ⟨#[58]⟩] wa Ca.out (by omega) BL hpd rfl (by omega) (by omega) (by decide)).mono ?_
    rintro e w5 ⟨x5, rfl, hx5, c5, on5⟩
    have N5 := Lib.hid (Na.out.trans on5)
    have HX : Hid (x5.size ≤ maxLen) := Lib.hid (lit_small (by decide) hx5)
    clear c5 on5 hx5 BL
    go_wp2_with fail
    go_ret
    exact ⟨⟨_, HX.out, rfl⟩, FIN.out _ N5.out⟩
end Go.Proofs.Ytlmaiblfgbobnaa

/- FnElements: helpers of the law: qInts, qSum, qCode, big. -/
namespace Go.Proofs.Ytlmaiblfgbobnaa
set_option linter.unusedVariables false
set_option linter.unusedSimpArgs false
open Go.RowKit

theorem qInts_any (v1 v2 : Value) (zs : List Int) (w : World) (h1 : Ints w v1 zs) (h2 : Ints w v2 zs) :
    Calls Try.prog 19 #[v1, v2] w fun e w' => e = .returned (.bool true) ∧ Kept w w' := by
  obtain ⟨A, c, rfl, hnc, hcm, hl⟩ := h1.out
  obtain ⟨A2, c2, rfl, hnc2, hcm2, hl2⟩ := h2.out
  unfold maxLen at hcm hcm2
  have HL := Lib.hid hl
  have HL2 := Lib.hid hl2
  clear hl h1 hl2 h2
  have hne : ((zs.length : Int) != (zs.length : Int)) = false := by simp
  go_enter Try.func19, Try.ntmps19
  go_wp2_with fail
  go_loopw [13] (fun i wr => ∃ k : Nat, k ≤ zs.length ∧ i = .int .i64 k ∧ Kept w wr) (fun i _ => zs.length - (intOf i).toNat)
  case atStart => exact ⟨0, Nat.zero_le _, rfl, Kept.refl _⟩
  case round =>
    obtain ⟨k, hk, rfl, hkept⟩ := hrel
    by_cases hlt : k < zs.length
    · obtain ⟨b, o, z, rfl, hb, hz, hc⟩ := ints_at (HL.out.kept hkept) hlt
      obtain ⟨b2, o2, z2, rfl, hb2, hz2, hc2⟩ := ints_at (HL2.out.kept hkept) hlt
      rw [hz] at hz2
      injection hz2 with hz2
      subst hz2
      have hlt' : (k : Int) < (zs.length : Int) := by omega
      clear hz
      go_wp2_with fail
      go_quiet (fail)
      go_wp2_with fail
      go_roundw
      case rel => exact ⟨k + 1, by omega, by go_num, hkept.drewN _⟩
      case measure => simp [intOf]; omega
    · go_wp2_with fail
      go_ret
      exact ⟨rfl, hkept⟩
theorem qSum_any (v : Value) (zs : List Int) (w : World) (h : Ints w v zs) (hn : zs.length ≤ 100) (hb : ∀ z ∈ zs, 0 ≤ z ∧ z ≤ 1000) :
    Calls Try.prog 23 #[v] w fun e w' => e = .returned (.int .i64 zs.sum) ∧ w = w' := by
  obtain ⟨A, c, rfl, hnc, hcm, hl⟩ := h.out
  unfold maxLen at hcm
  have HL := Lib.hid hl
  have HB := Lib.hid hb
  have HD : Hid (∀ k, k ≤ zs.length → 0 ≤ (zs.take k).sum ∧ (zs.take k).sum ≤ 1000 * (k : Int)) := Lib.hid (by
    intro k
    induction k with
    | zero => intro _; simp
    | succ k ih =>
      intro hk
      have hz : zs[k]? = some zs[k] := List.getElem?_eq_getElem (by omega)
      have h1 := hb _ (List.mem_of_getElem? hz)
      have h2 := ih (by omega)
      rw [take_snoc hz, List.sum_append, List.sum_singleton]
      omega)
  clear hl h hb
  go_enter Try.func23, Try.ntmps23
  go_wp2_with fail
  go_loop [3, 8] (fun s3 s8 => ∃ k : Nat, k ≤ zs.length ∧ s8 = .int .i64 k ∧ s3 = .int .i64 ((zs.take k).sum)) (fun _ i => zs.length - (RowKit.intOf i).toNat)
  case atStart => exact ⟨0, Nat.zero_le _, rfl, rfl⟩
  case round =>
    obtain ⟨k, hk, rfl, rfl⟩ := hrel
    have hs := HD.out k hk
    by_cases hlt : k < zs.length
    · obtain ⟨b, o, z, rfl, hbl, hz, hc⟩ := ints_at HL.out hlt
      have hz1 := HB.out z (List.mem_of_getElem? hz)
      have hz2 : (zs.take (k + 1)).sum = (zs.take k).sum + z := by rw [take_snoc hz, List.sum_append]; simp
      have HZ2 := Lib.hid hz2
      clear hz hz2
      generalize (zs.take k).sum = sm at *
      go_wp2_with fail
      go_round
      case rel => exact ⟨k + 1, by omega, by go_num, by rw [HZ2.out]⟩
      case measure => simp [RowKit.intOf]; omega
    · obtain rfl : k = zs.length := by omega
      rw [List.take_length]
      go_wp2_with fail
      go_ret
      exact ⟨rfl, rfl⟩
set_option maxRecDepth 100000 in
set_option maxHeartbeats 4000000 in
theorem qCode_any (v1 v2 : Value) (a : CodeD) (w : World) (h1 : CodeAt w v1 a) (h2 : CodeAt w v2 a) :
    Calls Try.prog 20 #[v1, v2] w fun e w' => e = .returned (.bool true) ∧ Kept w w' := by
  obtain ⟨nv, mv, rfl, q1, q2⟩ := h1
  obtain ⟨nv', mv', rfl, q3, q4⟩ := h2
  have H2 := Lib.hid q2
  have H4 := Lib.hid q4
  obtain ⟨A, c, rfl, hnc, hcm, hA⟩ := q1.1.out
  obtain ⟨A', c', rfl, hnc', hcm', hA'⟩ := q3.1.out
  obtain ⟨D, d, rfl, _, _, _⟩ := q2.out
  obtain ⟨D', d', rfl, _, _, _⟩ := q4.out
  unfold maxLen at hcm hcm'
  have HA := Lib.hid hA
  have HA' := Lib.hid hA'
  clear q1 q2 q3 q4 hA hA'
  have hne : ((a.elems.length : Int) != (a.elems.length : Int)) = false := by simp
  have e1 : (a.repeats != a.repeats) = false := by simp
  have e2 : (a.bonus != a.bonus) = false := by simp
  have e3 : (a.keeps != a.keeps) = false := by simp
  have e4 : (a.fall != a.fall) = false := by simp
  have K0 : Kept w ((w.alloc (.cells #[.slice A a.elems.length c, .slice D a.limits.length d, .int .i64 a.repeats, .int .i64 a.bonus, .int .i64 a.keeps, .int .i64 a.fall] 26)).alloc (.cells #[.slice A' a.elems.length c', .slice D' a.limits.length d', .int .i64 a.repeats, .int .i64 a.bonus, .int .i64 a.keeps, .int .i64 a.fall] 26)) := ((Kept.refl w).alloc _).alloc _
  go_enter Try.func20, Try.ntmps20
  go_wp2_with fail
  refine (qInts_any _ _ a.limits _ (H2.out.kept K0) (H4.out.kept K0)).mono ?_
  rintro e w1 ⟨rfl, k1⟩
  have B0 := ((Box.new w w.heap.size 26 #[.slice A a.elems.length c, .slice D a.limits.length d, .int .i64 a.repeats, .int .i64 a.bonus, .int .i64 a.keeps, .int .i64 a.fall] rfl).alloc (.cells #[.slice A' a.elems.length c', .slice D' a.limits.length d', .int .i64 a.repeats, .int .i64 a.bonus, .int .i64 a.keeps, .int .i64 a.fall] 26)).kept k1
  have B1 := (Box.new (w.alloc (.cells #[.slice A a.elems.length c, .slice D a.limits.length d, .int .i64 a.repeats, .int .i64 a.bonus, .int .i64 a.keeps, .int .i64 a.fall] 26)) (w.heap.size + 1) 26 #[.slice A' a.elems.length c', .slice D' a.limits.length d', .int .i64 a.repeats, .int .i64 a.bonus, .int .i64 a.keeps, .int .i64 a.fall] (by simp)).kept k1
  have K1 := K0.trans k1
  obtain ⟨c0, f0⟩ := B0.six
  obtain ⟨c1, f1⟩ := B1.six
  clear k1 f0 f1
  go_wp2_with fail
  clear c0 c1
  go_loopw [52] (fun i wr => ∃ k : Nat, k ≤ a.elems.length ∧ i = .int .i64 k ∧ Kept w1 wr) (fun i _ => a.elems.length - (intOf i).toNat)
  case atStart => exact ⟨0, Nat.zero_le _, rfl, Kept.refl _⟩
  case round =>
    obtain ⟨k, hk, rfl, hkept⟩ := hrel
    by_cases hlt : k < a.elems.length
    · obtain ⟨b, o, x, rfl, hb, h2, q0, q1, q2, q3⟩ := elems_at (HA.out.kept (K1.trans hkept)) hlt
      obtain ⟨b', o', x', rfl, hb', h2', q0', q1', q2', q3'⟩ := elems_at (HA'.out.kept (K1.trans hkept)) hlt
      rw [h2] at h2'
      injection h2' with h2'
      subst h2'
      have hlt' : (k : Int) < (a.elems.length : Int) := by omega
      obtain ⟨c0, f0⟩ := (B0.kept hkept).six
      obtain ⟨c1, f1⟩ := (B1.kept hkept).six
      clear h2 f0 f1
      go_wp2_with fail
      go_quiet (fail)
      go_wp2_with fail
      go_roundw
      case rel => exact ⟨k + 1, by omega, by go_num, hkept.drewN _⟩
      case measure => simp [intOf]; omega
    · go_wp2_with fail
      go_ret
      exact ⟨rfl, K1.trans hkept⟩
end Go.Proofs.Ytlmaiblfgbobnaa

/- Contracts of chapter 1: fractions compared; the constants. -/
namespace Go.Proofs.Ytlmaiblfgbobnaa
set_option linter.unusedVariables false
set_option linter.unusedSimpArgs false
open Go.RowKit

def partB (a b : Int) : Bool := inB a (-1000000000000) 1000000000000 && inB b 1 1000000
theorem partB_true {a b : Int} (h : partB a b = true) : -1000000000000 ≤ a ∧ a ≤ 1000000000000 ∧ 1 ≤ b ∧ b ≤ 1000000 := by
  unfold partB at h
  rw [Bool.and_eq_true] at h
  have h1 := inB_true h.1
  have h2 := inB_true h.2
  exact ⟨h1.1, h1.2, h2.1, h2.2⟩
def sgn (n : Int) : Int := if 0 < n then 1 else if n < 0 then -1 else 0
def poMd (a b mode : Int) : Int := if mode = -1 then a / b else if mode = 0 then (2 * a + b) / (2 * b) else -(-a / b)

def cmpV (a b c d : Int) : Int := if partB a b && partB c d then sgn (a * d - c * b) else 0
theorem mul_bd {a d A D : Int} (h1 : -A ≤ a) (h2 : a ≤ A) (h3 : 0 ≤ d) (h4 : d ≤ D) : -(A * D) ≤ a * d ∧ a * d ≤ A * D := by
  have hA : 0 ≤ A := by omega
  constructor
  · have q1 : -A * d ≤ a * d := Int.mul_le_mul_of_nonneg_right h1 h3
    have q2 : A * d ≤ A * D := Int.mul_le_mul_of_nonneg_left h4 hA
    rw [Int.neg_mul] at q1
    omega
  · have q1 : a * d ≤ A * d := Int.mul_le_mul_of_nonneg_right h2 h3
    have q2 : A * d ≤ A * D := Int.mul_le_mul_of_nonneg_left h4 hA
    omega
theorem part_mul {a b c d : Int} (h1 : partB a b = true) (h2 : partB c d = true) : -1000000000000000000 ≤ a * d ∧ a * d ≤ 1000000000000000000 := by
  have q1 := partB_true h1
  have q2 := partB_true h2
  have := mul_bd (a := a) (d := d) (A := 1000000000000) (D := 1000000) (by omega) (by omega) (by omega) (by omega)
  omega
end Go.Proofs.Ytlmaiblfgbobnaa

/- Contracts of chapter 1: lowest terms, sums of fractions, rounding. -/
namespace Go.Proofs.Ytlmaiblfgbobnaa
set_option linter.unusedVariables false
set_option linter.unusedSimpArgs false
open Go.RowKit

theorem l1Most_any (a b : Int) (w : World) :
    Calls Try.prog 46 #[.int .i64 a, .int .i64 b] w fun e w' => e = .returned (.int .i64 (max a b)) ∧ w = w' := by
  go_enter Try.func46, Try.ntmps46
  go_wp2
  all_goals
    go_ret
    exact ⟨ret_int (by omega), rfl⟩
theorem gcd_step (m k : Nat) : Nat.gcd k (m % k) = Nat.gcd m k := by rw [Nat.gcd_comm k, ← Nat.gcd_rec, Nat.gcd_comm]
theorem gcd_pos {a b : Int} (h : 1 ≤ b) : 1 ≤ Int.gcd a b := by
  have : Int.gcd a b ≠ 0 := by
    intro h0
    rw [Int.gcd_eq_zero_iff] at h0
    omega
  omega
def lowT (a b : Int) : Int := if partB a b then a.tdiv (Int.gcd a b) else 0
def lowB (a b : Int) : Int := if partB a b then b / (Int.gcd a b) else 0
def adN (a b c d : Int) : Int := a * d + c * b
def adD (b d : Int) : Int := b * d
def adT (a b c d : Int) : Int := (adN a b c d).tdiv (Int.gcd (adN a b c d) (adD b d))
def adB (a b c d : Int) : Int := (adD b d) / (Int.gcd (adN a b c d) (adD b d))
def addOk (a b c d : Int) : Bool := partB a b && partB c d && partB (adT a b c d) (adB a b c d)
def addT (a b c d : Int) : Int := if addOk a b c d then adT a b c d else 0
def addB (a b c d : Int) : Int := if addOk a b c d then adB a b c d else 0
theorem ad_bd {a b c d : Int} (h1 : partB a b = true) (h2 : partB c d = true) :
    (-4611686018427387904 ≤ a * d + c * b ∧ a * d + c * b ≤ 4611686018427387904 ∧ 1 ≤ b * d ∧ b * d ≤ 4611686018427387904) := by
  have q1 := part_mul h1 h2
  have q2 := part_mul h2 h1
  have e1 := partB_true h1
  have e2 := partB_true h2
  have q3 := mul_bd (a := b) (d := d) (A := 1000000) (D := 1000000) (by omega) (by omega) (by omega) (by omega)
  have q4 : 1 * 1 ≤ b * d := Int.mul_le_mul (by omega) (by omega) (by omega) (by omega)
  omega
theorem fdiv_of (a b : Int) (hb : 1 ≤ b) : a / b = if a.tmod b < 0 then a.tdiv b - 1 else a.tdiv b := by
  have h1 := Int.mul_tdiv_add_tmod a b
  have h2 : (a.tmod b) < b := Int.tmod_lt_of_pos a (by omega)
  have h3 : -b < a.tmod b := by
    have h := Int.tmod_lt_of_pos (-a) (show 0 < b by omega)
    rw [Int.neg_tmod] at h
    omega
  split
  · rw [Int.ediv_eq_iff_of_pos (by omega)]
    rw [Int.sub_mul]
    have := Int.mul_comm b (a.tdiv b)
    constructor <;> omega
  · rw [Int.ediv_eq_iff_of_pos (by omega)]
    have := Int.mul_comm b (a.tdiv b)
    constructor <;> omega
theorem tdiv_bd (a b A : Int) (h1 : -A ≤ a) (h2 : a ≤ A) : -A ≤ a.tdiv b ∧ a.tdiv b ≤ A := by
  have h3 : (a.tdiv b).natAbs = a.natAbs / b.natAbs := Int.natAbs_tdiv a b
  have h4 := Nat.div_le_self a.natAbs b.natAbs
  omega
theorem ediv_bd (a b A : Int) (hb : 1 ≤ b) (h1 : -A ≤ a) (h2 : a ≤ A) : -A - 1 ≤ a / b ∧ a / b ≤ A := by
  have h3 := fdiv_of a b hb
  have h4 := tdiv_bd a b A h1 h2
  split at h3 <;> omega
theorem poDown_any (a b : Int) (w : World) (h1 : -4611686018427387904 ≤ a) (h2 : a ≤ 4611686018427387904) (h3 : 1 ≤ b) (h4 : b ≤ 4611686018427387904) :
    Calls Try.prog 101 #[.int .i64 a, .int .i64 b] w fun e w' => e = .returned (.int .i64 (a / b)) ∧ w = w' := by
  have HF := Lib.hid (fdiv_of a b h3)
  obtain ⟨t1, t2⟩ := tdiv_bd a b 4611686018427387904 (by omega) h2
  have hne : (b == 0) = false := by simp; omega
  go_enter Try.func101, Try.ntmps101
  go_wp2
  all_goals
    go_ret
    exact ⟨ret_int (by rw [HF.out]; split <;> omega), rfl⟩
theorem floorDiv_any (a b : Int) (w : World) (h1 : -4611686018427387904 ≤ a) (h2 : a ≤ 4611686018427387904) (h3 : 1 ≤ b) (h4 : b ≤ 4611686018427387904) :
    Calls Try.prog 100 #[.int .i64 a, .int .i64 b] w fun e w' => e = .returned (.int .i64 (a / b)) ∧ w = w' := by
  have HF := Lib.hid (fdiv_of a b h3)
  obtain ⟨t1, t2⟩ := tdiv_bd a b 4611686018427387904 (by omega) h2
  have hne : (b == 0) = false := by simp; omega
  go_enter Try.func100, Try.ntmps100
  go_wp2
  all_goals
    go_ret
    exact ⟨ret_int (by rw [HF.out]; split <;> omega), rfl⟩
theorem poRound_any (a b : Int) (w : World) (h1 : -1000000000000000000 ≤ a) (h2 : a ≤ 1000000000000000000) (h3 : 1 ≤ b) (h4 : b ≤ 1000000000000000000) :
    Calls Try.prog 90 #[.int .i64 a, .int .i64 b] w fun e w' => e = .returned (.int .i64 ((2 * a + b) / (2 * b))) ∧ w = w' := by
  go_enter Try.func90, Try.ntmps90
  go_wp2_with (go_at_call 101; refine (poDown_any _ _ _ (by omega) (by omega) (by omega) (by omega)).mono ?_; rintro e w' ⟨rfl, rfl⟩)
  go_ret
  exact ⟨rfl, rfl⟩
theorem roundDiv_any (a b : Int) (w : World) (h1 : -1000000000000000000 ≤ a) (h2 : a ≤ 1000000000000000000) (h3 : 1 ≤ b) (h4 : b ≤ 1000000000000000000) :
    Calls Try.prog 88 #[.int .i64 a, .int .i64 b] w fun e w' => e = .returned (.int .i64 ((2 * a + b) / (2 * b))) ∧ w = w' := by
  go_enter Try.func88, Try.ntmps88
  go_wp2_with (go_at_call 100; refine (floorDiv_any _ _ _ (by omega) (by omega) (by omega) (by omega)).mono ?_; rintro e w' ⟨rfl, rfl⟩)
  go_ret
  exact ⟨rfl, rfl⟩
def rndOk (a b mode : Int) : Bool := partB a b && inB mode (-1) 1
def rndV (a b mode : Int) : Int := if rndOk a b mode then poMd a b mode else 0
end Go.Proofs.Ytlmaiblfgbobnaa

/- Contracts of chapter 1: lists of points. -/
namespace Go.Proofs.Ytlmaiblfgbobnaa
set_option linter.unusedVariables false
set_option linter.unusedSimpArgs false
open Go.RowKit
theorem sum_bd (zs : List Int) (M : Int) (hM : 0 ≤ M) (h : ∀ z ∈ zs, -M ≤ z ∧ z ≤ M) (k : Nat) : -((k : Int) * M) ≤ (zs.take k).sum ∧ (zs.take k).sum ≤ (k : Int) * M := by
  induction zs generalizing k with
  | nil =>
    have : 0 ≤ (k : Int) * M := Int.mul_nonneg (by omega) hM
    simp
    omega
  | cons z zs ih =>
    cases k with
    | zero => simp
    | succ k =>
      have h1 := h z (by simp)
      have h2 := ih (fun y hy => h y (by simp [hy])) k
      have h3 : ((k + 1 : Nat) : Int) * M = (k : Int) * M + M := by rw [Int.natCast_add, Int.add_mul]; simp
      rw [List.take_succ_cons, List.sum_cons, h3]
      omega
theorem sumInts_any (v : Value) (zs : List Int) (w : World) (h : Ints w v zs) (hn : zs.length ≤ 60) (hp : zs.all (inB · (-1000000) 1000000) = true) :
    Calls Try.prog 86 #[v] w fun e w' => e = .returned (.int .i64 zs.sum) ∧ w = w' := by
  obtain ⟨A, c, rfl, hnc, hcm, hl⟩ := h.out
  unfold maxLen at hcm
  have HL := Lib.hid hl
  have HP := Lib.hid hp
  clear hl h hp
  go_enter Try.func86, Try.ntmps86
  go_wp2
  go_loop [3, 8] (fun s i => ∃ k : Nat, k ≤ zs.length ∧ i = .int .i64 k ∧ s = .int .i64 (zs.take k).sum) (fun _ i => zs.length - (intOf i).toNat)
  case atStart => exact ⟨0, Nat.zero_le _, rfl, rfl⟩
  case round =>
    obtain ⟨k, hk, rfl, rfl⟩ := hrel
    have hb1 := sum_bd zs 1000000 (by omega) (fun z hz => inB_true (List.all_eq_true.1 HP.out z hz)) k
    by_cases hlt : k < zs.length
    · obtain ⟨b, o, z, rfl, hb, hz, hc⟩ := ints_at HL.out hlt
      have hzb := inB_true (List.all_eq_true.1 HP.out z (List.mem_of_getElem? hz))
      have HZ := Lib.hid hz
      clear hz
      go_wp2
      go_round
      case rel => exact ⟨k + 1, by omega, by go_num, by rw [take_snoc HZ.out, List.sum_append]; simp⟩
      case measure => simp [intOf]; omega
    · go_wp2
      go_ret
      exact ⟨ret_int (by rw [List.take_of_length_le (by omega)]), rfl⟩
theorem ints_one (w : World) (x : Int) (t : TypeId) : Ints (w.alloc (.cells #[.int .i64 x] t)) (.slice (some ⟨w.heap.size, 0, none⟩) 1 1) [x] :=
  ⟨_, 1, rfl, Nat.le_refl _, by decide, (fun h => by cases h), fun _ => ⟨w.heap.size, 0, rfl, by simp, fun j u hu => by
    have hj : j = 0 := by
      have := (List.getElem?_eq_some_iff.1 hu).1
      simpa using this
    subst hj
    simp at hu
    subst hu
    simp⟩⟩
theorem ints_new (w : World) (b : Nat) (hb : b = w.heap.size) (x : Int) (t : TypeId) : Ints (w.alloc (.cells #[.int .i64 x] t)) (.slice (some ⟨b, 0, none⟩) 1 1) [x] := by
  subst hb
  exact ints_one w x t
def ptsB (zs : List Int) : Bool := decide (zs.length ≤ 60) && zs.all (inB · (-1000000) 1000000)
theorem ptsB_true {zs : List Int} (h : ptsB zs = true) : zs.length ≤ 60 ∧ zs.all (inB · (-1000000) 1000000) = true := by
  unfold ptsB at h
  rw [Bool.and_eq_true] at h
  exact ⟨by simpa using h.1, h.2⟩
end Go.Proofs.Ytlmaiblfgbobnaa

/- Contracts of chapter 1: sums, places and means of lists of points, percents. -/
namespace Go.Proofs.Ytlmaiblfgbobnaa
set_option linter.unusedVariables false
set_option linter.unusedSimpArgs false
open Go.RowKit

def sumOk (zs : List Int) : Bool := ptsB zs && inB zs.sum (-1000000) 1000000
def sumV (zs : List Int) : Int := if sumOk zs then zs.sum else 0
theorem pts_sum_bd {zs : List Int} (h : ptsB zs = true) : -60000000 ≤ zs.sum ∧ zs.sum ≤ 60000000 := by
  obtain ⟨h1, h2⟩ := ptsB_true h
  have := sum_bd zs 1000000 (by omega) (fun z hz => inB_true (List.all_eq_true.1 h2 z hz)) zs.length
  rw [List.take_of_length_le (Nat.le_refl _)] at this
  omega
def place (zs : List Int) (n : Int) : Int := 1 + ((zs.filter fun x => decide (n < x)).length : Int)
theorem place_snoc {zs : List Int} {k : Nat} {z n : Int} (h : zs[k]? = some z) : place (zs.take (k + 1)) n = place (zs.take k) n + if n < z then 1 else 0 := by
  unfold place
  rw [take_snoc h, List.filter_append]
  by_cases hz : n < z <;> simp [List.filter_cons, hz]; omega
theorem place_bd (zs : List Int) (n : Int) (k : Nat) : 1 ≤ place (zs.take k) n ∧ place (zs.take k) n ≤ 1 + (k : Int) := by
  unfold place
  have h1 := List.length_filter_le (fun x => decide (n < x)) (zs.take k)
  have h2 := List.length_take_le k zs
  omega
def placeOk (zs : List Int) (n : Int) : Bool := ptsB zs && inB n (-1000000) 1000000
def placeV (zs : List Int) (n : Int) : Int := if placeOk zs n then place zs n else 0
def meanOk (zs : List Int) : Bool := ptsB zs && !(zs.length == 0)
def meanT (zs : List Int) : Int := if meanOk zs then zs.sum.tdiv (Int.gcd zs.sum zs.length) else 0
def meanB (zs : List Int) : Int := if meanOk zs then (zs.length : Int) / (Int.gcd zs.sum zs.length) else 0
end Go.Proofs.Ytlmaiblfgbobnaa

/- Fractions, plain: what the law FnParts asks of them. -/
namespace Go.Proofs.Ytlmaiblfgbobnaa
set_option linter.unusedVariables false
set_option linter.unusedSimpArgs false

theorem rnd_modes {a b c : Int} (h : rndOk a b c = true) : rndOk a b (-1) = true ∧ rndOk a b 1 = true ∧ partB a b = true := by
  unfold rndOk at h ⊢
  rw [Bool.and_eq_true] at h
  rw [h.1]
  exact ⟨by decide, by decide, rfl⟩
theorem rnd_facts {a b c : Int} (h : rndOk a b c = true) : rndV a b (-1) * b ≤ a ∧ a ≤ rndV a b 1 * b ∧ rndV a b 1 - rndV a b (-1) ≤ 1 ∧ rndV a b (-1) ≤ rndV a b c ∧ rndV a b c ≤ rndV a b 1 := by
  obtain ⟨h1, h2, hp⟩ := rnd_modes h
  obtain ⟨ha0, ha1, hb0, hb1⟩ := partB_true hp
  have hm : inB c (-1) 1 = true := by unfold rndOk at h; rw [Bool.and_eq_true] at h; exact h.2
  have hc := inB_true hm
  have e1 : rndV a b (-1) = a / b := by unfold rndV; rw [if_pos h1]; unfold poMd; rw [if_pos rfl]
  have e2 : rndV a b 1 = -(-a / b) := by unfold rndV; rw [if_pos h2]; unfold poMd; rw [if_neg (by decide), if_neg (by decide)]
  have e3 : rndV a b c = poMd a b c := by unfold rndV; rw [if_pos h]
  rw [e1, e2, e3]
  clear e1 e2 e3
  have q1 := Int.ediv_mul_le a (b := b) (by omega)
  have q2 := Int.lt_ediv_add_one_mul_self a (b := b) (by omega)
  have r1 := Int.ediv_mul_le (-a) (b := b) (by omega)
  have r2 := Int.lt_ediv_add_one_mul_self (-a) (b := b) (by omega)
  have p1 := Int.ediv_mul_le (2 * a + b) (b := 2 * b) (by omega)
  have p2 := Int.lt_ediv_add_one_mul_self (2 * a + b) (b := 2 * b) (by omega)
  unfold poMd
  generalize a / b = q at *
  generalize (2 * a + b) / (2 * b) = p at *
  generalize -a / b = r at *
  have e1 : (q + 1) * b = q * b + b := by rw [Int.add_mul, Int.one_mul]
  have e2 : (r + 1) * b = r * b + b := by rw [Int.add_mul, Int.one_mul]
  have e3 : p * (2 * b) = 2 * (p * b) := by rw [Int.mul_left_comm]
  have e4 : (p + 1) * (2 * b) = 2 * (p * b) + 2 * b := by rw [Int.add_mul, Int.one_mul, e3]
  have e5 : -r * b = -(r * b) := by rw [Int.neg_mul]
  rw [e1] at q2
  rw [e2] at r2
  rw [e3] at p1
  rw [e4] at p2
  have cmp : ∀ {x y : Int}, x * b < y * b + b → x ≤ y := fun {x y} hh => by
    have h3 : x * b < (y + 1) * b := by rw [Int.add_mul, Int.one_mul]; exact hh
    have := Int.lt_of_mul_lt_mul_right h3 (by omega)
    omega
  have k1 : -r ≤ q + 1 := cmp (by rw [e5, e1]; omega)
  have k2 : q ≤ p := cmp (by omega)
  have k3 : p ≤ -r := cmp (by rw [e5]; omega)
  have k4 : q ≤ -r := by omega
  refine ⟨q1, by rw [e5]; omega, by omega, ?_, ?_⟩
  · split
    · exact Int.le_refl _
    · split
      · exact k2
      · exact k4
  · split
    · exact k4
    · split
      · exact k3
      · exact Int.le_refl _
theorem rnd_bd {a b c : Int} (h : rndOk a b c = true) : -1000000000001 ≤ rndV a b c ∧ rndV a b c ≤ 1000000000001 := by
  obtain ⟨h1, h2, hp⟩ := rnd_modes h
  obtain ⟨ha0, ha1, hb0, hb1⟩ := partB_true hp
  obtain ⟨f1, f2, f3, f4, f5⟩ := rnd_facts h
  have e1 : rndV a b (-1) = a / b := by unfold rndV; rw [if_pos h1]; unfold poMd; rw [if_pos rfl]
  have l1 : -1000000000000 ≤ a / b := by
    refine Int.le_ediv_of_mul_le (by omega) ?_
    omega
  have l2 : a / b ≤ 1000000000000 := by
    have q1 := Int.ediv_mul_le a (b := b) (by omega)
    rcases Int.le_total (a / b) 0 with hh | hh
    · omega
    · have := Int.mul_le_mul_of_nonneg_left (show (1 : Int) ≤ b by omega) hh
      omega
  omega
theorem low_facts {c d : Int} (h : partB c d = true) : partB (lowT c d) (lowB c d) = true ∧ cmpV c d (lowT c d) (lowB c d) = 0 := by
  obtain ⟨hc0, hc1, hd0, hd1⟩ := partB_true h
  have hgp := gcd_pos (a := c) (b := d) hd0
  obtain ⟨x, hx⟩ := Int.gcd_dvd_left (a := c) (b := d)
  obtain ⟨y, hy⟩ := Int.gcd_dvd_right (a := c) (b := d)
  have e0 : lowT c d = c.tdiv (Int.gcd c d) ∧ lowB c d = d / (Int.gcd c d) := by unfold lowT lowB; rw [if_pos h, if_pos h]; exact ⟨rfl, rfl⟩
  rw [e0.1, e0.2]
  clear e0
  have hb := tdiv_bd c (Int.gcd c d) 1000000000000 hc0 hc1
  obtain ⟨g, hg⟩ : ∃ g : Int, g = (Int.gcd c d : Int) := ⟨_, rfl⟩
  have hg1 : 1 ≤ g := by omega
  rw [← hg] at hx hy hb ⊢
  clear hg hgp
  have e1 : c.tdiv g = x := by rw [hx]; exact Int.mul_tdiv_cancel_left x (by omega)
  have e2 : d / g = y := by rw [hy]; exact Int.mul_ediv_cancel_left y (by omega)
  rw [e1] at hb ⊢
  rw [e2]
  have hy1 : 1 ≤ y := by
    rcases Int.lt_or_le 0 y with h0 | h0
    · omega
    · have := Int.mul_nonneg (show (0 : Int) ≤ g by omega) (show (0 : Int) ≤ -y by omega)
      rw [Int.mul_neg] at this
      omega
  have hy2 : y ≤ d := by
    have := Int.mul_nonneg (show (0 : Int) ≤ g - 1 by omega) (show (0 : Int) ≤ y by omega)
    rw [Int.sub_mul, Int.one_mul] at this
    omega
  have hp : partB x y = true := by
    unfold partB inB
    simp
    omega
  refine ⟨hp, ?_⟩
  unfold cmpV
  rw [h, hp]
  simp only [Bool.and_self, if_true]
  have : c * y - x * d = 0 := by
    rw [hx, hy, Int.mul_assoc g x y, Int.mul_left_comm x g y, Int.sub_self]
  rw [this]
  rfl
theorem cmp_back (a b c d : Int) : cmpV c d a b = -cmpV a b c d ∧ (partB c d && partB a b) = (partB a b && partB c d) := by
  refine ⟨?_, Bool.and_comm _ _⟩
  unfold cmpV
  rw [Bool.and_comm (partB c d)]
  cases partB a b && partB c d with
  | false => rfl
  | true =>
    simp only [if_true]
    unfold sgn
    have : c * b - a * d = -(a * d - c * b) := by omega
    rw [this]
    generalize a * d - c * b = n
    by_cases h1 : 0 < n
    · rw [if_pos h1, if_neg (by omega), if_pos (by omega)]
    · by_cases h2 : n < 0
      · rw [if_neg h1, if_pos h2, if_pos (by omega)]; rfl
      · rw [if_neg h1, if_neg h2, if_neg (by omega), if_neg (by omega)]; rfl
theorem cmp_bd (a b c d : Int) : -1 ≤ cmpV a b c d ∧ cmpV a b c d ≤ 1 := by
  unfold cmpV
  split
  · unfold sgn
    split
    · omega
    · split <;> omega
  · omega
/-- the least and the greatest of the first k numbers (and of the first one) -/
def lowN (zs : List Int) (k : Nat) : Int := (zs.take k).foldl (fun l n => if n < l then n else l) (zs.headD 0)
def highN (zs : List Int) (k : Nat) : Int := (zs.take k).foldl (fun l n => if n > l then n else l) (zs.headD 0)
theorem lowN_succ {zs : List Int} {k : Nat} {z : Int} (h : zs[k]? = some z) : lowN zs (k + 1) = if z < lowN zs k then z else lowN zs k := by unfold lowN; rw [take_snoc h, List.foldl_append]; rfl
theorem highN_succ {zs : List Int} {k : Nat} {z : Int} (h : zs[k]? = some z) : highN zs (k + 1) = if z > highN zs k then z else highN zs k := by unfold highN; rw [take_snoc h, List.foldl_append]; rfl
theorem low_sum {zs : List Int} : ∀ k, k ≤ zs.length → lowN zs k * k ≤ (zs.take k).sum ∧ (zs.take k).sum ≤ highN zs k * k
  | 0, _ => by simp
  | k + 1, hk => by
    obtain ⟨i1, i2⟩ := low_sum (zs := zs) k (by omega)
    have hz : zs[k]? = some zs[k] := List.getElem?_eq_getElem (by omega)
    rw [lowN_succ hz, highN_succ hz, take_snoc hz, List.sum_append, List.sum_cons, List.sum_nil]
    generalize zs[k] = z at *
    generalize (zs.take k).sum = s at *
    generalize lowN zs k = l at *
    generalize highN zs k = u at *
    have hk0 : (0 : Int) ≤ (k : Int) := by omega
    rw [Int.natCast_succ, Int.mul_add, Int.mul_add, Int.mul_one, Int.mul_one]
    constructor
    · split
      · have := Int.mul_le_mul_of_nonneg_right (show z ≤ l by omega) hk0
        omega
      · omega
    · split
      · have := Int.mul_le_mul_of_nonneg_right (show u ≤ z by omega) hk0
        omega
      · omega
theorem low_bd {zs : List Int} (h : ∀ n ∈ zs, -1000000 ≤ n ∧ n ≤ 1000000) : ∀ k, k ≤ zs.length → (-1000000 ≤ lowN zs k ∧ lowN zs k ≤ 1000000) ∧ (-1000000 ≤ highN zs k ∧ highN zs k ≤ 1000000)
  | 0, _ => by
    unfold lowN highN
    cases zs with
    | nil => simp
    | cons a t => have := h a (by simp); simp; omega
  | k + 1, hk => by
    obtain ⟨i1, i2⟩ := low_bd h k (by omega)
    have hz : zs[k]? = some zs[k] := List.getElem?_eq_getElem (by omega)
    have := h zs[k] (List.getElem_mem _)
    rw [lowN_succ hz, highN_succ hz]
    constructor
    · split <;> omega
    · split <;> omega
theorem pts_bd {zs : List Int} (h : ptsB zs = true) : zs.length ≤ 60 ∧ ∀ n ∈ zs, -1000000 ≤ n ∧ n ≤ 1000000 := by
  obtain ⟨h1, h2⟩ := ptsB_true h
  exact ⟨h1, fun n hn => inB_true (List.all_eq_true.1 h2 n hn)⟩
/-- the mean: what the law asks at the end -/
theorem mean_facts {zs : List Int} (h : meanOk zs = true) : ptsB zs = true ∧ 0 < zs.length ∧ meanT zs * zs.length = zs.sum * meanB zs ∧ lowN zs zs.length * meanB zs ≤ meanT zs ∧ meanT zs ≤ highN zs zs.length * meanB zs ∧
    (-60000000 ≤ meanT zs ∧ meanT zs ≤ 60000000) ∧ 1 ≤ meanB zs ∧ meanB zs ≤ 60 ∧ -60000000 ≤ zs.sum ∧ zs.sum ≤ 60000000 := by
  have h0 := h
  unfold meanOk at h0
  simp only [Bool.and_eq_true, Bool.not_eq_true', beq_eq_false_iff_ne] at h0
  obtain ⟨hp, hne⟩ := h0
  have hn : 0 < zs.length := by omega
  obtain ⟨hl60, hb⟩ := pts_bd hp
  have hsb := low_sum (zs := zs) zs.length (Nat.le_refl _)
  have hlb := low_bd hb zs.length (Nat.le_refl _)
  rw [List.take_length] at hsb
  have hd0 : (1 : Int) ≤ (zs.length : Int) := by omega
  have hgp := gcd_pos (a := zs.sum) (b := (zs.length : Int)) hd0
  obtain ⟨x, hx⟩ := Int.gcd_dvd_left (a := zs.sum) (b := (zs.length : Int))
  obtain ⟨y, hy⟩ := Int.gcd_dvd_right (a := zs.sum) (b := (zs.length : Int))
  have e0 : meanT zs = zs.sum.tdiv (Int.gcd zs.sum zs.length) ∧ meanB zs = (zs.length : Int) / (Int.gcd zs.sum zs.length) := by unfold meanT meanB; rw [if_pos h, if_pos h]; exact ⟨rfl, rfl⟩
  rw [e0.1, e0.2]
  clear e0
  have hS : -60000000 ≤ zs.sum ∧ zs.sum ≤ 60000000 := by
    have h1 := Int.mul_le_mul_of_nonneg_right hlb.1.1 (show (0 : Int) ≤ (zs.length : Int) by omega)
    have h2 := Int.mul_le_mul_of_nonneg_right hlb.2.2 (show (0 : Int) ≤ (zs.length : Int) by omega)
    have h3 : (zs.length : Int) ≤ 60 := by omega
    omega
  have hbd := tdiv_bd zs.sum (Int.gcd zs.sum zs.length) 60000000 hS.1 hS.2
  obtain ⟨g, hg⟩ : ∃ g : Int, g = (Int.gcd zs.sum zs.length : Int) := ⟨_, rfl⟩
  have hg1 : 1 ≤ g := by omega
  rw [← hg] at hx hy hbd ⊢
  clear hg hgp
  have e1 : zs.sum.tdiv g = x := by rw [hx]; exact Int.mul_tdiv_cancel_left x (by omega)
  have e2 : (zs.length : Int) / g = y := by rw [hy]; exact Int.mul_ediv_cancel_left y (by omega)
  rw [e1] at hbd ⊢
  rw [e2]
  have hy1 : 1 ≤ y := by
    rcases Int.lt_or_le 0 y with h0 | h0
    · omega
    · have := Int.mul_nonneg (show (0 : Int) ≤ g by omega) (show (0 : Int) ≤ -y by omega)
      rw [Int.mul_neg] at this
      omega
  have hy2 : y ≤ (zs.length : Int) := by
    have := Int.mul_nonneg (show (0 : Int) ≤ g - 1 by omega) (show (0 : Int) ≤ y by omega)
    rw [Int.sub_mul, Int.one_mul] at this
    omega
  obtain ⟨s1, s2⟩ := hsb
  generalize lowN zs zs.length = l at *
  generalize highN zs zs.length = u at *
  have cancel : ∀ {p q : Int}, g * p ≤ g * q → p ≤ q := fun {p q} hh => Int.le_of_mul_le_mul_left hh (by omega)
  refine ⟨hp, hn, ?_, ?_, ?_, hbd, hy1, by omega, hS.1, hS.2⟩
  · rw [hy, hx, Int.mul_left_comm x g y, Int.mul_assoc g x y]
  · apply cancel
    rw [Int.mul_left_comm, ← hy, ← hx]
    exact s1
  · apply cancel
    rw [Int.mul_left_comm, ← hy, ← hx]
    exact s2
end Go.Proofs.Ytlmaiblfgbobnaa

/- Two helpers of the laws: big, pSum. -/
namespace Go.Proofs.Ytlmaiblfgbobnaa
set_option linter.unusedVariables false
set_option linter.unusedSimpArgs false
open Go.RowKit

def BoolPost (e : Ending) : Prop := ∃ b : Bool, e = .returned (.bool b)
theorem big_any (v0 v1 : Value) (w : World) (h0 : Byts w v0) (h1 : Byts w v1) :
    Calls Try.prog 24 #[v0, v1] w fun e w' => BoolPost e ∧ Kept w w' := by
  obtain ⟨A, n, c, rfl, hnc, hcm, _⟩ := h0
  obtain ⟨A1, n1, c1, rfl, hnc1, hcm1, _⟩ := h1
  unfold maxLen at hcm hcm1
  go_enter Try.func24, Try.ntmps24
  go_wp2_with fail
  all_goals
    go_ret
    exact ⟨⟨_, rfl⟩, Kept.refl _⟩
end Go.Proofs.Ytlmaiblfgbobnaa
