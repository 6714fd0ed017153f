/- Contracts of functions that the proof leans on. No condition. -/
import Derived.Test.YtlmaiblfgbobnaaM0abb80f488
import Derived.Deep.RegionHeld3
/- Draws: a code and a list of items. -/
namespace Go.Proofs.Ytlmaiblfgbobnaa
set_option linter.unusedVariables false
set_option linter.unusedSimpArgs false
set_option linter.unnecessarySimpa false
open Go.RowKit Go.Lib

theorem OwnK.off {w w' : World} {base : Nat} {v : Value} {c : CodeD} {S : List Nat} (h : OwnK w base v c) (on : Only S w w') (hd : ∀ b ∈ S, b < base ∨ w.heap.size ≤ b) : OwnK w' base v c :=
  h.only on (fun b hb hs => by have := h.fps b hb; have := hd b hs; omega)
/-- what a draw of a code and a list of items leaves -/
def JPost (w : World) (e : Ending) (w' : World) : Prop := ∃ cv lv c its cs, e = .returned (.tuple #[cv, lv]) ∧ OwnK w' w.heap.size cv c ∧ OwnC w' w.heap.size lv its cs ∧ c.elems.length ≤ 25 ∧ c.limits.length ≤ 6 ∧ its.length ≤ 15
set_option maxRecDepth 100000 in
set_option maxHeartbeats 16000000 in
theorem judged_any (p m : Nat) (w : World) (h : Cur w p m) (hm : m ≤ 10000000) :
    Calls Try.prog 71 #[.pointer (some ⟨p, 0, none⟩)] w fun e w' => JPost w e w' ∧ Cur w' p (m + 3000) ∧ Only [p] w w' := by
  have hpl := h.lt
  have CW := Lib.hid h
  clear h
  go_enter Try.func71, Try.ntmps71
  go_wp2_with fail
  obtain ⟨w0, hw0⟩ : ∃ x : World, x = w.alloc (.cells #[.slice none 0 0, .slice none 0 0, .int .i64 0, .int .i64 0, .int .i64 0, .int .i64 0] 26) := ⟨_, rfl⟩
  rw [← hw0]
  have BR := Lib.hid (show Box w0 w.heap.size 26 #[.slice none 0 0, .slice none 0 0, .int .i64 0, .int .i64 0, .int .i64 0, .int .i64 0] from hw0 ▸ Box.new w _ _ _ rfl)
  have K0 : Hid (Kept w w0) := Lib.hid (hw0 ▸ (Kept.refl w).alloc _)
  have C0 := Lib.hid (CW.out.kept K0.out)
  have sz0 : w.heap.size < w0.heap.size := BR.out.lt
  have hpl0 : p < w0.heap.size := by omega
  have hrp : w.heap.size ≠ p := by omega
  have FIN : Hid (∀ (w3 w9 : World) (cv lv : Value) (X : CodeD) (its : List ItemD) (cs : List (Value × Value)), OwnK w3 w0.heap.size cv X → OwnC w3 w0.heap.size lv its cs → Only [p] w0 w3 → Cur w3 p (m + 3000) → Only [w.heap.size] w3 w9 → (X.elems.length ≤ 25 ∧ X.limits.length ≤ 6) → its.length ≤ 15 →
      JPost w (.returned (.tuple #[cv, lv])) w9 ∧ Cur w9 p (m + 3000) ∧ Only [p] w w9) := Lib.hid (fun w3 w9 cv lv X its cs a b on cu q h1 h2 => by
    have hq : ∀ b ∈ [w.heap.size], b < w0.heap.size ∨ w3.heap.size ≤ b := fun b hb => by rw [List.mem_singleton] at hb; omega
    exact ⟨⟨cv, lv, X, its, cs, rfl, OwnK.base (a.off q hq) (by omega), OwnC.base (b.off q hq) (by omega), h1.1, h1.2, h2⟩, cu.far q (fun x hx => by rw [List.mem_singleton] at hx; omega), ((K0.out.only _).trans on).overD q (fun x hx => by rw [List.mem_singleton] at hx; omega)⟩)
  clear hw0 CW
  with_reducible refine (pointsCode_any p m w0 C0.out (by omega)).mono ?_
  rintro e w1 ⟨⟨v1, x, rfl, o1, h1, h24, hl5⟩, c1, on1⟩
  obtain ⟨ev, lv, rfl, p1, q1, nd⟩ := o1
  obtain ⟨Ae, ce, rfl, _⟩ := own_form p1.1
  obtain ⟨Al, cl, rfl, _⟩ := own_form q1
  have HD := Lib.hid (OwnK.boxed p1 q1 nd c1 on1 hpl0 (Nat.le_refl _))
  have h25 : x.elems.length ≤ 25 := by omega
  have h6 : x.limits.length ≤ 6 := by omega
  have hAe : ∀ a, Ae = some a → a.block ≠ p := fun a e => by subst e; have := (own_fp p1.1 a.block (by simp [fp_some])).1; omega
  have hAl : ∀ a, Al = some a → a.block ≠ p := fun a e => by subst e; have := (own_fp q1 a.block (by simp [fp_some])).1; omega
  have HAE := Lib.hid hAe
  have HAL := Lib.hid hAl
  clear p1 q1 nd c1 on1 C0 hl5 hAe hAl
  go_wp2_with fail
  obtain ⟨wb, hwb⟩ : ∃ y : World, y = w1.alloc (.cells #[.slice Ae x.elems.length ce, .slice Al x.limits.length cl, .int .i64 x.repeats, .int .i64 x.bonus, .int .i64 x.keeps, .int .i64 x.fall] 26) := ⟨_, rfl⟩
  obtain ⟨bb, hbb⟩ : ∃ b : Nat, b = w1.heap.size := ⟨_, rfl⟩
  rw [← hwb, ← hbb] at HD ⊢
  clear hwb hbb
  with_reducible refine (items_any p _ Ae Al ce cl x wb HD.out.cur (by omega) HD.out.own.code (by omega) (by omega) HAE.out HAL.out).mono ?_
  rintro e w2 ⟨⟨v2, its, cs, rfl, o2, hi14, _⟩, c2, on2⟩
  obtain ⟨Aq, cq, rfl, hnq, hmq, hAq⟩ := own_form o2.2.1
  have HAQ := Lib.hid hAq
  unfold maxLen at hmq
  have HS2 := Lib.hid (HD.out.drawn c2 on2)
  have sz2 := on2.size
  have szb : w0.heap.size ≤ wb.heap.size := HD.out.only.size
  have HGQ : Hid (∀ a, Aq = some a → wb.heap.size ≤ a.block) := Lib.hid (fun a e => by subst e; exact (own_fp o2.2.1 a.block (by simp [fp_some])).1)
  have HRW : Hid (bb < wb.heap.size ∧ ∀ b ∈ fp (.slice Ae x.elems.length ce) ++ fp (.slice Al x.limits.length cl), b < wb.heap.size) := Lib.hid ⟨HD.out.box.lt, fun b hb => by rcases List.mem_append.1 hb with hb | hb <;> first | exact (own_fp HD.out.elems.1 b hb).2 | exact (own_fp HD.out.lims b hb).2⟩
  have O2 := Lib.hid (o2.base szb)
  clear o2 c2 on2 HD hAq
  go_wp2_with fail
  with_reducible refine (pick_any p _ 24 w2 HS2.out.cur (by omega) (by omega)).mono ?_
  rintro e w3 ⟨s, rfl, ⟨los, his⟩, c3, on3⟩
  have HS := Lib.hid ((HS2.out.drawn c3 on3).le (m' := m + 1500) (by omega))
  have hpo : ∀ b ∈ [p], b < w0.heap.size ∨ w2.heap.size ≤ b := fun b hb => by rw [List.mem_singleton] at hb; subst hb; exact .inl hpl0
  have HO := Lib.hid (O2.out.off on3 hpo)
  have sz3 := on3.size
  clear c3 on3 HS2 O2 his los hpo
  have HP : Hid (∀ (W : World), ∀ b ∈ [p], b < w0.heap.size ∨ W.heap.size ≤ b) := Lib.hid (fun W b hb => by rw [List.mem_singleton] at hb; subst hb; exact .inl hpl0)
  have hcase : s = 0 ∨ s = 1 ∨ s = 2 ∨ (¬ s = 0 ∧ ¬ s = 1 ∧ ¬ s = 2) := by omega
  rcases hcase with rfl | rfl | rfl | ⟨g0, g1, g2⟩
  · go_wp2_with fail
    with_reducible refine (anyCode_any p _ w3 HS.out.cur (by omega)).mono ?_
    rintro e w4 ⟨⟨v4, y, rfl, o4, h25', h6'⟩, c4, on4⟩
    obtain ⟨ev, lv, rfl, p1, q1, nd⟩ := o4
    obtain ⟨Be, de, rfl, _⟩ := own_form p1.1
    obtain ⟨Bl, dl, rfl, _⟩ := own_form q1
    have O4 : Hid (OwnK w4 w0.heap.size (.agg #[.slice Be y.elems.length de, .slice Bl y.limits.length dl, .int .i64 y.repeats, .int .i64 y.bonus, .int .i64 y.keeps, .int .i64 y.fall]) y) := Lib.hid (OwnK.base (⟨_, _, rfl, p1, q1, nd⟩ : OwnK w4 w3.heap.size _ y) HS.out.only.size)
    have HO4 := Lib.hid (HO.out.off on4 (HP.out w3))
    have N4 := Lib.hid (HS.out.only.trans on4)
    have C4 := Lib.hid (c4.le (m' := m + 3000) (by omega))
    have B2 := BR.out.only N4.out (not_one hrp)
    clear p1 q1 nd c4 on4
    obtain ⟨x2, y2⟩ := B2.six
    go_wp2_with fail
    clear x2 y2
    obtain ⟨w9, hw9, B9, Q9⟩ := set6 B2 (Value.slice Be y.elems.length de) (Value.slice Bl y.limits.length dl) (.int .i64 y.repeats) (.int .i64 y.bonus) (.int .i64 y.keeps) (.int .i64 y.fall)
    rw [← hw9]
    clear hw9
    obtain ⟨cc, ff⟩ := B9.six
    refine bodyPost_ret (v := .tuple #[.agg #[Value.slice Be y.elems.length de, Value.slice Bl y.limits.length dl, .int .i64 y.repeats, .int .i64 y.bonus, .int .i64 y.keeps, .int .i64 y.fall], .slice Aq its.length cq]) (by simp [results, Try.results71, go_sem, cc, ff]) rfl ?_
    exact FIN.out _ w9 _ _ y _ _ O4.out HO4.out N4.out C4.out Q9 ⟨h25', h6'⟩ (by omega)
  · go_upto_region 7 with (fail)
    have HSX : Hid (∀ w' : World, Box w' bb 26 #[.slice Ae x.elems.length ce, .slice Al x.limits.length cl, .int .i64 x.repeats, .int .i64 x.bonus, .int .i64 x.keeps, .int .i64 x.fall] → w'.cell? ⟨bb, 0, none⟩ = some (.slice Ae x.elems.length ce) ∧ w'.cell? ⟨bb, 1, none⟩ = some (.slice Al x.limits.length cl) ∧ w'.cell? ⟨bb, 2, none⟩ = some (.int .i64 x.repeats) ∧ w'.cell? ⟨bb, 3, none⟩ = some (.int .i64 x.bonus) ∧ w'.cell? ⟨bb, 4, none⟩ = some (.int .i64 x.keeps) ∧ w'.cell? ⟨bb, 5, none⟩ = some (.int .i64 x.fall)) := Lib.hid (fun w' b => b.six.1)
    refine region_pop (S := fun w' => w'.cell? ⟨bb, 0, none⟩ = some (.slice Ae x.elems.length ce) ∧ w'.cell? ⟨bb, 1, none⟩ = some (.slice Al x.limits.length cl) ∧ w'.cell? ⟨bb, 2, none⟩ = some (.int .i64 x.repeats) ∧ w'.cell? ⟨bb, 3, none⟩ = some (.int .i64 x.bonus) ∧ w'.cell? ⟨bb, 4, none⟩ = some (.int .i64 x.keeps) ∧ w'.cell? ⟨bb, 5, none⟩ = some (.int .i64 x.fall)) 4 (by kernel_rfl) (by kernel_rfl) ?_
    simp only [List.take_succ_cons, List.take_zero, List.drop_succ_cons, List.drop_zero]
    refine startL (HSX.out _ (HS.out.kept (Kept.refl w3).drew).box) (fun hS0 => ?_)
    obtain ⟨wd, hwd⟩ : ∃ y : World, y = w3.drew := ⟨_, rfl⟩
    rw [← hwd] at hS0 ⊢
    have kd : Kept w3 wd := hwd ▸ (Kept.refl w3).drew
    have D0 := Lib.hid (HS.out.kept kd)
    have HOD := Lib.hid (HO.out.kept kd)
    clear hwd
    refine takeL (i := 0) (v := ?_) rfl (by kernel_rfl) (by kernel_rfl) (by kernel_rfl) (fun _ _ _ h => h) (Or.inl ⟨by rfl, ?_⟩) hS0 ?_
    rotate_left 1
    · (intro w hSw; (try dsimp only at hSw); go_simp; try with_reducible rfl)
    try simp only [Act.put, List.setIfInBounds_toArray, List.set_cons_zero, List.set_cons_succ]
    refine takeL (i := 1) (v := ?_) rfl (by kernel_rfl) (by kernel_rfl) (by kernel_rfl) (fun _ _ _ h => h) (Or.inl ⟨by rfl, ?_⟩) hS0 ?_
    rotate_left 1
    · (intro w hSw; (try dsimp only at hSw); go_simp; try with_reducible rfl)
    try simp only [Act.put, List.setIfInBounds_toArray, List.set_cons_zero, List.set_cons_succ]
    refine onlyL (i := 2) rfl (by kernel_rfl) (fun K hK => ?_)
    go_simp
    with_reducible refine (anyItems_any p _ wd D0.out.cur (by omega)).mono ?_
    rintro e w4 ⟨⟨v4, jts, js, rfl, o4, hj15⟩, c4, on4⟩
    obtain ⟨Bq, dq, rfl, _⟩ := own_form o4.2.1
    have D4 := Lib.hid (D0.out.drawn c4 on4)
    have O4 := Lib.hid (OwnC.base o4 D0.out.only.size)
    have HJ := Lib.hid hj15
    clear o4 c4 on4 hj15
    go_wp2_with fail
    refine hK.out _ _ (HSX.out _ D4.out.box) (fun hS1 => ?_)
    clear hK K hS0
    try simp only [Act.put, List.setIfInBounds_toArray, List.set_cons_zero, List.set_cons_succ]
    refine onlyL (i := 3) rfl (by kernel_rfl) (fun K hK => ?_)
    have B2 := BR.out.only D4.out.only (not_one hrp)
    obtain ⟨x2, y2⟩ := B2.six
    go_simp
    clear x2 y2
    obtain ⟨w9, hw9, B9, Q9⟩ := set6 B2 (Value.slice Ae x.elems.length ce) (Value.slice Al x.limits.length cl) (.int .i64 x.repeats) (.int .i64 x.bonus) (.int .i64 x.keeps) (.int .i64 x.fall)
    rw [← hw9]
    clear hw9
    refine hK.out _ _ (HSX.out _ (D4.out.box.only Q9 (not_one (by have := D4.out.hbb; omega)))) (fun hS2 => ?_)
    clear hK K hS1
    try simp only [Act.put, List.setIfInBounds_toArray, List.set_cons_zero, List.set_cons_succ]
    refine doneL (by kernel_rfl) ?_
    clear hS2
    go_wp2_with fail
    obtain ⟨cc, ff⟩ := B9.six
    refine bodyPost_ret (v := .tuple #[.agg #[Value.slice Ae x.elems.length ce, Value.slice Al x.limits.length cl, .int .i64 x.repeats, .int .i64 x.bonus, .int .i64 x.keeps, .int .i64 x.fall], .slice Bq jts.length dq]) (by simp [results, Try.results71, go_sem, cc, ff]) rfl ?_
    exact FIN.out _ w9 _ _ x _ _ D4.out.own O4.out D4.out.only (D4.out.cur.le (by omega)) Q9 ⟨h25, h6⟩ HJ.out
  · by_cases hl0 : its.length < 1
    · have hl0' : ¬ (0 : Int) < (its.length : Int) := by omega
      have B2 := BR.out.only HS.out.only (not_one hrp)
      obtain ⟨xb, yb⟩ := HS.out.box.six
      obtain ⟨x2, y2⟩ := B2.six
      go_wp2_with fail
      clear xb yb x2 y2
      obtain ⟨w9, hw9, B9, Q9⟩ := set6 B2 (Value.slice Ae x.elems.length ce) (Value.slice Al x.limits.length cl) (.int .i64 x.repeats) (.int .i64 x.bonus) (.int .i64 x.keeps) (.int .i64 x.fall)
      rw [← hw9]
      clear hw9
      obtain ⟨cc, ff⟩ := B9.six
      refine bodyPost_ret (v := .tuple #[.agg #[Value.slice Ae x.elems.length ce, Value.slice Al x.limits.length cl, .int .i64 x.repeats, .int .i64 x.bonus, .int .i64 x.keeps, .int .i64 x.fall], .slice Aq its.length cq]) (by simp [results, Try.results71, go_sem, cc, ff]) rfl ?_
      exact FIN.out _ w9 _ _ x _ _ HS.out.own HO.out HS.out.only (HS.out.cur.le (by omega)) Q9 ⟨h25, h6⟩ (by omega)
    · have hl0' : (0 : Int) < (its.length : Int) := by omega
      obtain ⟨gq, rfl⟩ := HAQ.out (by omega)
      go_wp2_with fail
      with_reducible refine (pick_any p _ (its.length : Int) w3 HS.out.cur (by omega) (by omega)).mono ?_
      rintro e w4 ⟨x4, rfl, ⟨lo4, hi4⟩, c4, on4⟩
      obtain ⟨k, rfl⟩ : ∃ j : Nat, x4 = (j : Int) := ⟨x4.toNat, by omega⟩
      have hk : k < its.length := by have := hi4 (by omega); omega
      have hk' : (k : Int) < (its.length : Int) := by omega
      have HS4 := Lib.hid (HS.out.drawn c4 on4)
      have HO4 := Lib.hid (HO.out.off on4 (HP.out w3))
      clear c4 on4 hi4 HS HO
      go_wp2_with fail
      with_reducible refine (anyItem_any p _ w4 HS4.out.cur (by omega)).mono ?_
      rintro e w5 ⟨⟨v5, it, rfl, o5, _, _⟩, c5, on5⟩
      obtain ⟨nv, mv, rfl, p5, q5, nd5⟩ := o5
      obtain ⟨An, cn, rfl, _⟩ := own_form p5.1
      obtain ⟨Am, cm, rfl, _⟩ := own_form q5
      have HS5 := Lib.hid (HS4.out.drawn c5 on5)
      have HO5 := Lib.hid (HO4.out.off on5 (HP.out w4))
      have sz4 : w0.heap.size ≤ w4.heap.size := HS4.out.only.size
      rw [fpA_item] at nd5
      have OP := Lib.hid (OwnC.put HO5.out hk ⟨own_base p5.1 sz4, p5.2⟩ (own_base q5 sz4) nd5 (fun b hb hb' => by have h1 := HO4.out.fps b hb'; rcases List.mem_append.1 hb with hb | hb <;> first | (have := (own_fp p5.1 b hb).1; omega) | (have := (own_fp q5 b hb).1; omega)))
      obtain ⟨cur, Bq, _, _, hcs, _⟩ := own_box HO5.out.2.1
      obtain ⟨bq, oq, B1, d1, B2', d2, jt, e9, hbq, _, _, _, r0, r1, r2⟩ := items_at (HO5.out.toA rfl) hk
      cases e9
      rw [Nat.zero_add] at r0 r1 r2
      have f0 := Bq.free (k * 3)
      have f1 := Bq.free (k * 3 + 1)
      have f2 := Bq.free (k * 3 + 2)
      have hgq : ∀ b ∈ [gq], w0.heap.size ≤ b := fun b hb => by rw [List.mem_singleton] at hb; subst hb; exact (own_fp HO5.out.2.1 b (by simp [fp_some])).1
      clear p5 q5 nd5 c5 on5 HS4 HO4
      go_upto_region 11 with (fail)
      clear r0 r1 r2 f0 f1 f2
      have hgw := HGQ.out _ rfl
      obtain ⟨w6, hw6⟩ : ∃ W : World, W = ((w5.setCell ⟨gq, k * 3, none⟩ (.slice An it.names.length cn)).setCell ⟨gq, k * 3 + 1, none⟩ (.slice Am it.marks.length cm)).setCell ⟨gq, k * 3 + 2, none⟩ (.bool it.late) := ⟨_, rfl⟩
      rw [← hw6] at OP ⊢
      have on6 : Only [gq] w5 w6 := hw6 ▸ (((Only.refl [gq] w5).setCell (by simp) _).setCell (by simp) _).setCell (by simp) _
      have HS6 := Lib.hid (HS5.out.far_ (N := wb.heap.size) on6 (fun b hb => by rw [List.mem_singleton] at hb; subst hb; exact hgw) HRW.out.1 HRW.out.2 szb)
      clear hw6 on6 HS5 HO5
      have B2 := BR.out.only HS6.out.only (not_one hrp)
      obtain ⟨xb, yb⟩ := HS6.out.box.six
      obtain ⟨x2, y2⟩ := B2.six
      go_wp2_with fail
      clear xb yb x2 y2
      obtain ⟨w9, hw9, B9, Q9⟩ := set6 B2 (Value.slice Ae x.elems.length ce) (Value.slice Al x.limits.length cl) (.int .i64 x.repeats) (.int .i64 x.bonus) (.int .i64 x.keeps) (.int .i64 x.fall)
      rw [← hw9]
      clear hw9
      obtain ⟨cc, ff⟩ := B9.six
      refine bodyPost_ret (v := .tuple #[.agg #[Value.slice Ae x.elems.length ce, Value.slice Al x.limits.length cl, .int .i64 x.repeats, .int .i64 x.bonus, .int .i64 x.keeps, .int .i64 x.fall], .slice (some ⟨gq, 0, none⟩) its.length cq]) (by simp [results, Try.results71, go_sem, cc, ff]) rfl ?_
      exact FIN.out _ w9 _ _ x _ _ HS6.out.own OP.out HS6.out.only (HS6.out.cur.le (by omega)) Q9 ⟨h25, h6⟩ (by rw [List.length_set]; omega)
  · have B2 := BR.out.only HS.out.only (not_one hrp)
    obtain ⟨xb, yb⟩ := HS.out.box.six
    obtain ⟨x2, y2⟩ := B2.six
    go_wp2_with fail
    clear xb yb x2 y2
    obtain ⟨w9, hw9, B9, Q9⟩ := set6 B2 (Value.slice Ae x.elems.length ce) (Value.slice Al x.limits.length cl) (.int .i64 x.repeats) (.int .i64 x.bonus) (.int .i64 x.keeps) (.int .i64 x.fall)
    rw [← hw9]
    clear hw9
    obtain ⟨cc, ff⟩ := B9.six
    refine bodyPost_ret (v := .tuple #[.agg #[Value.slice Ae x.elems.length ce, Value.slice Al x.limits.length cl, .int .i64 x.repeats, .int .i64 x.bonus, .int .i64 x.keeps, .int .i64 x.fall], .slice Aq its.length cq]) (by simp [results, Try.results71, go_sem, cc, ff]) rfl ?_
    exact FIN.out _ w9 _ _ x _ _ HS.out.own HO.out HS.out.only (HS.out.cur.le (by omega)) Q9 ⟨h25, h6⟩ (by omega)
end Go.Proofs.Ytlmaiblfgbobnaa

/- Draws: a code, a list of items, a number. -/
namespace Go.Proofs.Ytlmaiblfgbobnaa
set_option linter.unusedVariables false
set_option linter.unusedSimpArgs false
set_option linter.unnecessarySimpa false
open Go.RowKit Go.Lib

/-- what a draw of a code, a list of items and a number leaves -/
def J3Post (w : World) (e : Ending) (w' : World) : Prop := ∃ cv lv c its cs, ∃ n : Int, e = .returned (.tuple #[cv, lv, .int .i64 n]) ∧ OwnK w' w.heap.size cv c ∧ OwnC w' w.heap.size lv its cs ∧ c.elems.length ≤ 25 ∧ c.limits.length ≤ 6 ∧ its.length ≤ 15
set_option maxRecDepth 100000 in
set_option maxHeartbeats 16000000 in
theorem drawRepeatsOf_any (v : Value) (w : World) (h : Byts w v) :
    Calls Try.prog 34 #[v] w fun e w' => J3Post w e w' ∧ Kept w w' := by
  have HB := Lib.hid h
  obtain ⟨A, n, c, rfl, _, _, _⟩ := h
  go_enter Try.func34, Try.ntmps34
  go_wp2_with fail
  obtain ⟨wr, hwr⟩ : ∃ x : World, x = w.alloc (.cells #[.slice none 0 0, .slice none 0 0, .int .i64 0, .int .i64 0, .int .i64 0, .int .i64 0] 26) := ⟨_, rfl⟩
  rw [← hwr]
  have BR := Lib.hid (show Box wr w.heap.size 26 #[.slice none 0 0, .slice none 0 0, .int .i64 0, .int .i64 0, .int .i64 0, .int .i64 0] from hwr ▸ Box.new w _ _ _ rfl)
  have KR : Kept w wr := hwr ▸ (Kept.refl w).alloc _
  have szr : w.heap.size < wr.heap.size := BR.out.lt
  have hsz : wr.heap.size = w.heap.size + 1 := by rw [hwr]; simp
  clear hwr
  obtain ⟨A', n', c', e', hnc, hcm, hb⟩ := HB.out.kept KR
  cases e'
  obtain ⟨w0, hw0⟩ : ∃ x : World, x = wr.alloc (.cells #[.slice A n c, .int .i64 0, .int .u64 0] 60) := ⟨_, rfl⟩
  rw [← hw0]
  have C0 : Hid (Cur w0 wr.heap.size 0) := Lib.hid (hw0 ▸ Cur.init hnc hcm hb)
  have K0 : Hid (Kept wr w0) := Lib.hid (hw0 ▸ (Kept.refl wr).alloc _)
  have sz0 : wr.heap.size < w0.heap.size := C0.out.lt
  clear hw0 hb hnc hcm
  obtain ⟨p, hp⟩ : ∃ p, p = w.heap.size + 1 := ⟨_, rfl⟩
  rw [hsz, ← hp] at C0 sz0
  rw [← hp]
  have FIN : Hid (∀ (w3 w9 : World) (cv lv : Value) (X : CodeD) (its : List ItemD) (cs : List (Value × Value)) (n : Int), OwnK w3 w0.heap.size cv X → OwnC w3 w0.heap.size lv its cs → Only [p] w0 w3 → Only [w.heap.size] w3 w9 → (X.elems.length ≤ 25 ∧ X.limits.length ≤ 6) → its.length ≤ 15 → J3Post w (.returned (.tuple #[cv, lv, .int .i64 n])) w9 ∧ Kept w w9) := Lib.hid (fun w3 w9 cv lv X its cs n a b on q h1 h2 => by
    have hq : ∀ b ∈ [w.heap.size], b < w0.heap.size ∨ w3.heap.size ≤ b := fun b hb => by rw [List.mem_singleton] at hb; omega
    exact ⟨⟨cv, lv, X, its, cs, n, rfl, OwnK.base (a.off q hq) (by omega), OwnC.base (b.off q hq) (by omega), h1.1, h1.2, h2⟩, q.above (on.above (KR.trans K0.out) (fun x hx => by rw [List.mem_singleton] at hx; omega)) (fun x hx => by rw [List.mem_singleton] at hx; omega)⟩)
  have hrp : w.heap.size ≠ p := by omega
  replace BR := Lib.hid (BR.out.kept K0.out)
  have hpl0 : p < w0.heap.size := sz0
  have hrw0 : w.heap.size < w0.heap.size := by omega
  clear hp KR K0 hsz
  with_reducible refine (judged_any p 0 w0 C0.out (by omega)).mono ?_
  rintro e w1 ⟨⟨cv, lv, x, its, cs, rfl, o1, o2, h25, h6, hi15⟩, c1, on1⟩
  obtain ⟨ev, lv', rfl, p1, q1, nd⟩ := o1
  obtain ⟨Ae, ce, rfl, _⟩ := own_form p1.1
  obtain ⟨Al, cl, rfl, _⟩ := own_form q1
  obtain ⟨Aq, cq, rfl, hnq, hmq, _⟩ := own_form o2.2.1
  unfold maxLen at hmq
  have HD := Lib.hid (OwnK.boxed p1 q1 nd c1 on1 hpl0 (Nat.le_refl _))
  have HOw := Lib.hid o2
  clear p1 q1 nd c1 on1 C0 o2
  go_upto_region 3 with (fail)
  obtain ⟨w3, hw3⟩ : ∃ y : World, y = w1.alloc (.cells #[.slice Ae x.elems.length ce, .slice Al x.limits.length cl, .int .i64 x.repeats, .int .i64 x.bonus, .int .i64 x.keeps, .int .i64 x.fall] 26) := ⟨_, rfl⟩
  have k3 : Kept w1 w3 := hw3 ▸ (Kept.refl w1).alloc _
  obtain ⟨bb, hbb⟩ : ∃ b : Nat, b = w1.heap.size := ⟨_, rfl⟩
  rw [← hw3, ← hbb] at HD ⊢
  have HS := HD
  have HO := Lib.hid (HOw.out.kept k3)
  clear hw3 hbb HD HOw k3
  have HP : Hid (∀ (W : World), ∀ b ∈ [p], b < w0.heap.size ∨ W.heap.size ≤ b) := Lib.hid (fun W b hb => by rw [List.mem_singleton] at hb; subst hb; exact .inl hpl0)
  have HSX : Hid (∀ w' : World, Box w' bb 26 #[.slice Ae x.elems.length ce, .slice Al x.limits.length cl, .int .i64 x.repeats, .int .i64 x.bonus, .int .i64 x.keeps, .int .i64 x.fall] → w'.cell? ⟨bb, 0, none⟩ = some (.slice Ae x.elems.length ce) ∧ w'.cell? ⟨bb, 1, none⟩ = some (.slice Al x.limits.length cl) ∧ w'.cell? ⟨bb, 2, none⟩ = some (.int .i64 x.repeats) ∧ w'.cell? ⟨bb, 3, none⟩ = some (.int .i64 x.bonus) ∧ w'.cell? ⟨bb, 4, none⟩ = some (.int .i64 x.keeps) ∧ w'.cell? ⟨bb, 5, none⟩ = some (.int .i64 x.fall)) := Lib.hid (fun w' b => b.six.1)
  refine region_pop (S := fun w' => w'.cell? ⟨bb, 0, none⟩ = some (.slice Ae x.elems.length ce) ∧ w'.cell? ⟨bb, 1, none⟩ = some (.slice Al x.limits.length cl) ∧ w'.cell? ⟨bb, 2, none⟩ = some (.int .i64 x.repeats) ∧ w'.cell? ⟨bb, 3, none⟩ = some (.int .i64 x.bonus) ∧ w'.cell? ⟨bb, 4, none⟩ = some (.int .i64 x.keeps) ∧ w'.cell? ⟨bb, 5, none⟩ = some (.int .i64 x.fall)) 16 (by kernel_rfl) (by kernel_rfl) ?_
  simp only [List.take_succ_cons, List.take_zero, List.drop_succ_cons, List.drop_zero]
  refine startL (HSX.out _ (HS.out.kept (Kept.refl w3).drew).box) (fun hS0 => ?_)
  obtain ⟨wd, hwd⟩ : ∃ y : World, y = w3.drew := ⟨_, rfl⟩
  rw [← hwd] at hS0 ⊢
  have kd : Kept w3 wd := hwd ▸ (Kept.refl w3).drew
  have D0 := Lib.hid (HS.out.kept kd)
  have O0 := Lib.hid (HO.out.kept kd)
  clear hwd
  refine takeL (i := 0) (v := ?_) rfl (by kernel_rfl) (by kernel_rfl) (by kernel_rfl) (fun _ _ _ h => h) (Or.inl ⟨by rfl, ?_⟩) hS0 ?_
  rotate_left 1
  · (intro w hSw; (try dsimp only at hSw); go_simp; try with_reducible rfl)
  try simp only [Act.put, List.setIfInBounds_toArray, List.set_cons_zero, List.set_cons_succ]
  refine takeL (i := 1) (v := ?_) rfl (by kernel_rfl) (by kernel_rfl) (by kernel_rfl) (fun _ _ _ h => h) (Or.inl ⟨by rfl, ?_⟩) hS0 ?_
  rotate_left 1
  · (intro w hSw; (try dsimp only at hSw); go_simp; try with_reducible rfl)
  try simp only [Act.put, List.setIfInBounds_toArray, List.set_cons_zero, List.set_cons_succ]
  refine takeL (i := 2) (v := ?_) rfl (by kernel_rfl) (by kernel_rfl) (by kernel_rfl) (fun _ _ _ h => h) (Or.inl ⟨by rfl, ?_⟩) hS0 ?_
  rotate_left 1
  · (intro w hSw; (try dsimp only at hSw); go_simp; try with_reducible rfl)
  try simp only [Act.put, List.setIfInBounds_toArray, List.set_cons_zero, List.set_cons_succ]
  refine takeL (i := 3) (v := ?_) rfl (by kernel_rfl) (by kernel_rfl) (by kernel_rfl) (fun _ _ _ h => h) (Or.inl ⟨by rfl, ?_⟩) hS0 ?_
  rotate_left 1
  · (intro w hSw; (try dsimp only at hSw); go_simp; try with_reducible rfl)
  try simp only [Act.put, List.setIfInBounds_toArray, List.set_cons_zero, List.set_cons_succ]
  refine takeL (i := 4) (v := ?_) rfl (by kernel_rfl) (by kernel_rfl) (by kernel_rfl) (fun _ _ _ h => h) (Or.inl ⟨by rfl, ?_⟩) hS0 ?_
  rotate_left 1
  · (intro w hSw; (try dsimp only at hSw); go_simp; try with_reducible rfl)
  try simp only [Act.put, List.setIfInBounds_toArray, List.set_cons_zero, List.set_cons_succ]
  refine takeL (i := 5) (v := ?_) rfl (by kernel_rfl) (by kernel_rfl) (by kernel_rfl) (fun _ _ _ h => h) (Or.inl ⟨by rfl, ?_⟩) hS0 ?_
  rotate_left 1
  · (intro w hSw; (try dsimp only at hSw); go_simp; try with_reducible rfl)
  try simp only [Act.put, List.setIfInBounds_toArray, List.set_cons_zero, List.set_cons_succ]
  refine takeL (i := 10) (v := ?_) rfl (by kernel_rfl) (by kernel_rfl) (by kernel_rfl) (fun _ _ _ h => h) (Or.inl ⟨by rfl, ?_⟩) hS0 ?_
  rotate_left 1
  · (intro w hSw; (try dsimp only at hSw); go_simp; try with_reducible rfl)
  try simp only [Act.put, List.setIfInBounds_toArray, List.set_cons_zero, List.set_cons_succ]
  refine onlyL (i := 6) rfl (by kernel_rfl) (fun K hK => ?_)
  go_simp
  with_reducible refine (pick_any p _ 16 wd D0.out.cur (by omega) (by omega)).mono ?_
  rintro e w6 ⟨x6, rfl, ⟨loN, hiN⟩, cN, onN⟩
  have D6 := Lib.hid (D0.out.drawn cN onN)
  have O6 := Lib.hid (O0.out.off onN (HP.out wd))
  obtain ⟨q, hq, hq0, hq1⟩ : ∃ q : Int, x6.tdiv 15 = q ∧ 0 ≤ q ∧ q ≤ 1 := ⟨_, rfl, Int.tdiv_nonneg loN (by omega), by have := hiN (by omega); rw [Int.tdiv_eq_ediv_of_nonneg loN]; omega⟩
  have hqe : x6 / 15 = q := by rw [← hq, Int.tdiv_eq_ediv_of_nonneg loN]
  have hq9 : IntKind.i64.wrap q = q := IntWalk.i64_in _ (by omega)
  have hw6 : IntKind.i64.wrap ((its.length : Int) + q) = (its.length : Int) + q := IntWalk.i64_in _ (by omega)
  clear cN onN hiN
  go_wp2_with fail
  refine hK.out _ _ (HSX.out _ D6.out.box) (fun hS1 => ?_)
  clear hK K hS0
  try simp only [Act.put, List.setIfInBounds_toArray, List.set_cons_zero, List.set_cons_succ]
  refine takeL (i := 7) (v := ?_) rfl (by kernel_rfl) (by kernel_rfl) (by kernel_rfl) (fun _ _ _ h => h) (Or.inl ⟨by rfl, ?_⟩) hS1 ?_
  rotate_left 1
  · (intro w hSw; (try dsimp only at hSw); go_simp; try with_reducible rfl)
  try simp only [Act.put, List.setIfInBounds_toArray, List.set_cons_zero, List.set_cons_succ]
  refine takeL (i := 8) (v := ?_) rfl (by kernel_rfl) (by kernel_rfl) (by kernel_rfl) (fun _ _ _ h => h) (Or.inl ⟨by rfl, ?_⟩) hS1 ?_
  rotate_left 1
  · (intro w hSw; (try dsimp only at hSw); go_simp; try with_reducible rfl)
  try simp only [Act.put, List.setIfInBounds_toArray, List.set_cons_zero, List.set_cons_succ]
  refine onlyL (i := 9) rfl (by kernel_rfl) (fun K hK => ?_)
  go_simp
  with_reducible refine (pick_any p _ ((its.length : Int) + q) w6 D6.out.cur (by omega) (by omega)).mono ?_
  rintro e w9 ⟨x9, rfl, ⟨loN, hiN⟩, cN, onN⟩
  have D9 := Lib.hid (D6.out.drawn cN onN)
  have O9 := Lib.hid (O6.out.off onN (HP.out w6))
  skip
  clear cN onN hiN
  go_wp2_with fail
  refine hK.out _ _ (HSX.out _ D9.out.box) (fun hS2 => ?_)
  clear hK K hS1
  try simp only [Act.put, List.setIfInBounds_toArray, List.set_cons_zero, List.set_cons_succ]
  refine onlyL (i := 11) rfl (by kernel_rfl) (fun K hK => ?_)
  go_simp
  with_reducible refine (pick_any p _ 24 w9 D9.out.cur (by omega) (by omega)).mono ?_
  rintro e w11 ⟨x11, rfl, ⟨loN, hiN⟩, cN, onN⟩
  have D11 := Lib.hid (D9.out.drawn cN onN)
  have O11 := Lib.hid (O9.out.off onN (HP.out w9))
  obtain ⟨u, hu, hu0, hu1⟩ : ∃ q : Int, x11.tdiv 23 = q ∧ 0 ≤ q ∧ q ≤ 1 := ⟨_, rfl, Int.tdiv_nonneg loN (by omega), by have := hiN (by omega); rw [Int.tdiv_eq_ediv_of_nonneg loN]; omega⟩
  have hue : x11 / 23 = u := by rw [← hu, Int.tdiv_eq_ediv_of_nonneg loN]
  have hu9 : IntKind.i64.wrap u = u := IntWalk.i64_in _ (by omega)
  obtain ⟨nn, hw9⟩ : ∃ n : Int, IntKind.i64.wrap (x9 - u) = n := ⟨_, rfl⟩
  clear cN onN hiN
  go_wp2_with fail
  refine hK.out _ _ (HSX.out _ D11.out.box) (fun hS3 => ?_)
  clear hK K hS2
  try simp only [Act.put, List.setIfInBounds_toArray, List.set_cons_zero, List.set_cons_succ]
  refine takeL (i := 12) (v := ?_) rfl (by kernel_rfl) (by kernel_rfl) (by kernel_rfl) (fun _ _ _ h => h) (Or.inl ⟨by rfl, ?_⟩) hS3 ?_
  rotate_left 1
  · (intro w hSw; (try dsimp only at hSw); go_simp; try with_reducible rfl)
  try simp only [Act.put, List.setIfInBounds_toArray, List.set_cons_zero, List.set_cons_succ]
  refine takeL (i := 13) (v := ?_) rfl (by kernel_rfl) (by kernel_rfl) (by kernel_rfl) (fun _ _ _ h => h) (Or.inl ⟨by rfl, ?_⟩) hS3 ?_
  rotate_left 1
  · (intro w hSw; (try dsimp only at hSw); go_simp; try with_reducible rfl)
  try simp only [Act.put, List.setIfInBounds_toArray, List.set_cons_zero, List.set_cons_succ]
  refine onlyL (i := 14) rfl (by kernel_rfl) (fun K hK => ?_)
  clear hq hqe hq9 hw6 hu hue hu9 hw9
  have B2 := BR.out.only D11.out.only (not_one hrp)
  obtain ⟨x2, y2⟩ := B2.six
  go_simp
  clear x2 y2
  obtain ⟨wz, hwz, Bz, Qz⟩ := set6 B2 (Value.slice Ae x.elems.length ce) (Value.slice Al x.limits.length cl) (.int .i64 x.repeats) (.int .i64 x.bonus) (.int .i64 x.keeps) (.int .i64 x.fall)
  rw [← hwz]
  clear hwz
  have hbr : bb ≠ w.heap.size := by have := D11.out.hbb; omega
  refine hK.out _ _ (HSX.out _ (D11.out.box.only Qz (not_one hbr))) (fun hS4 => ?_)
  clear hK K hS3
  try simp only [Act.put, List.setIfInBounds_toArray, List.set_cons_zero, List.set_cons_succ]
  refine onlyL (i := 15) rfl (by kernel_rfl) (fun K hK => ?_)
  go_simp
  refine hK.out _ _ (HSX.out _ (D11.out.box.only Qz (not_one hbr))) (fun hS5 => ?_)
  clear hK K hS4
  try simp only [Act.put, List.setIfInBounds_toArray, List.set_cons_zero, List.set_cons_succ]
  refine doneL (by kernel_rfl) ?_
  clear hS5
  go_wp2_with fail
  obtain ⟨cc, ff⟩ := Bz.six
  refine bodyPost_ret (v := .tuple #[.agg #[Value.slice Ae x.elems.length ce, Value.slice Al x.limits.length cl, .int .i64 x.repeats, .int .i64 x.bonus, .int .i64 x.keeps, .int .i64 x.fall], .slice Aq its.length cq, .int .i64 nn]) (by simp [results, Try.results34, go_sem, cc, ff]) rfl ?_
  exact FIN.out _ wz _ _ x _ _ nn D11.out.own O11.out D11.out.only Qz ⟨h25, h6⟩ hi15
set_option maxRecDepth 100000 in
set_option maxHeartbeats 8000000 in
theorem drawLateGain_any (v : Value) (w : World) (h : Byts w v) :
    Calls Try.prog 25 #[v] w fun e w' => J3Post w e w' ∧ Kept w w' := by
  have HB := Lib.hid h
  obtain ⟨A, n, c, rfl, _, _, _⟩ := h
  go_enter Try.func25, Try.ntmps25
  go_wp2_with fail
  obtain ⟨wr, hwr⟩ : ∃ x : World, x = w.alloc (.cells #[.slice none 0 0, .slice none 0 0, .int .i64 0, .int .i64 0, .int .i64 0, .int .i64 0] 26) := ⟨_, rfl⟩
  rw [← hwr]
  have BR := Lib.hid (show Box wr w.heap.size 26 #[.slice none 0 0, .slice none 0 0, .int .i64 0, .int .i64 0, .int .i64 0, .int .i64 0] from hwr ▸ Box.new w _ _ _ rfl)
  have KR : Kept w wr := hwr ▸ (Kept.refl w).alloc _
  have szr : w.heap.size < wr.heap.size := BR.out.lt
  clear hwr
  with_reducible refine (drawRepeatsOf_any _ wr (HB.out.kept KR)).mono ?_
  rintro e w1 ⟨⟨cv, lv, x, its, cs, n, rfl, o1, o2, h25, h6, hi15⟩, k1⟩
  obtain ⟨ev, lv', rfl, p1, q1, nd⟩ := o1
  obtain ⟨Ae, ce, rfl, _⟩ := own_form p1.1
  obtain ⟨Al, cl, rfl, _⟩ := own_form q1
  obtain ⟨Aq, cq, rfl, _⟩ := own_form o2.2.1
  have O1 : Hid (OwnK w1 wr.heap.size (.agg #[.slice Ae x.elems.length ce, .slice Al x.limits.length cl, .int .i64 x.repeats, .int .i64 x.bonus, .int .i64 x.keeps, .int .i64 x.fall]) x) := Lib.hid ⟨_, _, rfl, p1, q1, nd⟩
  have O2 := Lib.hid o2
  have B2 := BR.out.kept k1
  have K1 := KR.trans k1
  clear p1 q1 nd k1 o2
  obtain ⟨x2, y2⟩ := B2.six
  go_wp2_with fail
  clear x2 y2
  obtain ⟨w9, hw9, B9, Q9⟩ := set6 B2 (Value.slice Ae x.elems.length ce) (Value.slice Al x.limits.length cl) (.int .i64 x.repeats) (.int .i64 x.bonus) (.int .i64 x.keeps) (.int .i64 x.fall)
  rw [← hw9]
  clear hw9
  obtain ⟨cc, ff⟩ := B9.six
  refine bodyPost_ret (v := .tuple #[.agg #[.slice Ae x.elems.length ce, .slice Al x.limits.length cl, .int .i64 x.repeats, .int .i64 x.bonus, .int .i64 x.keeps, .int .i64 x.fall], .slice Aq its.length cq, .int .i64 n]) (by simp [results, Try.results25, go_sem, cc, ff]) rfl ?_
  have hq : ∀ b ∈ [w.heap.size], b < wr.heap.size ∨ w1.heap.size ≤ b := fun b hb => by rw [List.mem_singleton] at hb; omega
  exact ⟨⟨_, _, x, its, cs, n, rfl, OwnK.base (O1.out.off Q9 hq) (by omega), OwnC.base (O2.out.off Q9 hq) (by omega), h25, h6, hi15⟩, Q9.above K1 (fun y hy => by rw [List.mem_singleton] at hy; omega)⟩
end Go.Proofs.Ytlmaiblfgbobnaa

/- Draws: a code and an item. -/
namespace Go.Proofs.Ytlmaiblfgbobnaa
set_option linter.unusedVariables false
set_option linter.unusedSimpArgs false
set_option linter.unnecessarySimpa false
open Go.RowKit Go.Lib

/-- what a draw of a code and an item leaves -/
def CiPost (w : World) (e : Ending) (w' : World) : Prop := ∃ cv tv c it, e = .returned (.tuple #[cv, tv]) ∧ OwnK w' w.heap.size cv c ∧ OwnT w' w.heap.size tv it ∧ c.elems.length ≤ 25 ∧ c.limits.length ≤ 6 ∧ it.names.length ≤ 4 ∧ it.marks.length ≤ 4
theorem OwnT.offT {w w' : World} {base : Nat} {v : Value} {it : ItemD} {S : List Nat} (h : OwnT w base v it) (on : Only S w w') (hd : ∀ b ∈ S, b < base ∨ w.heap.size ≤ b) : OwnT w' base v it := by
  have hf := ownT_fps h
  obtain ⟨nv, mv, rfl, h1, h2, h3⟩ := h
  rw [fpA_item] at hf
  exact ⟨nv, mv, rfl, h1.only on (fun b hb hs => by have := hf b (List.mem_append_left _ hb); have := hd b hs; omega), own_only h2 on (fun b hb hs => by have := hf b (List.mem_append_right _ hb); have := hd b hs; omega), h3⟩
set_option maxRecDepth 100000 in
set_option maxHeartbeats 16000000 in
theorem drawItemFamily_any (v : Value) (w : World) (h : Byts w v) :
    Calls Try.prog 64 #[v] w fun e w' => CiPost w e w' ∧ Kept w w' := by
  have HB := Lib.hid h
  obtain ⟨A, n, c, rfl, _, _, _⟩ := h
  go_enter Try.func64, Try.ntmps64
  go_wp2_with fail
  obtain ⟨wr, hwr⟩ : ∃ x : World, x = w.alloc (.cells #[.slice none 0 0, .slice none 0 0, .int .i64 0, .int .i64 0, .int .i64 0, .int .i64 0] 26) := ⟨_, rfl⟩
  obtain ⟨wt, hwt⟩ : ∃ x : World, x = wr.alloc (.cells #[.slice none 0 0, .slice none 0 0, .bool false] 52) := ⟨_, rfl⟩
  rw [← hwr, ← hwt]
  have hsr : wr.heap.size = w.heap.size + 1 := by rw [hwr]; simp
  have hst : wt.heap.size = w.heap.size + 1 + 1 := by rw [hwt, ← hsr]; simp
  have BR0 : Box wt w.heap.size 26 #[.slice none 0 0, .slice none 0 0, .int .i64 0, .int .i64 0, .int .i64 0, .int .i64 0] := hwt ▸ (hwr ▸ Box.new w _ _ _ rfl : Box wr w.heap.size 26 #[.slice none 0 0, .slice none 0 0, .int .i64 0, .int .i64 0, .int .i64 0, .int .i64 0]).alloc _
  have BT0 : Box wt (w.heap.size + 1) 52 #[.slice none 0 0, .slice none 0 0, .bool false] := hwt ▸ Box.new wr _ _ _ hsr.symm
  have KR : Kept w wt := hwt ▸ (hwr ▸ (Kept.refl w).alloc _ : Kept w wr).alloc _
  clear hwr hwt hsr
  obtain ⟨A', n', c', e', hnc, hcm, hb⟩ := HB.out.kept KR
  cases e'
  obtain ⟨w0, hw0⟩ : ∃ x : World, x = wt.alloc (.cells #[.slice A n c, .int .i64 0, .int .u64 0] 60) := ⟨_, rfl⟩
  rw [← hw0]
  have C0 : Hid (Cur w0 wt.heap.size 0) := Lib.hid (hw0 ▸ Cur.init hnc hcm hb)
  have K0 : Hid (Kept wt w0) := Lib.hid (hw0 ▸ (Kept.refl wt).alloc _)
  have sz0 : wt.heap.size < w0.heap.size := C0.out.lt
  clear hw0 hb hnc hcm
  obtain ⟨p, hp⟩ : ∃ p, p = w.heap.size + 1 + 1 := ⟨_, rfl⟩
  rw [hst, ← hp] at C0 sz0
  rw [← hp]
  have FIN : Hid (∀ (w3 w9 : World) (cv tv : Value) (X : CodeD) (it : ItemD), OwnK w3 w0.heap.size cv X → OwnT w3 w0.heap.size tv it → Only [p] w0 w3 → Only [w.heap.size, w.heap.size + 1] w3 w9 → (X.elems.length ≤ 25 ∧ X.limits.length ≤ 6) → (it.names.length ≤ 4 ∧ it.marks.length ≤ 4) → CiPost w (.returned (.tuple #[cv, tv])) w9 ∧ Kept w w9) := Lib.hid (fun w3 w9 cv tv X it a b on q h1 h2 => by
    have hq : ∀ b ∈ [w.heap.size, w.heap.size + 1], b < w0.heap.size ∨ w3.heap.size ≤ b := fun b hb => by simp only [List.mem_cons, List.not_mem_nil, or_false] at hb; omega
    exact ⟨⟨cv, tv, X, it, rfl, OwnK.base (a.off q hq) (by omega), OwnT.low (b.offT q hq) (by omega), h1.1, h1.2, h2.1, h2.2⟩, q.above (on.above (KR.trans K0.out) (fun x hx => by rw [List.mem_singleton] at hx; omega)) (fun x hx => by simp only [List.mem_cons, List.not_mem_nil, or_false] at hx; omega)⟩)
  have hrp : w.heap.size ≠ p := by omega
  have htp : w.heap.size + 1 ≠ p := by omega
  have BR := Lib.hid (BR0.kept K0.out)
  have BT := Lib.hid (BT0.kept K0.out)
  have hpl0 : p < w0.heap.size := sz0
  have hrw0 : w.heap.size + 1 < w0.heap.size := by omega
  clear BR0 BT0 KR K0 hst hp
  with_reducible refine (anyCode_any p 0 w0 C0.out (by omega)).mono ?_
  rintro e w1 ⟨⟨v1, x, rfl, o1, h25, h6⟩, c1, on1⟩
  obtain ⟨ev, lv', rfl, p1, q1, nd⟩ := o1
  obtain ⟨Ae, ce, rfl, _⟩ := own_form p1.1
  obtain ⟨Al, cl, rfl, _⟩ := own_form q1
  have HAE : Hid (∀ a, Ae = some a → a.block ≠ p) := Lib.hid (fun a e => by subst e; have := (own_fp p1.1 a.block (by simp [fp_some])).1; omega)
  have HD := Lib.hid (OwnK.boxed p1 q1 nd c1 on1 hpl0 (Nat.le_refl _))
  clear p1 q1 nd c1 on1 C0
  go_upto_region 3 with (fail)
  obtain ⟨wb, hwb⟩ : ∃ y : World, y = w1.alloc (.cells #[.slice Ae x.elems.length ce, .slice Al x.limits.length cl, .int .i64 x.repeats, .int .i64 x.bonus, .int .i64 x.keeps, .int .i64 x.fall] 26) := ⟨_, rfl⟩
  obtain ⟨bb, hbb⟩ : ∃ b : Nat, b = w1.heap.size := ⟨_, rfl⟩
  rw [← hwb, ← hbb] at HD ⊢
  clear hwb hbb
  have HSX : Hid (∀ w' : World, Box w' bb 26 #[.slice Ae x.elems.length ce, .slice Al x.limits.length cl, .int .i64 x.repeats, .int .i64 x.bonus, .int .i64 x.keeps, .int .i64 x.fall] → w'.cell? ⟨bb, 0, none⟩ = some (.slice Ae x.elems.length ce) ∧ w'.cell? ⟨bb, 1, none⟩ = some (.slice Al x.limits.length cl) ∧ w'.cell? ⟨bb, 2, none⟩ = some (.int .i64 x.repeats) ∧ w'.cell? ⟨bb, 3, none⟩ = some (.int .i64 x.bonus) ∧ w'.cell? ⟨bb, 4, none⟩ = some (.int .i64 x.keeps) ∧ w'.cell? ⟨bb, 5, none⟩ = some (.int .i64 x.fall)) := Lib.hid (fun w' b => b.six.1)
  obtain ⟨xb, yb⟩ := HD.out.box.six
  by_cases hxe : 0 < x.elems.length
  · have hxe' : ¬ x.elems = [] := fun e => by rw [e] at hxe; simp at hxe
    go_wp2_with fail
    clear xb yb hxe'
    with_reducible refine (one_any p _ 8 wb HD.out.cur (by omega) (by omega)).mono ?_
    rintro e w3 ⟨b3, rfl, c3, on3⟩
    have HS := Lib.hid (HD.out.drawn c3 on3)
    clear c3 on3 HD
    cases b3 with
    | true =>
      go_upto_region 4 with (fail)
      refine region_pop (S := fun w' => w'.cell? ⟨bb, 0, none⟩ = some (.slice Ae x.elems.length ce) ∧ w'.cell? ⟨bb, 1, none⟩ = some (.slice Al x.limits.length cl) ∧ w'.cell? ⟨bb, 2, none⟩ = some (.int .i64 x.repeats) ∧ w'.cell? ⟨bb, 3, none⟩ = some (.int .i64 x.bonus) ∧ w'.cell? ⟨bb, 4, none⟩ = some (.int .i64 x.keeps) ∧ w'.cell? ⟨bb, 5, none⟩ = some (.int .i64 x.fall)) 4 (by kernel_rfl) (by kernel_rfl) ?_
      simp only [List.take_succ_cons, List.take_zero, List.drop_succ_cons, List.drop_zero]
      refine startL (HSX.out _ (HS.out.kept (Kept.refl w3).drew).box) (fun hS0 => ?_)
      obtain ⟨wd, hwd⟩ : ∃ y : World, y = w3.drew := ⟨_, rfl⟩
      rw [← hwd] at hS0 ⊢
      have kd : Kept w3 wd := hwd ▸ (Kept.refl w3).drew
      have D0 := Lib.hid (HS.out.kept kd)
      clear hwd
      refine takeL (i := 0) (v := ?_) rfl (by kernel_rfl) (by kernel_rfl) (by kernel_rfl) (fun _ _ _ h => h) (Or.inl ⟨by rfl, ?_⟩) hS0 ?_
      rotate_left 1
      · (intro w hSw; (try dsimp only at hSw); go_simp; try with_reducible rfl)
      try simp only [Act.put, List.setIfInBounds_toArray, List.set_cons_zero, List.set_cons_succ]
      refine takeL (i := 1) (v := ?_) rfl (by kernel_rfl) (by kernel_rfl) (by kernel_rfl) (fun _ _ _ h => h) (Or.inl ⟨by rfl, ?_⟩) hS0 ?_
      rotate_left 1
      · (intro w hSw; (try dsimp only at hSw); go_simp; try with_reducible rfl)
      try simp only [Act.put, List.setIfInBounds_toArray, List.set_cons_zero, List.set_cons_succ]
      refine onlyL (i := 2) rfl (by kernel_rfl) (fun K hK => ?_)
      go_simp
      with_reducible refine (anyItem_any p _ wd D0.out.cur (by omega)).mono ?_
      rintro e w4 ⟨⟨v4, it, rfl, o4, ⟨_, hin, him⟩, hsame⟩, c4, on4⟩
      obtain ⟨nv, mv, rfl, p4, q4, nd4⟩ := o4
      obtain ⟨An, cn, rfl, _⟩ := own_form p4.1
      obtain ⟨Am, cm, rfl, _⟩ := own_form q4
      have D4 := Lib.hid (D0.out.drawn c4 on4)
      have T4 : Hid (OwnT w4 w0.heap.size (.agg #[.slice An it.names.length cn, .slice Am it.marks.length cm, .bool it.late]) it) := Lib.hid (OwnT.low (⟨_, _, rfl, p4, q4, nd4⟩ : OwnT w4 wd.heap.size _ it) D0.out.only.size)
      have HIN := Lib.hid hin
      have HIM := Lib.hid him
      clear p4 q4 nd4 c4 on4 hin him hsame
      go_wp2_with fail
      refine hK.out _ _ (HSX.out _ D4.out.box) (fun hS1 => ?_)
      clear hK K hS0
      try simp only [Act.put, List.setIfInBounds_toArray, List.set_cons_zero, List.set_cons_succ]
      refine onlyL (i := 3) rfl (by kernel_rfl) (fun K hK => ?_)
      have B2 := BR.out.only D4.out.only (not_one hrp)
      have B3 := BT.out.only D4.out.only (not_one htp)
      obtain ⟨x2, y2⟩ := B2.six
      go_simp
      clear x2 y2
      obtain ⟨wz, hwz, Bz, Qz⟩ := set6 B2 (Value.slice Ae x.elems.length ce) (Value.slice Al x.limits.length cl) (.int .i64 x.repeats) (.int .i64 x.bonus) (.int .i64 x.keeps) (.int .i64 x.fall)
      rw [← hwz]
      clear hwz
      have hbr : bb ≠ w.heap.size := by have := D4.out.hbb; omega
      refine hK.out _ _ (HSX.out _ (D4.out.box.only Qz (not_one hbr))) (fun hS2 => ?_)
      clear hK K hS1
      try simp only [Act.put, List.setIfInBounds_toArray, List.set_cons_zero, List.set_cons_succ]
      refine doneL (by kernel_rfl) ?_
      clear hS2
      have B3z := B3.only Qz (not_one (by omega))
      obtain ⟨x3, y3⟩ := B3z.three
      go_wp2_with fail
      clear x3 y3
      obtain ⟨wy, hwy, By, Qy⟩ := set3 B3z (.slice An it.names.length cn) (.slice Am it.marks.length cm) (.bool it.late)
      rw [← hwy]
      clear hwy
      have Bz' := Bz.only Qy (not_one (by omega))
      obtain ⟨cc, ff⟩ := Bz'.six
      obtain ⟨cc3, ff3⟩ := By.three
      refine bodyPost_ret (v := .tuple #[.agg #[Value.slice Ae x.elems.length ce, Value.slice Al x.limits.length cl, .int .i64 x.repeats, .int .i64 x.bonus, .int .i64 x.keeps, .int .i64 x.fall], .agg #[.slice An it.names.length cn, .slice Am it.marks.length cm, .bool it.late]]) (by simp [results, Try.results64, go_sem, cc, ff, cc3, ff3]) rfl ?_
      exact FIN.out _ wy _ _ x it D4.out.own T4.out D4.out.only ((Qz.mono (T := [w.heap.size, w.heap.size + 1]) (by simp)).trans (Qy.mono (by simp))) ⟨h25, h6⟩ ⟨by have := HIN.out; omega, by have := HIM.out; omega⟩
    | false =>
      go_upto_region 5 with (fail)
      refine region_pop (S := fun w' => w'.cell? ⟨bb, 0, none⟩ = some (.slice Ae x.elems.length ce) ∧ w'.cell? ⟨bb, 1, none⟩ = some (.slice Al x.limits.length cl) ∧ w'.cell? ⟨bb, 2, none⟩ = some (.int .i64 x.repeats) ∧ w'.cell? ⟨bb, 3, none⟩ = some (.int .i64 x.bonus) ∧ w'.cell? ⟨bb, 4, none⟩ = some (.int .i64 x.keeps) ∧ w'.cell? ⟨bb, 5, none⟩ = some (.int .i64 x.fall)) 5 (by kernel_rfl) (by kernel_rfl) ?_
      simp only [List.take_succ_cons, List.take_zero, List.drop_succ_cons, List.drop_zero]
      refine startL (HSX.out _ (HS.out.kept (Kept.refl w3).drew).box) (fun hS0 => ?_)
      obtain ⟨wd, hwd⟩ : ∃ y : World, y = w3.drew := ⟨_, rfl⟩
      rw [← hwd] at hS0 ⊢
      have kd : Kept w3 wd := hwd ▸ (Kept.refl w3).drew
      have D0 := Lib.hid (HS.out.kept kd)
      clear hwd
      refine takeL (i := 0) (v := ?_) rfl (by kernel_rfl) (by kernel_rfl) (by kernel_rfl) (fun _ _ _ h => h) (Or.inl ⟨by rfl, ?_⟩) hS0 ?_
      rotate_left 1
      · (intro w hSw; (try dsimp only at hSw); go_simp; try with_reducible rfl)
      try simp only [Act.put, List.setIfInBounds_toArray, List.set_cons_zero, List.set_cons_succ]
      refine takeL (i := 1) (v := ?_) rfl (by kernel_rfl) (by kernel_rfl) (by kernel_rfl) (fun _ _ _ h => h) (Or.inl ⟨by rfl, ?_⟩) hS0 ?_
      rotate_left 1
      · (intro w hSw; (try dsimp only at hSw); go_simp; try with_reducible rfl)
      try simp only [Act.put, List.setIfInBounds_toArray, List.set_cons_zero, List.set_cons_succ]
      refine takeL (i := 2) (v := ?_) rfl (by kernel_rfl) (by kernel_rfl) (by kernel_rfl) (fun _ _ _ h => h) (Or.inl ⟨by rfl, ?_⟩) hS0 ?_
      rotate_left 1
      · (intro w hSw; (try dsimp only at hSw); go_simp; try with_reducible rfl)
      try simp only [Act.put, List.setIfInBounds_toArray, List.set_cons_zero, List.set_cons_succ]
      refine onlyL (i := 3) rfl (by kernel_rfl) (fun K hK => ?_)
      go_simp
      with_reducible refine (item_any p _ Ae Al ce cl x wd D0.out.cur (by omega) D0.out.own.code hxe (by omega) HAE.out).mono ?_
      rintro e w4 ⟨⟨v4, it, rfl, o4, ⟨_, hin, him⟩, hsame⟩, c4, on4⟩
      obtain ⟨nv, mv, rfl, p4, q4, nd4⟩ := o4
      obtain ⟨An, cn, rfl, _⟩ := own_form p4.1
      obtain ⟨Am, cm, rfl, _⟩ := own_form q4
      have D4 := Lib.hid (D0.out.drawn c4 on4)
      have T4 : Hid (OwnT w4 w0.heap.size (.agg #[.slice An it.names.length cn, .slice Am it.marks.length cm, .bool it.late]) it) := Lib.hid (OwnT.low (⟨_, _, rfl, p4, q4, nd4⟩ : OwnT w4 wd.heap.size _ it) D0.out.only.size)
      have HIN := Lib.hid hin
      have HIM := Lib.hid him
      clear p4 q4 nd4 c4 on4 hin him hsame
      go_wp2_with fail
      refine hK.out _ _ (HSX.out _ D4.out.box) (fun hS1 => ?_)
      clear hK K hS0
      try simp only [Act.put, List.setIfInBounds_toArray, List.set_cons_zero, List.set_cons_succ]
      refine onlyL (i := 4) rfl (by kernel_rfl) (fun K hK => ?_)
      have B2 := BR.out.only D4.out.only (not_one hrp)
      have B3 := BT.out.only D4.out.only (not_one htp)
      obtain ⟨x2, y2⟩ := B2.six
      go_simp
      clear x2 y2
      obtain ⟨wz, hwz, Bz, Qz⟩ := set6 B2 (Value.slice Ae x.elems.length ce) (Value.slice Al x.limits.length cl) (.int .i64 x.repeats) (.int .i64 x.bonus) (.int .i64 x.keeps) (.int .i64 x.fall)
      rw [← hwz]
      clear hwz
      have hbr : bb ≠ w.heap.size := by have := D4.out.hbb; omega
      refine hK.out _ _ (HSX.out _ (D4.out.box.only Qz (not_one hbr))) (fun hS2 => ?_)
      clear hK K hS1
      try simp only [Act.put, List.setIfInBounds_toArray, List.set_cons_zero, List.set_cons_succ]
      refine doneL (by kernel_rfl) ?_
      clear hS2
      have B3z := B3.only Qz (not_one (by omega))
      obtain ⟨x3, y3⟩ := B3z.three
      go_wp2_with fail
      clear x3 y3
      obtain ⟨wy, hwy, By, Qy⟩ := set3 B3z (.slice An it.names.length cn) (.slice Am it.marks.length cm) (.bool it.late)
      rw [← hwy]
      clear hwy
      have Bz' := Bz.only Qy (not_one (by omega))
      obtain ⟨cc, ff⟩ := Bz'.six
      obtain ⟨cc3, ff3⟩ := By.three
      refine bodyPost_ret (v := .tuple #[.agg #[Value.slice Ae x.elems.length ce, Value.slice Al x.limits.length cl, .int .i64 x.repeats, .int .i64 x.bonus, .int .i64 x.keeps, .int .i64 x.fall], .agg #[.slice An it.names.length cn, .slice Am it.marks.length cm, .bool it.late]]) (by simp [results, Try.results64, go_sem, cc, ff, cc3, ff3]) rfl ?_
      exact FIN.out _ wy _ _ x it D4.out.own T4.out D4.out.only ((Qz.mono (T := [w.heap.size, w.heap.size + 1]) (by simp)).trans (Qy.mono (by simp))) ⟨h25, h6⟩ ⟨by have := HIN.out; omega, by have := HIM.out; omega⟩
  · have hnil : x.elems = [] := List.eq_nil_of_length_eq_zero (by omega)
    go_upto_region 4 with (fail)
    clear xb yb hnil
    obtain ⟨w3, hw3⟩ : ∃ y : World, y = wb := ⟨_, rfl⟩
    rw [← hw3] at HD ⊢
    have HS := HD
    clear hw3 HD
    refine region_pop (S := fun w' => w'.cell? ⟨bb, 0, none⟩ = some (.slice Ae x.elems.length ce) ∧ w'.cell? ⟨bb, 1, none⟩ = some (.slice Al x.limits.length cl) ∧ w'.cell? ⟨bb, 2, none⟩ = some (.int .i64 x.repeats) ∧ w'.cell? ⟨bb, 3, none⟩ = some (.int .i64 x.bonus) ∧ w'.cell? ⟨bb, 4, none⟩ = some (.int .i64 x.keeps) ∧ w'.cell? ⟨bb, 5, none⟩ = some (.int .i64 x.fall)) 4 (by kernel_rfl) (by kernel_rfl) ?_
    simp only [List.take_succ_cons, List.take_zero, List.drop_succ_cons, List.drop_zero]
    refine startL (HSX.out _ (HS.out.kept (Kept.refl w3).drew).box) (fun hS0 => ?_)
    obtain ⟨wd, hwd⟩ : ∃ y : World, y = w3.drew := ⟨_, rfl⟩
    rw [← hwd] at hS0 ⊢
    have kd : Kept w3 wd := hwd ▸ (Kept.refl w3).drew
    have D0 := Lib.hid (HS.out.kept kd)
    clear hwd
    refine takeL (i := 0) (v := ?_) rfl (by kernel_rfl) (by kernel_rfl) (by kernel_rfl) (fun _ _ _ h => h) (Or.inl ⟨by rfl, ?_⟩) hS0 ?_
    rotate_left 1
    · (intro w hSw; (try dsimp only at hSw); go_simp; try with_reducible rfl)
    try simp only [Act.put, List.setIfInBounds_toArray, List.set_cons_zero, List.set_cons_succ]
    refine takeL (i := 1) (v := ?_) rfl (by kernel_rfl) (by kernel_rfl) (by kernel_rfl) (fun _ _ _ h => h) (Or.inl ⟨by rfl, ?_⟩) hS0 ?_
    rotate_left 1
    · (intro w hSw; (try dsimp only at hSw); go_simp; try with_reducible rfl)
    try simp only [Act.put, List.setIfInBounds_toArray, List.set_cons_zero, List.set_cons_succ]
    refine onlyL (i := 2) rfl (by kernel_rfl) (fun K hK => ?_)
    go_simp
    with_reducible refine (anyItem_any p _ wd D0.out.cur (by omega)).mono ?_
    rintro e w4 ⟨⟨v4, it, rfl, o4, ⟨_, hin, him⟩, hsame⟩, c4, on4⟩
    obtain ⟨nv, mv, rfl, p4, q4, nd4⟩ := o4
    obtain ⟨An, cn, rfl, _⟩ := own_form p4.1
    obtain ⟨Am, cm, rfl, _⟩ := own_form q4
    have D4 := Lib.hid (D0.out.drawn c4 on4)
    have T4 : Hid (OwnT w4 w0.heap.size (.agg #[.slice An it.names.length cn, .slice Am it.marks.length cm, .bool it.late]) it) := Lib.hid (OwnT.low (⟨_, _, rfl, p4, q4, nd4⟩ : OwnT w4 wd.heap.size _ it) D0.out.only.size)
    have HIN := Lib.hid hin
    have HIM := Lib.hid him
    clear p4 q4 nd4 c4 on4 hin him hsame
    go_wp2_with fail
    refine hK.out _ _ (HSX.out _ D4.out.box) (fun hS1 => ?_)
    clear hK K hS0
    try simp only [Act.put, List.setIfInBounds_toArray, List.set_cons_zero, List.set_cons_succ]
    refine onlyL (i := 3) rfl (by kernel_rfl) (fun K hK => ?_)
    have B2 := BR.out.only D4.out.only (not_one hrp)
    have B3 := BT.out.only D4.out.only (not_one htp)
    obtain ⟨x2, y2⟩ := B2.six
    go_simp
    clear x2 y2
    obtain ⟨wz, hwz, Bz, Qz⟩ := set6 B2 (Value.slice Ae x.elems.length ce) (Value.slice Al x.limits.length cl) (.int .i64 x.repeats) (.int .i64 x.bonus) (.int .i64 x.keeps) (.int .i64 x.fall)
    rw [← hwz]
    clear hwz
    have hbr : bb ≠ w.heap.size := by have := D4.out.hbb; omega
    refine hK.out _ _ (HSX.out _ (D4.out.box.only Qz (not_one hbr))) (fun hS2 => ?_)
    clear hK K hS1
    try simp only [Act.put, List.setIfInBounds_toArray, List.set_cons_zero, List.set_cons_succ]
    refine doneL (by kernel_rfl) ?_
    clear hS2
    have B3z := B3.only Qz (not_one (by omega))
    obtain ⟨x3, y3⟩ := B3z.three
    go_wp2_with fail
    clear x3 y3
    obtain ⟨wy, hwy, By, Qy⟩ := set3 B3z (.slice An it.names.length cn) (.slice Am it.marks.length cm) (.bool it.late)
    rw [← hwy]
    clear hwy
    have Bz' := Bz.only Qy (not_one (by omega))
    obtain ⟨cc, ff⟩ := Bz'.six
    obtain ⟨cc3, ff3⟩ := By.three
    refine bodyPost_ret (v := .tuple #[.agg #[Value.slice Ae x.elems.length ce, Value.slice Al x.limits.length cl, .int .i64 x.repeats, .int .i64 x.bonus, .int .i64 x.keeps, .int .i64 x.fall], .agg #[.slice An it.names.length cn, .slice Am it.marks.length cm, .bool it.late]]) (by simp [results, Try.results64, go_sem, cc, ff, cc3, ff3]) rfl ?_
    exact FIN.out _ wy _ _ x it D4.out.own T4.out D4.out.only ((Qz.mono (T := [w.heap.size, w.heap.size + 1]) (by simp)).trans (Qy.mono (by simp))) ⟨h25, h6⟩ ⟨by have := HIN.out; omega, by have := HIM.out; omega⟩
set_option maxRecDepth 100000 in
set_option maxHeartbeats 8000000 in
theorem drawFullBase_any (v : Value) (w : World) (h : Byts w v) :
    Calls Try.prog 28 #[v] w fun e w' => CiPost w e w' ∧ Kept w w' := by
  have HB := Lib.hid h
  obtain ⟨A, n, c, rfl, _, _, _⟩ := h
  go_enter Try.func28, Try.ntmps28
  go_wp2_with fail
  obtain ⟨wr, hwr⟩ : ∃ x : World, x = w.alloc (.cells #[.slice none 0 0, .slice none 0 0, .int .i64 0, .int .i64 0, .int .i64 0, .int .i64 0] 26) := ⟨_, rfl⟩
  obtain ⟨wt, hwt⟩ : ∃ x : World, x = wr.alloc (.cells #[.slice none 0 0, .slice none 0 0, .bool false] 52) := ⟨_, rfl⟩
  rw [← hwr, ← hwt]
  have hsr : wr.heap.size = w.heap.size + 1 := by rw [hwr]; simp
  have hst : w.heap.size + 1 < wt.heap.size := by rw [hwt]; simp [hsr]
  have BR0 : Box wt w.heap.size 26 #[.slice none 0 0, .slice none 0 0, .int .i64 0, .int .i64 0, .int .i64 0, .int .i64 0] := hwt ▸ (hwr ▸ Box.new w _ _ _ rfl : Box wr w.heap.size 26 #[.slice none 0 0, .slice none 0 0, .int .i64 0, .int .i64 0, .int .i64 0, .int .i64 0]).alloc _
  have BT0 : Box wt (w.heap.size + 1) 52 #[.slice none 0 0, .slice none 0 0, .bool false] := hwt ▸ Box.new wr _ _ _ hsr.symm
  have KR : Kept w wt := hwt ▸ (hwr ▸ (Kept.refl w).alloc _ : Kept w wr).alloc _
  clear hwr hwt hsr
  with_reducible refine (drawItemFamily_any _ wt (HB.out.kept KR)).mono ?_
  rintro e w1 ⟨⟨cv, tv, x, it, rfl, o1, o2, h25, h6, hi1, hi2⟩, k1⟩
  obtain ⟨ev, lv', rfl, p1, q1, nd⟩ := o1
  obtain ⟨Ae, ce, rfl, _⟩ := own_form p1.1
  obtain ⟨Al, cl, rfl, _⟩ := own_form q1
  obtain ⟨nv, mv, rfl, p2, q2, nd2⟩ := o2
  obtain ⟨An, cn, rfl, _⟩ := own_form p2.1
  obtain ⟨Am, cm, rfl, _⟩ := own_form q2
  have O1 : Hid (OwnK w1 wt.heap.size (.agg #[.slice Ae x.elems.length ce, .slice Al x.limits.length cl, .int .i64 x.repeats, .int .i64 x.bonus, .int .i64 x.keeps, .int .i64 x.fall]) x) := Lib.hid ⟨_, _, rfl, p1, q1, nd⟩
  have O2 : Hid (OwnT w1 wt.heap.size (.agg #[.slice An it.names.length cn, .slice Am it.marks.length cm, .bool it.late]) it) := Lib.hid ⟨_, _, rfl, p2, q2, nd2⟩
  have B2 := BR0.kept k1
  have B3 := BT0.kept k1
  have K1 := KR.trans k1
  clear p1 q1 nd k1 p2 q2 nd2
  obtain ⟨x2, y2⟩ := B2.six
  obtain ⟨x3, y3⟩ := B3.three
  go_wp2_with fail
  clear x2 y2 x3 y3
  obtain ⟨wz, hwz, Bz, Qz⟩ := set6 B2 (Value.slice Ae x.elems.length ce) (Value.slice Al x.limits.length cl) (.int .i64 x.repeats) (.int .i64 x.bonus) (.int .i64 x.keeps) (.int .i64 x.fall)
  rw [← hwz]
  clear hwz
  have B3z := B3.only Qz (not_one (by omega))
  obtain ⟨wy, hwy, By, Qy⟩ := set3 B3z (.slice An it.names.length cn) (.slice Am it.marks.length cm) (.bool it.late)
  rw [← hwy]
  clear hwy
  have Bz' := Bz.only Qy (not_one (by omega))
  obtain ⟨cc, ff⟩ := Bz'.six
  obtain ⟨cc3, ff3⟩ := By.three
  refine bodyPost_ret (v := .tuple #[.agg #[.slice Ae x.elems.length ce, .slice Al x.limits.length cl, .int .i64 x.repeats, .int .i64 x.bonus, .int .i64 x.keeps, .int .i64 x.fall], .agg #[.slice An it.names.length cn, .slice Am it.marks.length cm, .bool it.late]]) (by simp [results, Try.results28, go_sem, cc, ff, cc3, ff3]) rfl ?_
  have QQ : Only [w.heap.size, w.heap.size + 1] w1 wy := (Qz.mono (by simp)).trans (Qy.mono (by simp))
  have hq : ∀ b ∈ [w.heap.size, w.heap.size + 1], b < wt.heap.size ∨ w1.heap.size ≤ b := fun b hb => by simp only [List.mem_cons, List.not_mem_nil, or_false] at hb; omega
  exact ⟨⟨_, _, x, it, rfl, OwnK.base (O1.out.off QQ hq) (by omega), OwnT.low (O2.out.offT QQ hq) (by omega), h25, h6, hi1, hi2⟩, QQ.above K1 (fun y hy => by simp only [List.mem_cons, List.not_mem_nil, or_false] at hy; omega)⟩
end Go.Proofs.Ytlmaiblfgbobnaa

/- A helper of the laws: big. -/
namespace Go.Proofs.Ytlmaiblfgbobnaa
set_option linter.unusedVariables false
set_option linter.unusedSimpArgs false
open Go.RowKit

def BoolPost (e : Ending) : Prop := ∃ b : Bool, e = .returned (.bool b)
theorem big_any (v0 v1 : Value) (w : World) (h0 : Byts w v0) (h1 : Byts w v1) :
    Calls Try.prog 24 #[v0, v1] w fun e w' => BoolPost e ∧ Kept w w' := by
  obtain ⟨A, n, c, rfl, hnc, hcm, _⟩ := h0
  obtain ⟨A1, n1, c1, rfl, hnc1, hcm1, _⟩ := h1
  unfold maxLen at hcm hcm1
  go_enter Try.func24, Try.ntmps24
  go_wp2_with fail
  all_goals
    go_ret
    exact ⟨⟨_, rfl⟩, Kept.refl _⟩
end Go.Proofs.Ytlmaiblfgbobnaa
