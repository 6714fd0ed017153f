/- Contracts of functions that the proof leans on. No condition. -/
import Derived.Test.YtkekpolfdmmgeaaGreatDoorM039928930a
/- Draws: a code and an element, a code and a name, the text of a code. -/
namespace Go.Proofs.YtkekpolfdmmgeaaGreatDoor
set_option linter.unusedVariables false
set_option linter.unusedSimpArgs false
set_option linter.unnecessarySimpa false
open Go.RowKit Go.Lib

theorem OwnK.offK {w w' : World} {base : Nat} {v : Value} {c : CodeD} {S : List Nat} (h : OwnK w base v c) (on : Only S w w') (hd : ∀ b ∈ S, b < base ∨ w.heap.size ≤ b) : OwnK w' base v c :=
  h.only on (fun b hb hs => by have := h.fps b hb; have := hd b hs; omega)
theorem set4 {w : World} {g : Nat} {t : TypeId} {x0 x1 x2 x3 : Value} (h : Box w g t #[x0, x1, x2, x3]) (u0 u1 u2 u3 : Value) :
    ∃ w3, w3 = ((((w.setCell ⟨g, 0, none⟩ u0).setCell ⟨g, 1, none⟩ u1).setCell ⟨g, 2, none⟩ u2).setCell ⟨g, 3, none⟩ u3) ∧ Box w3 g t #[u0, u1, u2, u3] ∧ Only [g] w w3 := by
  refine ⟨_, rfl, (((h.set 0 u0).set 1 u1).set 2 u2).set 3 u3, ?_⟩
  repeat (refine Only.setCell ?_ (by simp) _)
  exact Only.refl _ _
/-- the first elements of a row of one's own -/
theorem ownE_take {w : World} {base g n c : Nat} {es : List ElemD} (h : OwnE w base (.slice (some ⟨g, 0, none⟩) n c) es) (hn : es.length = n) {k : Nat} (hk : k ≤ n) : OwnE w base (.slice (some ⟨g, 0, none⟩) k c) (es.take k) := by
  obtain ⟨h1, h2⟩ := h
  rw [hn] at h1
  obtain ⟨cur, hb, e1, e2, e3, e4⟩ := own_box h1
  have hg := (own_fp h1 g (by simp [fp_some])).1
  refine ⟨?_, fun e he => h2 e (List.mem_of_mem_take he)⟩
  rw [List.length_take, hn, Nat.min_eq_left hk]
  refine own_of_box hb hg (by omega) e2 e3 ?_
  rw [← flat_take cells4 4 cells4_len, ← e4, List.take_take, Nat.min_eq_left (Nat.mul_le_mul_right _ hk)]
/-- what a draw of a code and an element leaves -/
def CdEl (w : World) (e : Ending) (w' : World) : Prop := ∃ v c ev y, e = .returned (.tuple #[v, ev]) ∧ OwnK w' w.heap.size v c ∧ c.elems.length ≤ 25 ∧ c.limits.length ≤ 6 ∧ ElemAt w' ev y
theorem cdT_size {x : CodeD} (h : codeB x = true) : (cdT x).size ≤ 2000 := by
  have := cdPre_len h x.elems.length (Nat.le_refl _)
  rw [cdPre_all] at this
  have h2 := (code_small h).2.2.2.1
  unfold cdT
  rw [tx_size]
  omega
def TextPost (e : Ending) : Prop := ∃ s : ByteArray, s.size ≤ 3000 ∧ e = .returned (.string s)
set_option maxRecDepth 100000 in
set_option maxHeartbeats 16000000 in
theorem drawIsCode_any (v : Value) (w : World) (h : Byts w v) :
    Calls Tryz.prog 47 #[v] w fun e w' => AcdPost w e w' ∧ Kept w w' := by
  have HB := Lib.hid h
  obtain ⟨A, n, c, rfl, _, _, _⟩ := h
  go_enter Tryz.func47, Tryz.ntmps47
  go_wp2_with fail
  obtain ⟨wr, hwr⟩ : ∃ x : World, x = w.alloc (.cells #[.slice none 0 0, .slice none 0 0, .int .i64 0, .int .i64 0, .int .i64 0, .int .i64 0] 26) := ⟨_, rfl⟩
  rw [← hwr]
  have BR := Lib.hid (show Box wr w.heap.size 26 #[.slice none 0 0, .slice none 0 0, .int .i64 0, .int .i64 0, .int .i64 0, .int .i64 0] from hwr ▸ Box.new w _ _ _ rfl)
  have KR : Kept w wr := hwr ▸ (Kept.refl w).alloc _
  have szr : w.heap.size < wr.heap.size := BR.out.lt
  have hsz : wr.heap.size = w.heap.size + 1 := by rw [hwr]; simp
  clear hwr
  obtain ⟨A', n', c', e', hnc, hcm, hb⟩ := HB.out.kept KR
  cases e'
  obtain ⟨w0, hw0⟩ : ∃ x : World, x = wr.alloc (.cells #[.slice A n c, .int .i64 0, .int .u64 0] 86) := ⟨_, rfl⟩
  rw [← hw0]
  have C0 : Hid (Cur w0 wr.heap.size 0) := Lib.hid (hw0 ▸ Cur.init hnc hcm hb)
  have K0 : Hid (Kept wr w0) := Lib.hid (hw0 ▸ (Kept.refl wr).alloc _)
  have sz0 : wr.heap.size < w0.heap.size := C0.out.lt
  clear hw0 hb hnc hcm
  obtain ⟨p, hp⟩ : ∃ p, p = w.heap.size + 1 := ⟨_, rfl⟩
  rw [hsz, ← hp] at C0 sz0
  rw [← hp]
  have FIN : Hid (∀ (w3 w9 : World) (cv xv : Value) (X : CodeD), OwnK w3 w0.heap.size cv X → Only [p] w0 w3 → Only [w.heap.size] w3 w9 → (X.elems.length ≤ 25 ∧ X.limits.length ≤ 6) → AcdPost w (.returned cv) w9 ∧ Kept w w9) := Lib.hid (fun w3 w9 cv xv X a on q h1 => by
    have hq : ∀ b ∈ [w.heap.size], b < w0.heap.size ∨ w3.heap.size ≤ b := fun b hb => by rw [List.mem_singleton] at hb; omega
    exact ⟨⟨cv, X, rfl, OwnK.base (a.offK q hq) (by omega), h1.1, h1.2⟩, q.above (on.above (KR.trans K0.out) (fun x hx => by rw [List.mem_singleton] at hx; omega)) (fun x hx => by rw [List.mem_singleton] at hx; omega)⟩)
  have hrp : w.heap.size ≠ p := by omega
  replace BR := Lib.hid (BR.out.kept K0.out)
  have hpl0 : p < w0.heap.size := sz0
  have hrw0 : w.heap.size < w0.heap.size := by omega
  clear hp KR K0 hsz
  with_reducible refine (anyCode_any p 0 w0 C0.out (by omega)).mono ?_
  rintro e w1 ⟨⟨v1, x, rfl, o1, h25, h6⟩, c1, on1⟩
  obtain ⟨ev, lv', rfl, p1, q1, nd⟩ := o1
  obtain ⟨Ae, ce, rfl, hne, hme, hAe⟩ := own_form p1.1
  obtain ⟨Al, cl, rfl, _⟩ := own_form q1
  unfold maxLen at hme
  have O1 : Hid (OwnK w1 w0.heap.size (.agg #[.slice Ae x.elems.length ce, .slice Al x.limits.length cl, .int .i64 x.repeats, .int .i64 x.bonus, .int .i64 x.keeps, .int .i64 x.fall]) x) := Lib.hid ⟨_, _, rfl, p1, q1, nd⟩
  have B2 := BR.out.only on1 (not_one hrp)
  obtain ⟨x2, y2⟩ := B2.six
  go_wp2_with fail
  clear x2 y2
  obtain ⟨wz, hwz, Bz, Qz⟩ := set6 B2 (Value.slice Ae x.elems.length ce) (Value.slice Al x.limits.length cl) (.int .i64 x.repeats) (.int .i64 x.bonus) (.int .i64 x.keeps) (.int .i64 x.fall)
  rw [← hwz]
  clear hwz
  obtain ⟨cc, ff⟩ := Bz.six
  refine bodyPost_ret (v := .agg #[Value.slice Ae x.elems.length ce, Value.slice Al x.limits.length cl, .int .i64 x.repeats, .int .i64 x.bonus, .int .i64 x.keeps, .int .i64 x.fall]) (by simp [results, Tryz.results47, go_sem, cc, ff]) rfl ?_
  exact FIN.out w1 wz _ (.int .i64 0) x O1.out on1 Qz ⟨h25, h6⟩
set_option maxRecDepth 100000 in
set_option maxHeartbeats 16000000 in
theorem drawCodeText_any (v : Value) (w : World) (h : Byts w v) :
    Calls Tryz.prog 5 #[v] w fun e w' => AcdPost w e w' ∧ Kept w w' := by
  have HB := Lib.hid h
  obtain ⟨A, n, c, rfl, _, _, _⟩ := h
  go_enter Tryz.func5, Tryz.ntmps5
  go_wp2_with fail
  obtain ⟨wr, hwr⟩ : ∃ x : World, x = w.alloc (.cells #[.slice none 0 0, .slice none 0 0, .int .i64 0, .int .i64 0, .int .i64 0, .int .i64 0] 26) := ⟨_, rfl⟩
  rw [← hwr]
  have BR := Lib.hid (show Box wr w.heap.size 26 #[.slice none 0 0, .slice none 0 0, .int .i64 0, .int .i64 0, .int .i64 0, .int .i64 0] from hwr ▸ Box.new w _ _ _ rfl)
  have KR : Kept w wr := hwr ▸ (Kept.refl w).alloc _
  have szr : w.heap.size < wr.heap.size := BR.out.lt
  clear hwr
  with_reducible refine (drawIsCode_any _ wr (HB.out.kept KR)).mono ?_
  rintro e w1 ⟨⟨v1, x, rfl, o1, h25, h6⟩, k1⟩
  obtain ⟨ev, lv', rfl, p1, q1, nd⟩ := o1
  obtain ⟨Ae, ce, rfl, _⟩ := own_form p1.1
  obtain ⟨Al, cl, rfl, _⟩ := own_form q1
  have O1 : Hid (OwnK w1 wr.heap.size (.agg #[.slice Ae x.elems.length ce, .slice Al x.limits.length cl, .int .i64 x.repeats, .int .i64 x.bonus, .int .i64 x.keeps, .int .i64 x.fall]) x) := Lib.hid ⟨_, _, rfl, p1, q1, nd⟩
  have B2 := BR.out.kept k1
  have K1 := KR.trans k1
  clear p1 q1 nd k1
  obtain ⟨x2, y2⟩ := B2.six
  go_wp2_with fail
  clear x2 y2
  obtain ⟨wz, hwz, Bz, Qz⟩ := set6 B2 (Value.slice Ae x.elems.length ce) (Value.slice Al x.limits.length cl) (.int .i64 x.repeats) (.int .i64 x.bonus) (.int .i64 x.keeps) (.int .i64 x.fall)
  rw [← hwz]
  clear hwz
  obtain ⟨cc, ff⟩ := Bz.six
  refine bodyPost_ret (v := .agg #[Value.slice Ae x.elems.length ce, Value.slice Al x.limits.length cl, .int .i64 x.repeats, .int .i64 x.bonus, .int .i64 x.keeps, .int .i64 x.fall]) (by simp [results, Tryz.results5, go_sem, cc, ff]) rfl ?_
  have hq : ∀ b ∈ [w.heap.size], b < wr.heap.size ∨ w1.heap.size ≤ b := fun b hb => by rw [List.mem_singleton] at hb; omega
  exact ⟨⟨_, x, rfl, OwnK.base (O1.out.offK Qz hq) (by omega), h25, h6⟩, Qz.above K1 (fun y hy => by rw [List.mem_singleton] at hy; omega)⟩
set_option maxRecDepth 100000 in
set_option maxHeartbeats 16000000 in
theorem drawAddElement_any (v : Value) (w : World) (h : Byts w v) :
    Calls Tryz.prog 8 #[v] w fun e w' => CdEl w e w' ∧ Kept w w' := by
  have HB := Lib.hid h
  obtain ⟨A, n, c, rfl, _, _, _⟩ := h
  go_enter Tryz.func8, Tryz.ntmps8
  go_wp2_with fail
  obtain ⟨wr, hwr⟩ : ∃ x : World, x = w.alloc (.cells #[.slice none 0 0, .slice none 0 0, .int .i64 0, .int .i64 0, .int .i64 0, .int .i64 0] 26) := ⟨_, rfl⟩
  obtain ⟨wt, hwt⟩ : ∃ x : World, x = wr.alloc (.cells #[.string ⟨#[]⟩, .int .i64 0, .int .i64 0, .int .i64 0] 31) := ⟨_, rfl⟩
  rw [← hwr, ← hwt]
  have hsr : wr.heap.size = w.heap.size + 1 := by rw [hwr]; simp
  have hst : wt.heap.size = w.heap.size + 1 + 1 := by rw [hwt, ← hsr]; simp
  have BR0 : Box wt w.heap.size 26 #[.slice none 0 0, .slice none 0 0, .int .i64 0, .int .i64 0, .int .i64 0, .int .i64 0] := hwt ▸ (hwr ▸ Box.new w _ _ _ rfl : Box wr w.heap.size 26 #[.slice none 0 0, .slice none 0 0, .int .i64 0, .int .i64 0, .int .i64 0, .int .i64 0]).alloc _
  have BT0 : Box wt (w.heap.size + 1) 31 #[.string ⟨#[]⟩, .int .i64 0, .int .i64 0, .int .i64 0] := hwt ▸ Box.new wr _ _ _ hsr.symm
  have KR : Kept w wt := hwt ▸ (hwr ▸ (Kept.refl w).alloc _ : Kept w wr).alloc _
  clear hwr hwt hsr
  obtain ⟨A', n', c', e', hnc, hcm, hb⟩ := HB.out.kept KR
  cases e'
  obtain ⟨w0, hw0⟩ : ∃ x : World, x = wt.alloc (.cells #[.slice A n c, .int .i64 0, .int .u64 0] 86) := ⟨_, rfl⟩
  rw [← hw0]
  have C0 : Hid (Cur w0 wt.heap.size 0) := Lib.hid (hw0 ▸ Cur.init hnc hcm hb)
  have K0 : Hid (Kept wt w0) := Lib.hid (hw0 ▸ (Kept.refl wt).alloc _)
  have sz0 : wt.heap.size < w0.heap.size := C0.out.lt
  clear hw0 hb hnc hcm
  obtain ⟨p, hp⟩ : ∃ p, p = w.heap.size + 1 + 1 := ⟨_, rfl⟩
  rw [hst, ← hp] at C0 sz0
  rw [← hp]
  have FIN : Hid (∀ (w3 w9 : World) (cv yv : Value) (X : CodeD) (y : ElemD), OwnK w3 w0.heap.size cv X → y.name.size ≤ maxLen → yv = .agg #[.string y.name, .int .i64 y.family, .int .i64 y.level, .int .i64 y.base] → Only [p] w0 w3 → Only [w.heap.size, w.heap.size + 1] w3 w9 → (X.elems.length ≤ 25 ∧ X.limits.length ≤ 6) → CdEl w (.returned (.tuple #[cv, yv])) w9 ∧ Kept w w9) := Lib.hid (fun w3 w9 cv yv X y a hy ey on q h1 => by
    have hq : ∀ b ∈ [w.heap.size, w.heap.size + 1], b < w0.heap.size ∨ w3.heap.size ≤ b := fun b hb => by simp only [List.mem_cons, List.not_mem_nil, or_false] at hb; omega
    subst ey
    exact ⟨⟨cv, X, _, y, rfl, OwnK.base (a.offK q hq) (by omega), h1.1, h1.2, rfl, hy⟩, q.above (on.above (KR.trans K0.out) (fun x hx => by rw [List.mem_singleton] at hx; omega)) (fun x hx => by simp only [List.mem_cons, List.not_mem_nil, or_false] at hx; omega)⟩)
  have hrp : w.heap.size ≠ p := by omega
  have htp : w.heap.size + 1 ≠ p := by omega
  have BR := Lib.hid (BR0.kept K0.out)
  have BT := Lib.hid (BT0.kept K0.out)
  have hpl0 : p < w0.heap.size := sz0
  have hrw0 : w.heap.size + 1 < w0.heap.size := by omega
  clear BR0 BT0 KR K0 hst hp
  with_reducible refine (anyCode_any p 0 w0 C0.out (by omega)).mono ?_
  rintro e w1 ⟨⟨v1, x, rfl, o1, h25, h6⟩, c1, on1⟩
  obtain ⟨ev, lv', rfl, p1, q1, nd⟩ := o1
  obtain ⟨Ae, ce, rfl, hne, hme, hAe⟩ := own_form p1.1
  obtain ⟨Al, cl, rfl, _⟩ := own_form q1
  unfold maxLen at hme
  have HD := Lib.hid (OwnK.boxed p1 q1 nd c1 on1 hpl0 (Nat.le_refl _))
  clear p1 q1 nd c1 on1 C0 hne hme hAe
  go_upto_region 3 with (fail)
  obtain ⟨wb, hwb⟩ : ∃ y : World, y = w1.alloc (.cells #[.slice Ae x.elems.length ce, .slice Al x.limits.length cl, .int .i64 x.repeats, .int .i64 x.bonus, .int .i64 x.keeps, .int .i64 x.fall] 26) := ⟨_, rfl⟩
  obtain ⟨bb, hbb⟩ : ∃ b : Nat, b = w1.heap.size := ⟨_, rfl⟩
  rw [← hwb, ← hbb] at HD ⊢
  clear hwb hbb
  have HSX : Hid (∀ w' : World, Box w' bb 26 #[.slice Ae x.elems.length ce, .slice Al x.limits.length cl, .int .i64 x.repeats, .int .i64 x.bonus, .int .i64 x.keeps, .int .i64 x.fall] → w'.cell? ⟨bb, 0, none⟩ = some (.slice Ae x.elems.length ce) ∧ w'.cell? ⟨bb, 1, none⟩ = some (.slice Al x.limits.length cl) ∧ w'.cell? ⟨bb, 2, none⟩ = some (.int .i64 x.repeats) ∧ w'.cell? ⟨bb, 3, none⟩ = some (.int .i64 x.bonus) ∧ w'.cell? ⟨bb, 4, none⟩ = some (.int .i64 x.keeps) ∧ w'.cell? ⟨bb, 5, none⟩ = some (.int .i64 x.fall)) := Lib.hid (fun w' b => b.six.1)
  go_wp2_with fail
  obtain ⟨wa, hwa⟩ : ∃ y : World, y = wb.alloc (.cells #[.string ⟨#[49, 65]⟩, .string ⟨#[51, 66]⟩, .string ⟨#[52, 84]⟩, .string ⟨#[90, 90]⟩, .string ⟨#[]⟩, .string ⟨#[51, 65]⟩, .string ⟨#[48]⟩] 9) := ⟨_, rfl⟩
  rw [← hwa]
  have BL : Box wa wb.heap.size 9 #[.string ⟨#[49, 65]⟩, .string ⟨#[51, 66]⟩, .string ⟨#[52, 84]⟩, .string ⟨#[90, 90]⟩, .string ⟨#[]⟩, .string ⟨#[51, 65]⟩, .string ⟨#[48]⟩] := hwa ▸ Box.new wb _ _ _ rfl
  have Da := Lib.hid (HD.out.kept (hwa ▸ (Kept.refl wb).alloc _))
  have hpd : wb.heap.size ≠ p := Nat.ne_of_gt HD.out.cur.lt
  clear hwa HD
  with_reducible refine (of_lit p _ wb.heap.size 7 [⟨#[49, 65]⟩, ⟨#[51, 66]⟩, ⟨#[52, 84]⟩, ⟨#[90, 90]⟩, ⟨#[]⟩, ⟨#[51, 65]⟩, ⟨#[48]⟩] wa Da.out.cur (by omega) BL hpd rfl (by omega) (by omega) (by decide)).mono ?_
  rintro e w3 ⟨z3, rfl, hx3, c3, on3⟩
  have HZ3 : Hid (z3.size ≤ maxLen) := Lib.hid (lit_small (by decide) hx3)
  have D3 := Lib.hid (Da.out.drawn c3 on3)
  clear c3 on3 BL hx3 hpd
  go_wp2_with fail
  with_reducible refine (pick_any p _ 5 w3 D3.out.cur (by omega) (by omega)).mono ?_
  rintro e w4 ⟨z4, rfl, ⟨_, _⟩, c3, on3⟩
  have D4 := Lib.hid (D3.out.drawn c3 on3)
  clear c3 on3
  go_wp2_with fail
  with_reducible refine (pick_any p _ 5 w4 D4.out.cur (by omega) (by omega)).mono ?_
  rintro e w5 ⟨z5, rfl, ⟨_, _⟩, c3, on3⟩
  have D5 := Lib.hid (D4.out.drawn c3 on3)
  clear c3 on3
  go_wp2_with fail
  obtain ⟨wl, hwl⟩ : ∃ y : World, y = w5.alloc (.cells #[.int .i64 1, .int .i64 300, .int .i64 2000, .int .i64 2001, .int .i64 0] 3) := ⟨_, rfl⟩
  rw [← hwl]
  have BL : Box wl w5.heap.size 3 #[.int .i64 1, .int .i64 300, .int .i64 2000, .int .i64 2001, .int .i64 0] := hwl ▸ Box.new w5 _ _ _ rfl
  have Dl := Lib.hid (D5.out.kept (hwl ▸ (Kept.refl w5).alloc _))
  have hpd : w5.heap.size ≠ p := Nat.ne_of_gt D5.out.cur.lt
  clear hwl
  with_reducible refine (among_lit p _ w5.heap.size 5 [1, 300, 2000, 2001, 0] wl Dl.out.cur (by omega) BL hpd rfl (by omega) (by omega)).mono ?_
  rintro e w6 ⟨z6, rfl, _, c3, on3⟩
  have D6 := Lib.hid (Dl.out.drawn c3 on3)
  clear c3 on3 BL hpd
  go_upto_region 4 with (fail)
  obtain ⟨we, hwe⟩ : ∃ y : World, y = w6.alloc (.cells #[.string z3, .int .i64 z4, .int .i64 z5, .int .i64 z6] 31) := ⟨_, rfl⟩
  obtain ⟨ge, hge⟩ : ∃ b : Nat, b = w6.heap.size := ⟨_, rfl⟩
  have DE := Lib.hid (D6.out.kept (hwe ▸ (Kept.refl w6).alloc _ : Kept w6 we))
  have BE := Lib.hid (show Box we ge 31 #[.string z3, .int .i64 z4, .int .i64 z5, .int .i64 z6] from hwe ▸ hge ▸ Box.new w6 _ _ _ rfl)
  have HGE : Hid (w0.heap.size ≤ ge) := Lib.hid (by rw [hge]; exact D6.out.only.size)
  rw [← hwe, ← hge]
  clear hwe hge
  refine region_pop (S := fun w' => (w'.cell? ⟨bb, 0, none⟩ = some (.slice Ae x.elems.length ce) ∧ w'.cell? ⟨bb, 1, none⟩ = some (.slice Al x.limits.length cl) ∧ w'.cell? ⟨bb, 2, none⟩ = some (.int .i64 x.repeats) ∧ w'.cell? ⟨bb, 3, none⟩ = some (.int .i64 x.bonus) ∧ w'.cell? ⟨bb, 4, none⟩ = some (.int .i64 x.keeps) ∧ w'.cell? ⟨bb, 5, none⟩ = some (.int .i64 x.fall)) ∧ w'.cell? ⟨ge, 0, none⟩ = some (.string z3) ∧ w'.cell? ⟨ge, 1, none⟩ = some (.int .i64 z4) ∧ w'.cell? ⟨ge, 2, none⟩ = some (.int .i64 z5) ∧ w'.cell? ⟨ge, 3, none⟩ = some (.int .i64 z6)) 3 (by kernel_rfl) (by kernel_rfl) ?_
  simp only [List.take_succ_cons, List.take_zero, List.drop_succ_cons, List.drop_zero]
  refine startL (⟨HSX.out _ (DE.out.kept (Kept.refl we).drew).box, (BE.out.kept (Kept.refl we).drew).four.1⟩) (fun hS0 => ?_)
  obtain ⟨wd, hwd⟩ : ∃ y : World, y = we.drew := ⟨_, rfl⟩
  rw [← hwd] at hS0 ⊢
  have kd : Kept we wd := hwd ▸ (Kept.refl we).drew
  have D0 := Lib.hid (DE.out.kept kd)
  have E0 := Lib.hid (BE.out.kept kd)
  clear hwd kd
  refine takeL (i := 0) (v := ?_) rfl (by kernel_rfl) (by kernel_rfl) (by kernel_rfl) (fun _ _ _ h => h) (Or.inl ⟨by rfl, ?_⟩) hS0 ?_
  rotate_left 1
  · (intro w hSw; (try dsimp only at hSw); go_simp; try with_reducible rfl)
  try simp only [Act.put, List.setIfInBounds_toArray, List.set_cons_zero, List.set_cons_succ]
  refine takeL (i := 1) (v := ?_) rfl (by kernel_rfl) (by kernel_rfl) (by kernel_rfl) (fun _ _ _ h => h) (Or.inl ⟨by rfl, ?_⟩) hS0 ?_
  rotate_left 1
  · (intro w hSw; (try dsimp only at hSw); go_simp; try with_reducible rfl)
  try simp only [Act.put, List.setIfInBounds_toArray, List.set_cons_zero, List.set_cons_succ]
  refine onlyL (i := 2) rfl (by kernel_rfl) (fun K hK => ?_)
  have B2 := BR.out.only D0.out.only (not_one hrp)
  have B3 := BT.out.only D0.out.only (not_one htp)
  obtain ⟨x2, y2⟩ := B2.six
  go_simp
  clear x2 y2
  obtain ⟨wz, hwz, Bz, Qz⟩ := set6 B2 (Value.slice Ae x.elems.length ce) (Value.slice Al x.limits.length cl) (.int .i64 x.repeats) (.int .i64 x.bonus) (.int .i64 x.keeps) (.int .i64 x.fall)
  rw [← hwz]
  clear hwz
  have hbr : bb ≠ w.heap.size := by have := D0.out.hbb; omega
  have hgr : ge ≠ w.heap.size := by have := HGE.out; omega
  have E1 := E0.out.only Qz (not_one hgr)
  refine hK.out _ _ (⟨HSX.out _ (D0.out.box.only Qz (not_one hbr)), E1.four.1⟩) (fun hS1 => ?_)
  clear hK K hS0
  try simp only [Act.put, List.setIfInBounds_toArray, List.set_cons_zero, List.set_cons_succ]
  refine doneL (by kernel_rfl) ?_
  clear hS1
  have B3z := B3.only Qz (not_one (by omega))
  obtain ⟨x3, y3⟩ := B3z.four
  go_wp2_with fail
  clear x3 y3
  obtain ⟨wy, hwy, By, Qy⟩ := set4 B3z (.string z3) (.int .i64 z4) (.int .i64 z5) (.int .i64 z6)
  rw [← hwy]
  clear hwy
  have Bz' := Bz.only Qy (not_one (by omega))
  obtain ⟨cc, ff⟩ := Bz'.six
  obtain ⟨cc3, ff3⟩ := By.four
  refine bodyPost_ret (v := .tuple #[.agg #[Value.slice Ae x.elems.length ce, Value.slice Al x.limits.length cl, .int .i64 x.repeats, .int .i64 x.bonus, .int .i64 x.keeps, .int .i64 x.fall], .agg #[.string z3, .int .i64 z4, .int .i64 z5, .int .i64 z6]]) (by simp [results, Tryz.results8, go_sem, cc, ff, cc3, ff3]) rfl ?_
  exact FIN.out _ wy _ _ x ⟨z3, z4, z5, z6⟩ D0.out.own HZ3.out rfl D0.out.only ((Qz.mono (T := [w.heap.size, w.heap.size + 1]) (by simp)).trans (Qy.mono (by simp))) ⟨h25, h6⟩
set_option maxRecDepth 100000 in
set_option maxHeartbeats 16000000 in
theorem drawDropElement_any (v : Value) (w : World) (h : Byts w v) :
    Calls Tryz.prog 11 #[v] w fun e w' => CdStr w e w' ∧ Kept w w' := by
  have HB := Lib.hid h
  obtain ⟨A, n, c, rfl, _, _, _⟩ := h
  go_enter Tryz.func11, Tryz.ntmps11
  go_wp2_with fail
  obtain ⟨wr, hwr⟩ : ∃ x : World, x = w.alloc (.cells #[.slice none 0 0, .slice none 0 0, .int .i64 0, .int .i64 0, .int .i64 0, .int .i64 0] 26) := ⟨_, rfl⟩
  rw [← hwr]
  have BR := Lib.hid (show Box wr w.heap.size 26 #[.slice none 0 0, .slice none 0 0, .int .i64 0, .int .i64 0, .int .i64 0, .int .i64 0] from hwr ▸ Box.new w _ _ _ rfl)
  have KR : Kept w wr := hwr ▸ (Kept.refl w).alloc _
  have szr : w.heap.size < wr.heap.size := BR.out.lt
  have hsz : wr.heap.size = w.heap.size + 1 := by rw [hwr]; simp
  clear hwr
  obtain ⟨A', n', c', e', hnc, hcm, hb⟩ := HB.out.kept KR
  cases e'
  obtain ⟨w0, hw0⟩ : ∃ x : World, x = wr.alloc (.cells #[.slice A n c, .int .i64 0, .int .u64 0] 86) := ⟨_, rfl⟩
  rw [← hw0]
  have C0 : Hid (Cur w0 wr.heap.size 0) := Lib.hid (hw0 ▸ Cur.init hnc hcm hb)
  have K0 : Hid (Kept wr w0) := Lib.hid (hw0 ▸ (Kept.refl wr).alloc _)
  have sz0 : wr.heap.size < w0.heap.size := C0.out.lt
  clear hw0 hb hnc hcm
  obtain ⟨p, hp⟩ : ∃ p, p = w.heap.size + 1 := ⟨_, rfl⟩
  rw [hsz, ← hp] at C0 sz0
  rw [← hp]
  have FIN : Hid (∀ (w3 w9 : World) (cv xv : Value) (X : CodeD), OwnK w3 w0.heap.size cv X → Only [p] w0 w3 → Only [w.heap.size] w3 w9 → (X.elems.length ≤ 25 ∧ X.limits.length ≤ 6) → CdX w (.returned (.tuple #[cv, xv])) w9 xv ∧ Kept w w9) := Lib.hid (fun w3 w9 cv xv X a on q h1 => by
    have hq : ∀ b ∈ [w.heap.size], b < w0.heap.size ∨ w3.heap.size ≤ b := fun b hb => by rw [List.mem_singleton] at hb; omega
    exact ⟨⟨cv, X, rfl, OwnK.base (a.offK q hq) (by omega), h1.1, h1.2⟩, q.above (on.above (KR.trans K0.out) (fun x hx => by rw [List.mem_singleton] at hx; omega)) (fun x hx => by rw [List.mem_singleton] at hx; omega)⟩)
  have hrp : w.heap.size ≠ p := by omega
  replace BR := Lib.hid (BR.out.kept K0.out)
  have hpl0 : p < w0.heap.size := sz0
  have hrw0 : w.heap.size < w0.heap.size := by omega
  clear hp KR K0 hsz
  with_reducible refine (anyCode_any p 0 w0 C0.out (by omega)).mono ?_
  rintro e w1 ⟨⟨v1, x, rfl, o1, h25, h6⟩, c1, on1⟩
  obtain ⟨ev, lv', rfl, p1, q1, nd⟩ := o1
  obtain ⟨Ae, ce, rfl, hne, hme, hAe⟩ := own_form p1.1
  obtain ⟨Al, cl, rfl, _⟩ := own_form q1
  unfold maxLen at hme
  have HD := Lib.hid (OwnK.boxed p1 q1 nd c1 on1 hpl0 (Nat.le_refl _))
  clear p1 q1 nd c1 on1 C0
  go_upto_region 3 with (fail)
  obtain ⟨wb, hwb⟩ : ∃ y : World, y = w1.alloc (.cells #[.slice Ae x.elems.length ce, .slice Al x.limits.length cl, .int .i64 x.repeats, .int .i64 x.bonus, .int .i64 x.keeps, .int .i64 x.fall] 26) := ⟨_, rfl⟩
  obtain ⟨bb, hbb⟩ : ∃ b : Nat, b = w1.heap.size := ⟨_, rfl⟩
  rw [← hwb, ← hbb] at HD ⊢
  clear hwb hbb
  have HSX : Hid (∀ w' : World, Box w' bb 26 #[.slice Ae x.elems.length ce, .slice Al x.limits.length cl, .int .i64 x.repeats, .int .i64 x.bonus, .int .i64 x.keeps, .int .i64 x.fall] → w'.cell? ⟨bb, 0, none⟩ = some (.slice Ae x.elems.length ce) ∧ w'.cell? ⟨bb, 1, none⟩ = some (.slice Al x.limits.length cl) ∧ w'.cell? ⟨bb, 2, none⟩ = some (.int .i64 x.repeats) ∧ w'.cell? ⟨bb, 3, none⟩ = some (.int .i64 x.bonus) ∧ w'.cell? ⟨bb, 4, none⟩ = some (.int .i64 x.keeps) ∧ w'.cell? ⟨bb, 5, none⟩ = some (.int .i64 x.fall)) := Lib.hid (fun w' b => b.six.1)
  go_wp2_with fail
  with_reducible refine (one_any p _ 8 wb HD.out.cur (by omega) (by omega)).mono ?_
  rintro e w3 ⟨b3, rfl, c3, on3⟩
  have HS := Lib.hid (HD.out.drawn c3 on3)
  clear c3 on3 HD
  cases b3 with
  | true =>
    obtain ⟨xb, yb⟩ := HS.out.box.six
    by_cases hxe : 0 < x.elems.length
    · have hxe' : (0 : Int) < (x.elems.length : Int) := by omega
      have hce : 1 ≤ ce := by omega
      obtain ⟨gq, hgq⟩ := hAe hxe
      subst hgq
      have HSZ := HS
      go_upto_region 5 with (fail)
      clear xb yb hxe'
      obtain ⟨ws, hws⟩ : ∃ y : World, y = w3.setCell ⟨bb, 0, none⟩ (.slice (some ⟨gq, 0, none⟩) 1 ce) := ⟨_, rfl⟩
      obtain ⟨e0, he0⟩ : ∃ e0, x.elems.take 1 = [e0] := by
        cases hx : x.elems with
        | nil => rw [hx] at hxe; simp at hxe
        | cons a l => exact ⟨a, rfl⟩
      have ht := ownE_take HS.out.elems rfl (show 1 ≤ x.elems.length from hxe)
      rw [he0] at ht
      have HE0 : Hid (e0.name.size ≤ maxLen) := Lib.hid (ht.2 e0 (by simp))
      have DS : Hid (DrSt p bb w0.heap.size _ w0 ws { x with elems := [e0] } (.slice (some ⟨gq, 0, none⟩) 1 ce) (.slice Al x.limits.length cl)) := Lib.hid (hws ▸ HS.out.setE (Only.refl _ _) ht (fun b hb => .inl hb))
      rw [← hws]
      clear hws ht he0 HS HSZ
      have HSY : Hid (∀ w' : World, Box w' bb 26 #[.slice (some ⟨gq, 0, none⟩) 1 ce, .slice Al x.limits.length cl, .int .i64 x.repeats, .int .i64 x.bonus, .int .i64 x.keeps, .int .i64 x.fall] → w'.cell? ⟨bb, 0, none⟩ = some (.slice (some ⟨gq, 0, none⟩) 1 ce) ∧ w'.cell? ⟨bb, 1, none⟩ = some (.slice Al x.limits.length cl) ∧ w'.cell? ⟨bb, 2, none⟩ = some (.int .i64 x.repeats) ∧ w'.cell? ⟨bb, 3, none⟩ = some (.int .i64 x.bonus) ∧ w'.cell? ⟨bb, 4, none⟩ = some (.int .i64 x.keeps) ∧ w'.cell? ⟨bb, 5, none⟩ = some (.int .i64 x.fall)) := Lib.hid (fun w' b => b.six.1)
      have HC0 : Hid (∀ w' : World, OwnE w' w0.heap.size (.slice (some ⟨gq, 0, none⟩) 1 ce) [e0] → w'.cell? ⟨gq, 0, none⟩ = some (.string e0.name)) := Lib.hid (fun w' o => by obtain ⟨e, h1, ⟨h2, _⟩, _⟩ := ownE_at (k := 0) o (by simp); cases h1; exact h2)
      have hce1 : ¬ (1 : Int) ≤ 0 := by omega
      refine region_pop (S := fun w' => (w'.cell? ⟨bb, 0, none⟩ = some (.slice (some ⟨gq, 0, none⟩) 1 ce) ∧ w'.cell? ⟨bb, 1, none⟩ = some (.slice Al x.limits.length cl) ∧ w'.cell? ⟨bb, 2, none⟩ = some (.int .i64 x.repeats) ∧ w'.cell? ⟨bb, 3, none⟩ = some (.int .i64 x.bonus) ∧ w'.cell? ⟨bb, 4, none⟩ = some (.int .i64 x.keeps) ∧ w'.cell? ⟨bb, 5, none⟩ = some (.int .i64 x.fall)) ∧ w'.cell? ⟨gq, 0, none⟩ = some (.string e0.name)) 7 (by kernel_rfl) (by kernel_rfl) ?_
      simp only [List.take_succ_cons, List.take_zero, List.drop_succ_cons, List.drop_zero]
      refine startL (⟨HSY.out _ (DS.out.kept (Kept.refl ws).drew).box, (DS.out.kept (Kept.refl ws).drew).elems |> fun o => HC0.out _ o⟩) (fun hS0 => ?_)
      obtain ⟨wd, hwd⟩ : ∃ y : World, y = ws.drew := ⟨_, rfl⟩
      rw [← hwd] at hS0 ⊢
      have D0 := Lib.hid (DS.out.kept (hwd ▸ (Kept.refl ws).drew))
      clear hwd
      refine takeL (i := 0) (v := ?_) rfl (by kernel_rfl) (by kernel_rfl) (by kernel_rfl) (fun _ _ _ h => h) (Or.inl ⟨by rfl, ?_⟩) hS0 ?_
      rotate_left 1
      · (intro w hSw; (try dsimp only at hSw); go_simp; try with_reducible rfl)
      try simp only [Act.put, List.setIfInBounds_toArray, List.set_cons_zero, List.set_cons_succ]
      refine takeL (i := 1) (v := ?_) rfl (by kernel_rfl) (by kernel_rfl) (by kernel_rfl) (fun _ _ _ h => h) (Or.inl ⟨by rfl, ?_⟩) hS0 ?_
      rotate_left 1
      · (intro w hSw; (try dsimp only at hSw); go_simp; try with_reducible rfl)
      try simp only [Act.put, List.setIfInBounds_toArray, List.set_cons_zero, List.set_cons_succ]
      refine takeL (i := 2) (v := ?_) rfl (by kernel_rfl) (by kernel_rfl) (by kernel_rfl) (fun _ _ _ h => h) (Or.inl ⟨by rfl, ?_⟩) hS0 ?_
      rotate_left 1
      · (intro w hSw; (try dsimp only at hSw); go_simp; try with_reducible rfl)
      try simp only [Act.put, List.setIfInBounds_toArray, List.set_cons_zero, List.set_cons_succ]
      refine takeL (i := 3) (v := ?_) rfl (by kernel_rfl) (by kernel_rfl) (by kernel_rfl) (fun _ _ _ h => h) (Or.inl ⟨by rfl, ?_⟩) hS0 ?_
      rotate_left 1
      · (intro w hSw; (try dsimp only at hSw); go_simp; try with_reducible rfl)
      try simp only [Act.put, List.setIfInBounds_toArray, List.set_cons_zero, List.set_cons_succ]
      refine takeL (i := 4) (v := ?_) rfl (by kernel_rfl) (by kernel_rfl) (by kernel_rfl) (fun _ _ _ h => h) (Or.inl ⟨by rfl, ?_⟩) hS0 ?_
      rotate_left 1
      · (intro w hSw; (try dsimp only at hSw); go_simp; try with_reducible rfl)
      try simp only [Act.put, List.setIfInBounds_toArray, List.set_cons_zero, List.set_cons_succ]
      refine takeL (i := 5) (v := ?_) rfl (by kernel_rfl) (by kernel_rfl) (by kernel_rfl) (fun _ _ _ h => h) (Or.inl ⟨by rfl, ?_⟩) hS0 ?_
      rotate_left 1
      · (intro w hSw; (try dsimp only at hSw); go_simp; try with_reducible rfl)
      try simp only [Act.put, List.setIfInBounds_toArray, List.set_cons_zero, List.set_cons_succ]
      refine onlyL (i := 6) rfl (by kernel_rfl) (fun K hK => ?_)
      have B2 := BR.out.only D0.out.only (not_one hrp)
      obtain ⟨x2, y2⟩ := B2.six
      go_simp
      clear x2 y2
      obtain ⟨wz, hwz, Bz, Qz⟩ := set6 B2 (.slice (some ⟨gq, 0, none⟩) 1 ce) (Value.slice Al x.limits.length cl) (.int .i64 x.repeats) (.int .i64 x.bonus) (.int .i64 x.keeps) (.int .i64 x.fall)
      rw [← hwz]
      clear hwz
      have hbr : bb ≠ w.heap.size := by have := D0.out.hbb; omega
      have hgr : gq ≠ w.heap.size := by have := (own_fp D0.out.elems.1 gq (by simp [fp_some])).1; omega
      refine hK.out _ _ (⟨HSY.out _ (D0.out.box.only Qz (not_one hbr)), HC0.out _ (D0.out.elems.only Qz (fun b hb => by rw [fp_some, List.mem_singleton] at hb; subst hb; exact not_one hgr))⟩) (fun hS1 => ?_)
      clear hK K hS0
      try simp only [Act.put, List.setIfInBounds_toArray, List.set_cons_zero, List.set_cons_succ]
      refine doneL (by kernel_rfl) ?_
      clear hS1
      go_wp2_with fail
      obtain ⟨cc, ff⟩ := Bz.six
      refine bodyPost_ret (v := .tuple #[.agg #[.slice (some ⟨gq, 0, none⟩) 1 ce, Value.slice Al x.limits.length cl, .int .i64 x.repeats, .int .i64 x.bonus, .int .i64 x.keeps, .int .i64 x.fall], .string e0.name]) (by simp [results, Tryz.results11, go_sem, cc, ff]) rfl ?_
      obtain ⟨f1, f2⟩ := FIN.out _ wz _ (.string e0.name) { x with elems := [e0] } D0.out.own D0.out.only Qz ⟨by simp, h6⟩
      exact ⟨⟨_, HE0.out, f1⟩, f2⟩
    · have hxe' : ¬ (0 : Int) < (x.elems.length : Int) := by omega
      go_upto_region 6 with (fail)
      clear xb yb hxe'
      refine region_pop (S := fun w' => w'.cell? ⟨bb, 0, none⟩ = some (.slice Ae x.elems.length ce) ∧ w'.cell? ⟨bb, 1, none⟩ = some (.slice Al x.limits.length cl) ∧ w'.cell? ⟨bb, 2, none⟩ = some (.int .i64 x.repeats) ∧ w'.cell? ⟨bb, 3, none⟩ = some (.int .i64 x.bonus) ∧ w'.cell? ⟨bb, 4, none⟩ = some (.int .i64 x.keeps) ∧ w'.cell? ⟨bb, 5, none⟩ = some (.int .i64 x.fall)) 7 (by kernel_rfl) (by kernel_rfl) ?_
      simp only [List.take_succ_cons, List.take_zero, List.drop_succ_cons, List.drop_zero]
      refine startL (HSX.out _ (HS.out.kept (Kept.refl w3).drew).box) (fun hS0 => ?_)
      obtain ⟨wd, hwd⟩ : ∃ y : World, y = w3.drew := ⟨_, rfl⟩
      rw [← hwd] at hS0 ⊢
      have D0 := Lib.hid (HS.out.kept (hwd ▸ (Kept.refl w3).drew))
      clear hwd
      refine takeL (i := 0) (v := ?_) rfl (by kernel_rfl) (by kernel_rfl) (by kernel_rfl) (fun _ _ _ h => h) (Or.inl ⟨by rfl, ?_⟩) hS0 ?_
      rotate_left 1
      · (intro w hSw; (try dsimp only at hSw); go_simp; try with_reducible rfl)
      try simp only [Act.put, List.setIfInBounds_toArray, List.set_cons_zero, List.set_cons_succ]
      refine takeL (i := 1) (v := ?_) rfl (by kernel_rfl) (by kernel_rfl) (by kernel_rfl) (fun _ _ _ h => h) (Or.inl ⟨by rfl, ?_⟩) hS0 ?_
      rotate_left 1
      · (intro w hSw; (try dsimp only at hSw); go_simp; try with_reducible rfl)
      try simp only [Act.put, List.setIfInBounds_toArray, List.set_cons_zero, List.set_cons_succ]
      refine readyL (rs := [2, 3]) (by kernel_rfl) (by simp) ?_
      refine consL (i := 2) rfl (fun K hK => ?_) (consL (i := 3) rfl (fun K hK => ?_) (allNil))
      ·
        go_simp
        refine (elementNames_any wd).mono ?_
        rintro e w4a ⟨rfl, bn, kn⟩
        have D1 := Lib.hid (D0.out.kept kn)
        have ON := Lib.hid (elN_box bn w0.heap.size D0.out.only.size)
        obtain ⟨gn, hgn⟩ : ∃ b : Nat, b = wd.heap.size := ⟨_, rfl⟩
        have hgp : w0.heap.size ≤ gn := by rw [hgn]; exact D0.out.only.size
        have hgb : bb < gn := by rw [hgn]; exact D0.out.box.lt
        rw [← hgn] at ON ⊢
        have HGF : Hid (∀ b ∈ fp (.slice Ae x.elems.length ce) ++ fp (.slice Al x.limits.length cl), b < gn) := Lib.hid (fun b hb => by rw [hgn]; rcases List.mem_append.1 hb with q | q <;> first | exact (own_fp D0.out.elems.1 b q).2 | exact (own_fp D0.out.lims b q).2)
        clear bn kn hgn
        go_wp2_with fail
        refine hK.out _ _ (HSX.out _ D1.out.box) (fun hS1 => ?_)
        clear hK K hS0
        try simp only [Act.put, List.setIfInBounds_toArray, List.set_cons_zero, List.set_cons_succ]
        refine onlyL (i := 3) rfl (by kernel_rfl) (fun K hK => ?_)
        go_simp
        obtain ⟨w4b, hw4b⟩ : ∃ y : World, y = w4a.alloc (.cells #[.string ⟨#[]⟩, .string ⟨#[88, 88]⟩] 9) := ⟨_, rfl⟩
        have kl : Kept w4a w4b := hw4b ▸ (Kept.refl w4a).alloc _
        have BL := Lib.hid (show Box w4b w4a.heap.size 9 #[.string ⟨#[]⟩, .string ⟨#[88, 88]⟩] from hw4b ▸ Box.new w4a _ _ _ rfl)
        have D2 := Lib.hid (D1.out.kept kl)
        obtain ⟨gl, hgl⟩ : ∃ b : Nat, b = w4a.heap.size := ⟨_, rfl⟩
        rw [← hw4b, ← hgl]
        rw [← hgl] at BL
        replace ON := Lib.hid (ON.out.kept kl)
        clear hw4b hgl kl
        refine hK.out _ _ (HSX.out _ D2.out.box) (fun hS2 => ?_)
        clear hK K hS1
        try simp only [Act.put, List.setIfInBounds_toArray, List.set_cons_zero, List.set_cons_succ]
        refine onlyL (i := 4) rfl (by kernel_rfl) (fun K hK => ?_)
        rw [if_pos (wanted_none rfl _)]
        refine wp_append_SX w4b _ _ rfl w0.heap.size (.slice (some ⟨gn, 0, none⟩) 24 24) elN rfl ON.out (.slice (some ⟨gl, 0, none⟩) 2 2) [(⟨#[]⟩ : ByteArray), ⟨#[88, 88]⟩] rfl (strs_lit [(⟨#[]⟩ : ByteArray), ⟨#[88, 88]⟩] BL.out rfl (by decide) (by decide)) (by decide) D2.out.only.size ?_
        intro v4 w4 o4 on4 f4
        have D4 := Lib.hid (D2.out.far_ (N := gn) on4 (fun b hb => by rw [fp_some, List.mem_singleton] at hb; (try dsimp only at hb); omega) hgb HGF.out hgp)
        have OS := Lib.hid o4
        obtain ⟨A4, cp4, rfl, _⟩ := own_form o4.1
        have hd4 : Hid (∀ a, A4 = some a → a.block ≠ p) := Lib.hid (fun a e => by subst e; have := (own_fp OS.out.1 a.block (by simp [fp_some])).1; omega)
        have hl26 : Hid (elN.length + 2 = (elN ++ [(⟨#[]⟩ : ByteArray), ⟨#[88, 88]⟩]).length) := Lib.hid (by rw [List.length_append]; rfl)
        clear o4 on4 f4
        refine hK.out _ _ (HSX.out _ D4.out.box) (fun hS3 => ?_)
        clear hK K hS2
        try simp only [Act.put, List.setIfInBounds_toArray, List.set_cons_zero, List.set_cons_succ]
        refine onlyL (i := 5) rfl (by kernel_rfl) (fun K hK => ?_)
        go_simp
        with_reducible refine (of_any p _ A4 (elN.length + 2) cp4 (elN ++ [(⟨#[]⟩ : ByteArray), ⟨#[88, 88]⟩]) w4 D4.out.cur (by omega) (by have h26 := OS.out.strs; rw [← hl26.out] at h26; exact h26) hl26.out (by decide) (by decide) hd4.out).mono ?_
        rintro e w5 ⟨x5, rfl, hx5, c5, on5⟩
        have D5 := Lib.hid (D4.out.drawn c5 on5)
        have HX5 : Hid (x5.size ≤ maxLen) := Lib.hid (OS.out.2 x5 hx5)
        clear c5 on5 hx5
        go_wp2_with fail
        refine hK.out _ _ (HSX.out _ D5.out.box) (fun hS4 => ?_)
        clear hK K hS3
        try simp only [Act.put, List.setIfInBounds_toArray, List.set_cons_zero, List.set_cons_succ]
        refine onlyL (i := 6) rfl (by kernel_rfl) (fun K hK => ?_)
        have B2 := BR.out.only D5.out.only (not_one hrp)
        obtain ⟨x2, y2⟩ := B2.six
        go_simp
        clear x2 y2
        obtain ⟨wz, hwz, Bz, Qz⟩ := set6 B2 (Value.slice Ae x.elems.length ce) (Value.slice Al x.limits.length cl) (.int .i64 x.repeats) (.int .i64 x.bonus) (.int .i64 x.keeps) (.int .i64 x.fall)
        rw [← hwz]
        clear hwz
        have hbr : bb ≠ w.heap.size := by have := D5.out.hbb; omega
        refine hK.out _ _ (HSX.out _ (D5.out.box.only Qz (not_one hbr))) (fun hS5 => ?_)
        clear hK K hS4
        try simp only [Act.put, List.setIfInBounds_toArray, List.set_cons_zero, List.set_cons_succ]
        refine doneL (by kernel_rfl) ?_
        clear hS5
        go_wp2_with fail
        obtain ⟨cc, ff⟩ := Bz.six
        refine bodyPost_ret (v := .tuple #[.agg #[Value.slice Ae x.elems.length ce, Value.slice Al x.limits.length cl, .int .i64 x.repeats, .int .i64 x.bonus, .int .i64 x.keeps, .int .i64 x.fall], .string x5]) (by simp [results, Tryz.results11, go_sem, cc, ff]) rfl ?_
        obtain ⟨f1, f2⟩ := FIN.out _ wz _ (.string x5) x D5.out.own D5.out.only Qz ⟨h25, h6⟩
        exact ⟨⟨_, HX5.out, f1⟩, f2⟩
      ·
        go_simp
        obtain ⟨w4a, hw4a⟩ : ∃ y : World, y = wd.alloc (.cells #[.string ⟨#[]⟩, .string ⟨#[88, 88]⟩] 9) := ⟨_, rfl⟩
        have kl : Kept wd w4a := hw4a ▸ (Kept.refl wd).alloc _
        have BL := Lib.hid (show Box w4a wd.heap.size 9 #[.string ⟨#[]⟩, .string ⟨#[88, 88]⟩] from hw4a ▸ Box.new wd _ _ _ rfl)
        have D1 := Lib.hid (D0.out.kept kl)
        obtain ⟨gl, hgl⟩ : ∃ b : Nat, b = wd.heap.size := ⟨_, rfl⟩
        rw [← hw4a, ← hgl]
        rw [← hgl] at BL

        clear hw4a hgl kl
        refine hK.out _ _ (HSX.out _ D1.out.box) (fun hS6 => ?_)
        clear hK K hS0
        try simp only [Act.put, List.setIfInBounds_toArray, List.set_cons_zero, List.set_cons_succ]
        refine onlyL (i := 2) rfl (by kernel_rfl) (fun K hK => ?_)
        go_simp
        refine (elementNames_any w4a).mono ?_
        rintro e w4b ⟨rfl, bn, kn⟩
        have D2 := Lib.hid (D1.out.kept kn)
        have ON := Lib.hid (elN_box bn w0.heap.size D1.out.only.size)
        obtain ⟨gn, hgn⟩ : ∃ b : Nat, b = w4a.heap.size := ⟨_, rfl⟩
        have hgp : w0.heap.size ≤ gn := by rw [hgn]; exact D1.out.only.size
        have hgb : bb < gn := by rw [hgn]; exact D1.out.box.lt
        rw [← hgn] at ON ⊢
        replace BL := Lib.hid (BL.out.kept kn)
        have HGF : Hid (∀ b ∈ fp (.slice Ae x.elems.length ce) ++ fp (.slice Al x.limits.length cl), b < gn) := Lib.hid (fun b hb => by rw [hgn]; rcases List.mem_append.1 hb with q | q <;> first | exact (own_fp D1.out.elems.1 b q).2 | exact (own_fp D1.out.lims b q).2)
        clear bn kn hgn
        go_wp2_with fail
        refine hK.out _ _ (HSX.out _ D2.out.box) (fun hS7 => ?_)
        clear hK K hS6
        try simp only [Act.put, List.setIfInBounds_toArray, List.set_cons_zero, List.set_cons_succ]
        refine onlyL (i := 4) rfl (by kernel_rfl) (fun K hK => ?_)
        rw [if_pos (wanted_none rfl _)]
        refine wp_append_SX w4b _ _ rfl w0.heap.size (.slice (some ⟨gn, 0, none⟩) 24 24) elN rfl ON.out (.slice (some ⟨gl, 0, none⟩) 2 2) [(⟨#[]⟩ : ByteArray), ⟨#[88, 88]⟩] rfl (strs_lit [(⟨#[]⟩ : ByteArray), ⟨#[88, 88]⟩] BL.out rfl (by decide) (by decide)) (by decide) D2.out.only.size ?_
        intro v4 w4 o4 on4 f4
        have D4 := Lib.hid (D2.out.far_ (N := gn) on4 (fun b hb => by rw [fp_some, List.mem_singleton] at hb; (try dsimp only at hb); omega) hgb HGF.out hgp)
        have OS := Lib.hid o4
        obtain ⟨A4, cp4, rfl, _⟩ := own_form o4.1
        have hd4 : Hid (∀ a, A4 = some a → a.block ≠ p) := Lib.hid (fun a e => by subst e; have := (own_fp OS.out.1 a.block (by simp [fp_some])).1; omega)
        have hl26 : Hid (elN.length + 2 = (elN ++ [(⟨#[]⟩ : ByteArray), ⟨#[88, 88]⟩]).length) := Lib.hid (by rw [List.length_append]; rfl)
        clear o4 on4 f4
        refine hK.out _ _ (HSX.out _ D4.out.box) (fun hS8 => ?_)
        clear hK K hS7
        try simp only [Act.put, List.setIfInBounds_toArray, List.set_cons_zero, List.set_cons_succ]
        refine onlyL (i := 5) rfl (by kernel_rfl) (fun K hK => ?_)
        go_simp
        with_reducible refine (of_any p _ A4 (elN.length + 2) cp4 (elN ++ [(⟨#[]⟩ : ByteArray), ⟨#[88, 88]⟩]) w4 D4.out.cur (by omega) (by have h26 := OS.out.strs; rw [← hl26.out] at h26; exact h26) hl26.out (by decide) (by decide) hd4.out).mono ?_
        rintro e w5 ⟨x5, rfl, hx5, c5, on5⟩
        have D5 := Lib.hid (D4.out.drawn c5 on5)
        have HX5 : Hid (x5.size ≤ maxLen) := Lib.hid (OS.out.2 x5 hx5)
        clear c5 on5 hx5
        go_wp2_with fail
        refine hK.out _ _ (HSX.out _ D5.out.box) (fun hS9 => ?_)
        clear hK K hS8
        try simp only [Act.put, List.setIfInBounds_toArray, List.set_cons_zero, List.set_cons_succ]
        refine onlyL (i := 6) rfl (by kernel_rfl) (fun K hK => ?_)
        have B2 := BR.out.only D5.out.only (not_one hrp)
        obtain ⟨x2, y2⟩ := B2.six
        go_simp
        clear x2 y2
        obtain ⟨wz, hwz, Bz, Qz⟩ := set6 B2 (Value.slice Ae x.elems.length ce) (Value.slice Al x.limits.length cl) (.int .i64 x.repeats) (.int .i64 x.bonus) (.int .i64 x.keeps) (.int .i64 x.fall)
        rw [← hwz]
        clear hwz
        have hbr : bb ≠ w.heap.size := by have := D5.out.hbb; omega
        refine hK.out _ _ (HSX.out _ (D5.out.box.only Qz (not_one hbr))) (fun hS10 => ?_)
        clear hK K hS9
        try simp only [Act.put, List.setIfInBounds_toArray, List.set_cons_zero, List.set_cons_succ]
        refine doneL (by kernel_rfl) ?_
        clear hS10
        go_wp2_with fail
        obtain ⟨cc, ff⟩ := Bz.six
        refine bodyPost_ret (v := .tuple #[.agg #[Value.slice Ae x.elems.length ce, Value.slice Al x.limits.length cl, .int .i64 x.repeats, .int .i64 x.bonus, .int .i64 x.keeps, .int .i64 x.fall], .string x5]) (by simp [results, Tryz.results11, go_sem, cc, ff]) rfl ?_
        obtain ⟨f1, f2⟩ := FIN.out _ wz _ (.string x5) x D5.out.own D5.out.only Qz ⟨h25, h6⟩
        exact ⟨⟨_, HX5.out, f1⟩, f2⟩
  | false =>
    go_upto_region 6 with (fail)
    refine region_pop (S := fun w' => w'.cell? ⟨bb, 0, none⟩ = some (.slice Ae x.elems.length ce) ∧ w'.cell? ⟨bb, 1, none⟩ = some (.slice Al x.limits.length cl) ∧ w'.cell? ⟨bb, 2, none⟩ = some (.int .i64 x.repeats) ∧ w'.cell? ⟨bb, 3, none⟩ = some (.int .i64 x.bonus) ∧ w'.cell? ⟨bb, 4, none⟩ = some (.int .i64 x.keeps) ∧ w'.cell? ⟨bb, 5, none⟩ = some (.int .i64 x.fall)) 7 (by kernel_rfl) (by kernel_rfl) ?_
    simp only [List.take_succ_cons, List.take_zero, List.drop_succ_cons, List.drop_zero]
    refine startL (HSX.out _ (HS.out.kept (Kept.refl w3).drew).box) (fun hS0 => ?_)
    obtain ⟨wd, hwd⟩ : ∃ y : World, y = w3.drew := ⟨_, rfl⟩
    rw [← hwd] at hS0 ⊢
    have D0 := Lib.hid (HS.out.kept (hwd ▸ (Kept.refl w3).drew))
    clear hwd
    refine takeL (i := 0) (v := ?_) rfl (by kernel_rfl) (by kernel_rfl) (by kernel_rfl) (fun _ _ _ h => h) (Or.inl ⟨by rfl, ?_⟩) hS0 ?_
    rotate_left 1
    · (intro w hSw; (try dsimp only at hSw); go_simp; try with_reducible rfl)
    try simp only [Act.put, List.setIfInBounds_toArray, List.set_cons_zero, List.set_cons_succ]
    refine takeL (i := 1) (v := ?_) rfl (by kernel_rfl) (by kernel_rfl) (by kernel_rfl) (fun _ _ _ h => h) (Or.inl ⟨by rfl, ?_⟩) hS0 ?_
    rotate_left 1
    · (intro w hSw; (try dsimp only at hSw); go_simp; try with_reducible rfl)
    try simp only [Act.put, List.setIfInBounds_toArray, List.set_cons_zero, List.set_cons_succ]
    refine readyL (rs := [2, 3]) (by kernel_rfl) (by simp) ?_
    refine consL (i := 2) rfl (fun K hK => ?_) (consL (i := 3) rfl (fun K hK => ?_) (allNil))
    ·
      go_simp
      refine (elementNames_any wd).mono ?_
      rintro e w4a ⟨rfl, bn, kn⟩
      have D1 := Lib.hid (D0.out.kept kn)
      have ON := Lib.hid (elN_box bn w0.heap.size D0.out.only.size)
      obtain ⟨gn, hgn⟩ : ∃ b : Nat, b = wd.heap.size := ⟨_, rfl⟩
      have hgp : w0.heap.size ≤ gn := by rw [hgn]; exact D0.out.only.size
      have hgb : bb < gn := by rw [hgn]; exact D0.out.box.lt
      rw [← hgn] at ON ⊢
      have HGF : Hid (∀ b ∈ fp (.slice Ae x.elems.length ce) ++ fp (.slice Al x.limits.length cl), b < gn) := Lib.hid (fun b hb => by rw [hgn]; rcases List.mem_append.1 hb with q | q <;> first | exact (own_fp D0.out.elems.1 b q).2 | exact (own_fp D0.out.lims b q).2)
      clear bn kn hgn
      go_wp2_with fail
      refine hK.out _ _ (HSX.out _ D1.out.box) (fun hS1 => ?_)
      clear hK K hS0
      try simp only [Act.put, List.setIfInBounds_toArray, List.set_cons_zero, List.set_cons_succ]
      refine onlyL (i := 3) rfl (by kernel_rfl) (fun K hK => ?_)
      go_simp
      obtain ⟨w4b, hw4b⟩ : ∃ y : World, y = w4a.alloc (.cells #[.string ⟨#[]⟩, .string ⟨#[88, 88]⟩] 9) := ⟨_, rfl⟩
      have kl : Kept w4a w4b := hw4b ▸ (Kept.refl w4a).alloc _
      have BL := Lib.hid (show Box w4b w4a.heap.size 9 #[.string ⟨#[]⟩, .string ⟨#[88, 88]⟩] from hw4b ▸ Box.new w4a _ _ _ rfl)
      have D2 := Lib.hid (D1.out.kept kl)
      obtain ⟨gl, hgl⟩ : ∃ b : Nat, b = w4a.heap.size := ⟨_, rfl⟩
      rw [← hw4b, ← hgl]
      rw [← hgl] at BL
      replace ON := Lib.hid (ON.out.kept kl)
      clear hw4b hgl kl
      refine hK.out _ _ (HSX.out _ D2.out.box) (fun hS2 => ?_)
      clear hK K hS1
      try simp only [Act.put, List.setIfInBounds_toArray, List.set_cons_zero, List.set_cons_succ]
      refine onlyL (i := 4) rfl (by kernel_rfl) (fun K hK => ?_)
      rw [if_pos (wanted_none rfl _)]
      refine wp_append_SX w4b _ _ rfl w0.heap.size (.slice (some ⟨gn, 0, none⟩) 24 24) elN rfl ON.out (.slice (some ⟨gl, 0, none⟩) 2 2) [(⟨#[]⟩ : ByteArray), ⟨#[88, 88]⟩] rfl (strs_lit [(⟨#[]⟩ : ByteArray), ⟨#[88, 88]⟩] BL.out rfl (by decide) (by decide)) (by decide) D2.out.only.size ?_
      intro v4 w4 o4 on4 f4
      have D4 := Lib.hid (D2.out.far_ (N := gn) on4 (fun b hb => by rw [fp_some, List.mem_singleton] at hb; (try dsimp only at hb); omega) hgb HGF.out hgp)
      have OS := Lib.hid o4
      obtain ⟨A4, cp4, rfl, _⟩ := own_form o4.1
      have hd4 : Hid (∀ a, A4 = some a → a.block ≠ p) := Lib.hid (fun a e => by subst e; have := (own_fp OS.out.1 a.block (by simp [fp_some])).1; omega)
      have hl26 : Hid (elN.length + 2 = (elN ++ [(⟨#[]⟩ : ByteArray), ⟨#[88, 88]⟩]).length) := Lib.hid (by rw [List.length_append]; rfl)
      clear o4 on4 f4
      refine hK.out _ _ (HSX.out _ D4.out.box) (fun hS3 => ?_)
      clear hK K hS2
      try simp only [Act.put, List.setIfInBounds_toArray, List.set_cons_zero, List.set_cons_succ]
      refine onlyL (i := 5) rfl (by kernel_rfl) (fun K hK => ?_)
      go_simp
      with_reducible refine (of_any p _ A4 (elN.length + 2) cp4 (elN ++ [(⟨#[]⟩ : ByteArray), ⟨#[88, 88]⟩]) w4 D4.out.cur (by omega) (by have h26 := OS.out.strs; rw [← hl26.out] at h26; exact h26) hl26.out (by decide) (by decide) hd4.out).mono ?_
      rintro e w5 ⟨x5, rfl, hx5, c5, on5⟩
      have D5 := Lib.hid (D4.out.drawn c5 on5)
      have HX5 : Hid (x5.size ≤ maxLen) := Lib.hid (OS.out.2 x5 hx5)
      clear c5 on5 hx5
      go_wp2_with fail
      refine hK.out _ _ (HSX.out _ D5.out.box) (fun hS4 => ?_)
      clear hK K hS3
      try simp only [Act.put, List.setIfInBounds_toArray, List.set_cons_zero, List.set_cons_succ]
      refine onlyL (i := 6) rfl (by kernel_rfl) (fun K hK => ?_)
      have B2 := BR.out.only D5.out.only (not_one hrp)
      obtain ⟨x2, y2⟩ := B2.six
      go_simp
      clear x2 y2
      obtain ⟨wz, hwz, Bz, Qz⟩ := set6 B2 (Value.slice Ae x.elems.length ce) (Value.slice Al x.limits.length cl) (.int .i64 x.repeats) (.int .i64 x.bonus) (.int .i64 x.keeps) (.int .i64 x.fall)
      rw [← hwz]
      clear hwz
      have hbr : bb ≠ w.heap.size := by have := D5.out.hbb; omega
      refine hK.out _ _ (HSX.out _ (D5.out.box.only Qz (not_one hbr))) (fun hS5 => ?_)
      clear hK K hS4
      try simp only [Act.put, List.setIfInBounds_toArray, List.set_cons_zero, List.set_cons_succ]
      refine doneL (by kernel_rfl) ?_
      clear hS5
      go_wp2_with fail
      obtain ⟨cc, ff⟩ := Bz.six
      refine bodyPost_ret (v := .tuple #[.agg #[Value.slice Ae x.elems.length ce, Value.slice Al x.limits.length cl, .int .i64 x.repeats, .int .i64 x.bonus, .int .i64 x.keeps, .int .i64 x.fall], .string x5]) (by simp [results, Tryz.results11, go_sem, cc, ff]) rfl ?_
      obtain ⟨f1, f2⟩ := FIN.out _ wz _ (.string x5) x D5.out.own D5.out.only Qz ⟨h25, h6⟩
      exact ⟨⟨_, HX5.out, f1⟩, f2⟩
    ·
      go_simp
      obtain ⟨w4a, hw4a⟩ : ∃ y : World, y = wd.alloc (.cells #[.string ⟨#[]⟩, .string ⟨#[88, 88]⟩] 9) := ⟨_, rfl⟩
      have kl : Kept wd w4a := hw4a ▸ (Kept.refl wd).alloc _
      have BL := Lib.hid (show Box w4a wd.heap.size 9 #[.string ⟨#[]⟩, .string ⟨#[88, 88]⟩] from hw4a ▸ Box.new wd _ _ _ rfl)
      have D1 := Lib.hid (D0.out.kept kl)
      obtain ⟨gl, hgl⟩ : ∃ b : Nat, b = wd.heap.size := ⟨_, rfl⟩
      rw [← hw4a, ← hgl]
      rw [← hgl] at BL

      clear hw4a hgl kl
      refine hK.out _ _ (HSX.out _ D1.out.box) (fun hS6 => ?_)
      clear hK K hS0
      try simp only [Act.put, List.setIfInBounds_toArray, List.set_cons_zero, List.set_cons_succ]
      refine onlyL (i := 2) rfl (by kernel_rfl) (fun K hK => ?_)
      go_simp
      refine (elementNames_any w4a).mono ?_
      rintro e w4b ⟨rfl, bn, kn⟩
      have D2 := Lib.hid (D1.out.kept kn)
      have ON := Lib.hid (elN_box bn w0.heap.size D1.out.only.size)
      obtain ⟨gn, hgn⟩ : ∃ b : Nat, b = w4a.heap.size := ⟨_, rfl⟩
      have hgp : w0.heap.size ≤ gn := by rw [hgn]; exact D1.out.only.size
      have hgb : bb < gn := by rw [hgn]; exact D1.out.box.lt
      rw [← hgn] at ON ⊢
      replace BL := Lib.hid (BL.out.kept kn)
      have HGF : Hid (∀ b ∈ fp (.slice Ae x.elems.length ce) ++ fp (.slice Al x.limits.length cl), b < gn) := Lib.hid (fun b hb => by rw [hgn]; rcases List.mem_append.1 hb with q | q <;> first | exact (own_fp D1.out.elems.1 b q).2 | exact (own_fp D1.out.lims b q).2)
      clear bn kn hgn
      go_wp2_with fail
      refine hK.out _ _ (HSX.out _ D2.out.box) (fun hS7 => ?_)
      clear hK K hS6
      try simp only [Act.put, List.setIfInBounds_toArray, List.set_cons_zero, List.set_cons_succ]
      refine onlyL (i := 4) rfl (by kernel_rfl) (fun K hK => ?_)
      rw [if_pos (wanted_none rfl _)]
      refine wp_append_SX w4b _ _ rfl w0.heap.size (.slice (some ⟨gn, 0, none⟩) 24 24) elN rfl ON.out (.slice (some ⟨gl, 0, none⟩) 2 2) [(⟨#[]⟩ : ByteArray), ⟨#[88, 88]⟩] rfl (strs_lit [(⟨#[]⟩ : ByteArray), ⟨#[88, 88]⟩] BL.out rfl (by decide) (by decide)) (by decide) D2.out.only.size ?_
      intro v4 w4 o4 on4 f4
      have D4 := Lib.hid (D2.out.far_ (N := gn) on4 (fun b hb => by rw [fp_some, List.mem_singleton] at hb; (try dsimp only at hb); omega) hgb HGF.out hgp)
      have OS := Lib.hid o4
      obtain ⟨A4, cp4, rfl, _⟩ := own_form o4.1
      have hd4 : Hid (∀ a, A4 = some a → a.block ≠ p) := Lib.hid (fun a e => by subst e; have := (own_fp OS.out.1 a.block (by simp [fp_some])).1; omega)
      have hl26 : Hid (elN.length + 2 = (elN ++ [(⟨#[]⟩ : ByteArray), ⟨#[88, 88]⟩]).length) := Lib.hid (by rw [List.length_append]; rfl)
      clear o4 on4 f4
      refine hK.out _ _ (HSX.out _ D4.out.box) (fun hS8 => ?_)
      clear hK K hS7
      try simp only [Act.put, List.setIfInBounds_toArray, List.set_cons_zero, List.set_cons_succ]
      refine onlyL (i := 5) rfl (by kernel_rfl) (fun K hK => ?_)
      go_simp
      with_reducible refine (of_any p _ A4 (elN.length + 2) cp4 (elN ++ [(⟨#[]⟩ : ByteArray), ⟨#[88, 88]⟩]) w4 D4.out.cur (by omega) (by have h26 := OS.out.strs; rw [← hl26.out] at h26; exact h26) hl26.out (by decide) (by decide) hd4.out).mono ?_
      rintro e w5 ⟨x5, rfl, hx5, c5, on5⟩
      have D5 := Lib.hid (D4.out.drawn c5 on5)
      have HX5 : Hid (x5.size ≤ maxLen) := Lib.hid (OS.out.2 x5 hx5)
      clear c5 on5 hx5
      go_wp2_with fail
      refine hK.out _ _ (HSX.out _ D5.out.box) (fun hS9 => ?_)
      clear hK K hS8
      try simp only [Act.put, List.setIfInBounds_toArray, List.set_cons_zero, List.set_cons_succ]
      refine onlyL (i := 6) rfl (by kernel_rfl) (fun K hK => ?_)
      have B2 := BR.out.only D5.out.only (not_one hrp)
      obtain ⟨x2, y2⟩ := B2.six
      go_simp
      clear x2 y2
      obtain ⟨wz, hwz, Bz, Qz⟩ := set6 B2 (Value.slice Ae x.elems.length ce) (Value.slice Al x.limits.length cl) (.int .i64 x.repeats) (.int .i64 x.bonus) (.int .i64 x.keeps) (.int .i64 x.fall)
      rw [← hwz]
      clear hwz
      have hbr : bb ≠ w.heap.size := by have := D5.out.hbb; omega
      refine hK.out _ _ (HSX.out _ (D5.out.box.only Qz (not_one hbr))) (fun hS10 => ?_)
      clear hK K hS9
      try simp only [Act.put, List.setIfInBounds_toArray, List.set_cons_zero, List.set_cons_succ]
      refine doneL (by kernel_rfl) ?_
      clear hS10
      go_wp2_with fail
      obtain ⟨cc, ff⟩ := Bz.six
      refine bodyPost_ret (v := .tuple #[.agg #[Value.slice Ae x.elems.length ce, Value.slice Al x.limits.length cl, .int .i64 x.repeats, .int .i64 x.bonus, .int .i64 x.keeps, .int .i64 x.fall], .string x5]) (by simp [results, Tryz.results11, go_sem, cc, ff]) rfl ?_
      obtain ⟨f1, f2⟩ := FIN.out _ wz _ (.string x5) x D5.out.own D5.out.only Qz ⟨h25, h6⟩
      exact ⟨⟨_, HX5.out, f1⟩, f2⟩
set_option maxRecDepth 100000 in
set_option maxHeartbeats 16000000 in
theorem drawParseCode_any (v : Value) (w : World) (h : Byts w v) :
    Calls Tryz.prog 14 #[v] w fun e w' => TextPost e ∧ Kept w w' := by
  have HB := Lib.hid h
  obtain ⟨A, n, c, rfl, _, _, _⟩ := h
  go_enter Tryz.func14, Tryz.ntmps14
  go_wp2_with fail
  obtain ⟨A', n', c', e', hnc, hcm, hb⟩ := HB.out
  cases e'
  obtain ⟨w0, hw0⟩ : ∃ x : World, x = w.alloc (.cells #[.slice A n c, .int .i64 0, .int .u64 0] 86) := ⟨_, rfl⟩
  rw [← hw0]
  have C0 : Hid (Cur w0 w.heap.size 0) := Lib.hid (hw0 ▸ Cur.init hnc hcm hb)
  have K0 : Hid (Kept w w0) := Lib.hid (hw0 ▸ (Kept.refl w).alloc _)
  have sz0 : w.heap.size < w0.heap.size := C0.out.lt
  clear hw0 hb hnc hcm
  obtain ⟨p, hp⟩ : ∃ p, p = w.heap.size := ⟨_, rfl⟩
  rw [← hp] at C0 sz0 ⊢
  have FIN : Hid (∀ w3 : World, Only [p] w0 w3 → Kept w w3) := Lib.hid (fun w3 on => on.above K0.out (fun x hx => by rw [List.mem_singleton] at hx; omega))
  clear hp K0
  with_reducible refine (pointsCode_good p 0 w0 C0.out (by omega)).mono ?_
  rintro e w1 ⟨⟨v1, x, rfl, o1, hx⟩, c1, on1⟩
  have HI := Lib.hid o1.code
  have HX := Lib.hid hx
  have C1 := Lib.hid c1
  have N1 := Lib.hid on1
  clear c1 on1 o1 hx
  go_wp2_with fail
  with_reducible refine (cdText_any v1 x w1 HI.out HX.out).mono ?_
  rintro e w2 ⟨rfl, k2⟩
  have C2 := Lib.hid (C1.out.kept k2)
  have N2 := Lib.hid (N1.out.trans (k2.only _))
  have HSZ := Lib.hid (cdT_size HX.out)
  clear k2
  generalize cdT x = s at *
  go_wp2_with fail
  with_reducible refine (one_any p _ 3 w2 C2.out (by omega) (by omega)).mono ?_
  rintro e w3 ⟨b3, rfl, c3, on3⟩
  have C3 := Lib.hid c3
  have N3 := Lib.hid (N2.out.trans on3)
  clear c3 on3
  cases b3 with
  | true =>
    go_wp2_with fail
    with_reducible refine (spoilt_any p _ s ⟨#[48, 49, 32, 65, 90, 10]⟩ w3 C3.out (by omega) (by have := HSZ.out; omega) (by decide) (by decide)).mono ?_
    rintro e w4 ⟨⟨y, rfl, hy⟩, c4, on4⟩
    have HY : Hid (y.size ≤ 3000) := Lib.hid (by have := HSZ.out; omega)
    have N4 := Lib.hid (N3.out.trans on4)
    clear hy c4 on4
    go_wp2_with fail
    go_ret
    exact ⟨⟨_, HY.out, rfl⟩, FIN.out _ N4.out⟩
  | false =>
    go_wp2_with fail
    go_ret
    exact ⟨⟨_, by have := HSZ.out; omega, rfl⟩, FIN.out _ N3.out⟩
end Go.Proofs.YtkekpolfdmmgeaaGreatDoor
