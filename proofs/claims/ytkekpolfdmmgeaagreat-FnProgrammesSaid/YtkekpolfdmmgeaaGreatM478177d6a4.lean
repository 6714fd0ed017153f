/- Contracts of functions that the proof leans on. No condition. -/
import Derived.Test.YtkekpolfdmmgeaaGreatMf2b68357db
/- Draws of codes: a valid code. -/
namespace Go.Proofs.YtkekpolfdmmgeaaGreat
set_option linter.unusedVariables false
set_option linter.unusedSimpArgs false
set_option linter.unnecessarySimpa false
open Go.RowKit Go.Lib

/-- what a draw of a valid code leaves -/
def PcdPost (w : World) (e : Ending) (w' : World) : Prop := ∃ v c, e = .returned v ∧ OwnK w' w.heap.size v c ∧ 1 ≤ c.elems.length ∧ c.elems.length ≤ 24 ∧ c.limits.length = 5
def PcgPost (w : World) (e : Ending) (w' : World) : Prop := ∃ v c, e = .returned v ∧ OwnK w' w.heap.size v c ∧ codeB c = true
/-- a block that the code under construction does not touch -/
structure Aside (g : Nat) (t : TypeId) (cs : Array Value) (p bb : Nat) (wr : World) (ev : Value) : Prop where
  box : Box wr g t cs
  np : g ≠ p
  nb : g ≠ bb
  ne : g ∉ fp ev
section
variable {g : Nat} {t : TypeId} {cs : Array Value} {p bb : Nat} {wr w' : World} {ev : Value}
theorem Aside.drawn (H : Aside g t cs p bb wr ev) (on : Only [p] wr w') : Aside g t cs p bb w' ev := ⟨H.box.only on (not_one H.np), H.np, H.nb, H.ne⟩
theorem Aside.kept (H : Aside g t cs p bb wr ev) (k : Kept wr w') : Aside g t cs p bb w' ev := ⟨H.box.kept k, H.np, H.nb, H.ne⟩
theorem Aside.setE (H : Aside g t cs p bb wr ev) {v' : Value} (on : Only (fp ev) wr w') (f : ∀ b ∈ fp v', b ∈ fp ev ∨ b = wr.heap.size) : Aside g t cs p bb (w'.setCell ⟨bb, 0, none⟩ v') v' := by
  have hl := H.box.lt
  refine ⟨(H.box.only on H.ne).far _ H.nb _, H.np, H.nb, fun hb => ?_⟩
  rcases f g hb with q | q
  · exact H.ne q
  · omega
end
theorem elementNames_any (w : World) :
    Calls Tryz.prog 38 #[] w fun e w' => e = .returned (.slice (some ⟨w.heap.size, 0, none⟩) 24 24) ∧ Box w' w.heap.size 9 (elN.map Value.string).toArray ∧ Kept w w' := by
  go_enter Tryz.func38, Tryz.ntmps38
  go_wp2_with fail
  go_ret
  exact ⟨rfl, Box.new w _ _ _ rfl, (Kept.refl w).alloc _⟩
set_option maxRecDepth 100000 in
set_option maxHeartbeats 16000000 in
theorem pointsCode_good (p m : Nat) (w : World) (h : Cur w p m) (hm : m ≤ 1000000000) :
    Calls Tryz.prog 72 #[.pointer (some ⟨p, 0, none⟩)] w fun e w' => PcgPost w e w' ∧ Cur w' p (m + 400) ∧ Only [p] w w' := by
  have hpl := h.lt
  have CW := Lib.hid h
  clear h
  go_enter Tryz.func72, Tryz.ntmps72
  go_wp2_with fail
  obtain ⟨w0, hw0⟩ : ∃ x : World, x = w.alloc (.cells #[.slice none 0 0, .slice none 0 0, .int .i64 0, .int .i64 0, .int .i64 0, .int .i64 0] 26) := ⟨_, rfl⟩
  rw [← hw0]
  have BR := Lib.hid (show Box w0 w.heap.size 26 #[.slice none 0 0, .slice none 0 0, .int .i64 0, .int .i64 0, .int .i64 0, .int .i64 0] from hw0 ▸ Box.new w _ _ _ rfl)
  have K0 : Hid (Kept w w0) := Lib.hid (hw0 ▸ (Kept.refl w).alloc _)
  have C0 := Lib.hid (CW.out.kept K0.out)
  have sz0 : w.heap.size < w0.heap.size := by rw [hw0]; simp
  have hpl0 : p < w0.heap.size := by omega
  have N0 : Hid (Only [p] w0 w0) := Lib.hid (Only.refl _ _)
  have FIN : Hid (∀ (bb M : Nat) (wr w9 : World) (c : CodeD) (ev lv : Value), DrSt p bb w0.heap.size M w0 wr c ev lv → Only [w.heap.size] wr w9 → M ≤ m + 400 → 1 ≤ c.elems.length → c.elems.length ≤ 24 → c.limits.length = 5 → ElOk 24 c →
      PcgPost w (.returned (.agg #[ev, lv, .int .i64 c.repeats, .int .i64 c.bonus, .int .i64 c.keeps, .int .i64 c.fall])) w9 ∧ Cur w9 p (m + 400) ∧ Only [p] w w9) := Lib.hid (fun bb M wr w9 c ev lv H q h1 h2 h3 h4 hel => by
    refine ⟨⟨_, c, rfl, OwnK.base (base := w0.heap.size) (H.own.only q (fun b hb => not_one (by have := H.own.fps b hb; omega))) (by omega), hel.code h2 h3 h4⟩, (H.cur.far q (fun x hx => by rw [List.mem_singleton] at hx; omega)).le h1, ?_⟩
    exact ((K0.out.only _).trans H.only).overD q (fun x hx => by rw [List.mem_singleton] at hx; omega))
  clear hw0 CW
  with_reducible refine (pick_any p _ 3 w0 C0.out (by omega) (by omega)).mono ?_
  rintro e w1 ⟨x1, rfl, ⟨lo1, hi1⟩, c1, on1⟩
  have C2 := Lib.hid c1
  have N2 := Lib.hid (N0.out.trans on1)
  clear c1 on1
  have hi1b : x1 < 3 := hi1 (by omega)
  clear hi1
  go_wp2_with fail
  obtain ⟨wb3, hwb3⟩ : ∃ x : World, x = w1.alloc (.cells #[.int .i64 0, .int .i64 10, .int .i64 20] 3) := ⟨_, rfl⟩
  rw [← hwb3]
  have kb3 : Kept w1 wb3 := hwb3 ▸ (Kept.refl w1).alloc _
  have B3 : Box wb3 w1.heap.size 3 #[.int .i64 0, .int .i64 10, .int .i64 20] := hwb3 ▸ Box.new w1 _ _ _ rfl
  have C3 := Lib.hid (C2.out.kept kb3)
  have N3 := Lib.hid (N2.out.trans (kb3.only _))
  have hp3 : w1.heap.size ≠ p := Nat.ne_of_gt C2.out.lt
  clear hwb3 kb3
  with_reducible refine (among_lit p _ w1.heap.size 3 [0, 10, 20] wb3 C3.out (by omega) B3 hp3 rfl (by omega) (by omega)).mono ?_
  rintro e w4 ⟨x4, rfl, hx4, c4, on4⟩
  have C5 := Lib.hid c4
  have N5 := Lib.hid (N3.out.trans on4)
  clear c4 on4
  have HX4 := Lib.hid hx4
  clear hx4
  go_wp2_with fail
  obtain ⟨wb6, hwb6⟩ : ∃ x : World, x = w4.alloc (.cells #[.int .i64 50, .int .i64 70, .int .i64 80, .int .i64 100] 3) := ⟨_, rfl⟩
  rw [← hwb6]
  have kb6 : Kept w4 wb6 := hwb6 ▸ (Kept.refl w4).alloc _
  have B6 : Box wb6 w4.heap.size 3 #[.int .i64 50, .int .i64 70, .int .i64 80, .int .i64 100] := hwb6 ▸ Box.new w4 _ _ _ rfl
  have C6 := Lib.hid (C5.out.kept kb6)
  have N6 := Lib.hid (N5.out.trans (kb6.only _))
  have hp6 : w4.heap.size ≠ p := Nat.ne_of_gt C5.out.lt
  clear hwb6 kb6
  with_reducible refine (among_lit p _ w4.heap.size 4 [50, 70, 80, 100] wb6 C6.out (by omega) B6 hp6 rfl (by omega) (by omega)).mono ?_
  rintro e w7 ⟨x7, rfl, hx7, c7, on7⟩
  have C8 := Lib.hid c7
  have N8 := Lib.hid (N6.out.trans on7)
  clear c7 on7
  have HX7 := Lib.hid hx7
  clear hx7
  go_wp2_with fail
  obtain ⟨wb9, hwb9⟩ : ∃ x : World, x = w7.alloc (.cells #[.int .i64 0, .int .i64 100, .int .i64 500] 3) := ⟨_, rfl⟩
  rw [← hwb9]
  have kb9 : Kept w7 wb9 := hwb9 ▸ (Kept.refl w7).alloc _
  have B9 : Box wb9 w7.heap.size 3 #[.int .i64 0, .int .i64 100, .int .i64 500] := hwb9 ▸ Box.new w7 _ _ _ rfl
  have C9 := Lib.hid (C8.out.kept kb9)
  have N9 := Lib.hid (N8.out.trans (kb9.only _))
  have hp9 : w7.heap.size ≠ p := Nat.ne_of_gt C8.out.lt
  clear hwb9 kb9
  with_reducible refine (among_lit p _ w7.heap.size 3 [0, 100, 500] wb9 C9.out (by omega) B9 hp9 rfl (by omega) (by omega)).mono ?_
  rintro e w10 ⟨x10, rfl, hx10, c10, on10⟩
  have C11 := Lib.hid c10
  have N11 := Lib.hid (N9.out.trans on10)
  clear c10 on10
  have HX10 := Lib.hid hx10
  clear hx10
  go_wp2_with fail
  obtain ⟨wb, hwb⟩ : ∃ x : World, x = w10.alloc (.cells #[.slice none 0 0, .slice none 0 0, .int .i64 (1 + x1), .int .i64 x4, .int .i64 x7, .int .i64 x10] 26) := ⟨_, rfl⟩
  rw [← hwb]
  have HD : Hid (DrSt p w10.heap.size w0.heap.size (m + 8) w0 wb ⟨[], [], 1 + x1, x4, x7, x10⟩ (.slice none 0 0) (.slice none 0 0)) := Lib.hid
    ⟨hwb ▸ Box.new w10 _ _ _ rfl, own_nil' _ _, own_nil _ _, (fun b hb => by cases hb), (C11.out.kept (hwb ▸ (Kept.refl w10).alloc _)).le (by omega), N11.out.trans (Kept.only (hwb ▸ (Kept.refl w10).alloc _) _), hpl0, N11.out.size, Nat.le_refl _, (fun b hb => by cases hb)⟩
  obtain ⟨bb, hbb⟩ : ∃ b : Nat, b = w10.heap.size := ⟨_, rfl⟩
  rw [← hbb] at HD ⊢
  clear hwb hbb
  clear C11 N11
  have HXb := HX4
  have HXc := HX7
  have HXd := HX10
  go_loopw [4] (fun i wr => ∃ (k : Nat) (c : CodeD) (ev lv : Value), i = .int .i64 k ∧ k ≤ 5 ∧ c.limits.length = k ∧ c.elems.length = 0 ∧ LimOk c ∧ DrSt p bb w0.heap.size (m + 8 + 2 * k) w0 wr c ev lv) (fun i _ => 5 - (RowKit.intOf i).toNat)
  case atStart => exact ⟨0, _, _, _, rfl, by omega, rfl, rfl, LimOk.nil (by constructor <;> simp only [] <;> omega) HXb.out HXc.out HXd.out rfl, HD.out.le (by omega)⟩
  case round =>
    clear HD
    obtain ⟨k, c, ev, lv, rfl, hk, hl, he, hlim, hst⟩ := hrel
    have HLIM := Lib.hid hlim
    clear hlim
    have HL := Lib.hid hl
    have HE0 := Lib.hid he
    clear hl he
    by_cases hk5 : k < 5
    · have hk5' : (k : Int) < 5 := by omega
      obtain ⟨Al, cl, rfl, _⟩ := own_form hst.lims
      have HST := Lib.hid hst
      clear hst
      have HSB : Hid (∀ (w' : World) (v : Value), Box w' bb 26 #[v, .slice Al c.limits.length cl, .int .i64 c.repeats, .int .i64 c.bonus, .int .i64 c.keeps, .int .i64 c.fall] → w'.cell? ⟨bb, 1, none⟩ = some (.slice Al c.limits.length cl)) := Lib.hid (fun w' v b => b.cell 1)
      go_upto_region 5 with (fail)
      refine region_pop (S := fun w' => w'.cell? ⟨bb, 1, none⟩ = some (.slice Al c.limits.length cl)) 8 (by kernel_rfl) (by kernel_rfl) ?_
      simp only [List.take_succ_cons, List.take_zero, List.drop_succ_cons, List.drop_zero]
      refine startL (HSB.out _ _ (HST.out.kept (Kept.refl wr).drew).box) (fun hS0 => ?_)
      obtain ⟨wd, hwd⟩ : ∃ x : World, x = wr.drew := ⟨_, rfl⟩
      rw [← hwd] at hS0 ⊢
      have D0 := Lib.hid (HST.out.kept (hwd ▸ (Kept.refl wr).drew))
      have hpd : wd.heap.size ≠ p := Nat.ne_of_gt D0.out.cur.lt
      clear hwd
      refine takeL (i := 0) (v := ?_) rfl (by kernel_rfl) (by kernel_rfl) (by kernel_rfl) (fun _ _ _ h => h) (Or.inl ⟨by rfl, ?_⟩) hS0 ?_
      rotate_left 1
      · (intro w hSw; (try dsimp only at hSw); go_simp; try with_reducible rfl)
      try simp only [Act.put, List.setIfInBounds_toArray, List.set_cons_zero, List.set_cons_succ]
      refine takeL (i := 1) (v := ?_) rfl (by kernel_rfl) (by kernel_rfl) (by kernel_rfl) (fun _ _ _ h => h) (Or.inl ⟨by rfl, ?_⟩) hS0 ?_
      rotate_left 1
      · (intro w hSw; (try dsimp only at hSw); go_simp; try with_reducible rfl)
      try simp only [Act.put, List.setIfInBounds_toArray, List.set_cons_zero, List.set_cons_succ]
      refine takeL (i := 2) (v := ?_) rfl (by kernel_rfl) (by kernel_rfl) (by kernel_rfl) (fun _ _ _ h => h) (Or.inl ⟨by rfl, ?_⟩) hS0 ?_
      rotate_left 1
      · (intro w hSw; (try dsimp only at hSw); go_simp; try with_reducible rfl)
      try simp only [Act.put, List.setIfInBounds_toArray, List.set_cons_zero, List.set_cons_succ]
      refine onlyL (i := 3) rfl (by kernel_rfl) (fun K hK => ?_)
      go_simp
      obtain ⟨wa, hwa⟩ : ∃ x : World, x = wd.alloc (.cells #[.int .i64 0, .int .i64 1, .int .i64 2, .int .i64 3, .int .i64 7, .int .i64 9] 3) := ⟨_, rfl⟩
      rw [← hwa]
      have Bwa : Box wa wd.heap.size 3 #[.int .i64 0, .int .i64 1, .int .i64 2, .int .i64 3, .int .i64 7, .int .i64 9] := hwa ▸ Box.new wd _ _ _ rfl
      have Da := Lib.hid (D0.out.kept (hwa ▸ (Kept.refl wd).alloc _))
      clear hwa
      refine hK.out _ _ (HSB.out _ _ Da.out.box) (fun hS1 => ?_)
      clear hK K hS0
      try simp only [Act.put, List.setIfInBounds_toArray, List.set_cons_zero, List.set_cons_succ]
      refine onlyL (i := 4) rfl (by kernel_rfl) (fun K hK => ?_)
      go_simp
      with_reducible refine (among_lit p _ wd.heap.size 6 [0, 1, 2, 3, 7, 9] wa Da.out.cur (by omega) Bwa hpd rfl (by omega) (by omega)).mono ?_
      rintro e w2 ⟨x2, rfl, hx2, c2, on2⟩
      have HX2 := Lib.hid hx2
      clear hx2
      have D2 := Lib.hid (Da.out.drawn c2 on2)
      clear c2 on2 Bwa
      go_wp2_with fail
      refine hK.out _ _ (HSB.out _ _ D2.out.box) (fun hS2 => ?_)
      clear hK K hS1
      try simp only [Act.put, List.setIfInBounds_toArray, List.set_cons_zero, List.set_cons_succ]
      refine onlyL (i := 5) rfl (by kernel_rfl) (fun K hK => ?_)
      go_simp
      obtain ⟨w3, hw3⟩ : ∃ x : World, x = w2.alloc (.cells #[.int .i64 x2] 3) := ⟨_, rfl⟩
      rw [← hw3]
      have Bw3 : Box w3 w2.heap.size 3 #[.int .i64 x2] := hw3 ▸ Box.new w2 _ _ _ rfl
      have D3 := Lib.hid (D2.out.kept (hw3 ▸ (Kept.refl w2).alloc _))
      have sz3 : w0.heap.size ≤ w3.heap.size := D3.out.only.size
      clear hw3
      refine hK.out _ _ (HSB.out _ _ D3.out.box) (fun hS3 => ?_)
      clear hK K hS2
      try simp only [Act.put, List.setIfInBounds_toArray, List.set_cons_zero, List.set_cons_succ]
      refine onlyL (i := 6) rfl (by kernel_rfl) (fun K hK => ?_)
      rw [if_pos (wanted_none rfl _)]
      refine wp_append_ID w3 _ _ rfl w0.heap.size (.slice Al c.limits.length cl) c.limits rfl D3.out.lims _ [x2] rfl (ints_box1 Bw3) (by have := HL.out; simp only [List.length_cons, List.length_nil]; omega) sz3 ?_
      intro v4 w4 o4 on4 f4
      have hl4 : (c.limits ++ [x2]).length = c.limits.length + 1 := by simp
      obtain ⟨A4, c4, rfl, _⟩ := own_form o4
      have ST := Lib.hid (D3.out.setL on4 o4 f4)
      have B4 := (D3.out.midL on4).1
      rw [hl4] at ST
      clear hl4
      clear o4 on4 f4
      refine hK.out _ _ (HSB.out _ _ B4) (fun hS4 => ?_)
      clear hK K hS3
      try simp only [Act.put, List.setIfInBounds_toArray, List.set_cons_zero, List.set_cons_succ]
      refine takeL (i := 7) (v := ?_) rfl (by kernel_rfl) (by kernel_rfl) (by kernel_rfl) (fun _ _ _ h => h) (Or.inl ⟨by rfl, ?_⟩) hS4 ?_
      rotate_left 1
      · (intro w hSw; (try dsimp only at hSw); go_simp; try with_reducible rfl)
      try simp only [Act.put, List.setIfInBounds_toArray, List.set_cons_zero, List.set_cons_succ]
      refine doneL (by kernel_rfl) ?_
      clear hS4
      obtain ⟨x4, y4⟩ := B4.six
      go_wp2_with fail
      go_roundw
      case rel => exact ⟨k + 1, { c with limits := c.limits ++ [x2] }, _, _, by go_num, by omega, by have := HL.out; simp; omega, HE0.out, HLIM.out.push HX2.out, ST.out.le (by omega)⟩
      case measure => simp [RowKit.intOf]; omega
    · obtain rfl : k = 5 := by omega
      have HSE := Lib.hid hst
      clear hst
      have HL5 := Lib.hid HL.out
      have M0 : m + 8 + 2 * 5 = m + 18 := by omega
      rw [M0] at HSE
      clear M0 HL hk hk5
      go_wp2_with fail
      refine (elementNames_any wr).mono ?_
      rintro e wn ⟨rfl, bn, kn⟩
      have hA : Aside wr.heap.size 9 (elN.map Value.string).toArray p bb wn ev := ⟨bn, Nat.ne_of_gt (HSE.out.cur.lt), Nat.ne_of_gt HSE.out.box.lt, fun hb => by have := HSE.out.elems; have := own_fp this.1 _ hb; omega⟩
      have HSN := Lib.hid (HSE.out.kept kn)
      have HAN := Lib.hid hA
      obtain ⟨gn, hgn⟩ : ∃ b : Nat, b = wr.heap.size := ⟨_, rfl⟩
      rw [← hgn] at HAN ⊢
      clear bn kn hA hgn
      clear HSE
      go_wp2_with fail
      go_loopw [36] (fun i wr => ∃ (k : Nat) (c : CodeD) (ev lv : Value), i = .int .i64 k ∧ k ≤ 24 ∧ c.limits.length = 5 ∧ c.elems.length ≤ k ∧ (8 ≤ k → 1 ≤ c.elems.length) ∧ ElOk k c ∧ DrSt p bb w0.heap.size (m + 18 + 8 * k) w0 wr c ev lv ∧ Aside gn 9 (elN.map Value.string).toArray p bb wr ev) (fun i _ => 24 - (RowKit.intOf i).toNat)
      case atStart => exact ⟨0, c, ev, lv, rfl, by omega, HL5.out, by have := HE0.out; omega, fun h => absurd h (by omega), ElOk.zero HLIM.out (List.length_eq_zero_iff.1 HE0.out), HSN.out.le (by omega), HAN.out⟩
      case round =>
        clear HSN HAN HL5 HE0
        obtain ⟨k, c, ev, lv, rfl, hk, hl5, hle, h8, hel, hst, has⟩ := hrel
        have HEL := Lib.hid hel
        clear hel
        have HL5 := Lib.hid hl5
        clear hl5
        by_cases hk24 : k < 24
        · have hk24' : (k : Int) < 24 := by omega
          obtain ⟨z, hz⟩ : ∃ z, elN[k]? = some z := ⟨_, List.getElem?_eq_getElem (by rw [elN_len]; exact hk24)⟩
          have hyz : z.size ≤ maxLen := by have := elN_sz (List.mem_of_getElem? hz); unfold maxLen; omega
          have hN : ((elN.map Value.string).toArray)[k]? = some (.string z) := by rw [List.getElem?_toArray, List.getElem?_map, hz]; rfl
          have hx : wr.cell? ⟨gn, k, none⟩ = some (.string z) := (has.box.cell k).trans hN
          have HZ := Lib.hid hz
          clear hN hz
          have HSW := Lib.hid hst
          have HAW := Lib.hid has
          clear hst has
          go_wp2_with fail
          with_reducible refine (one_any p _ 3 wr HSW.out.cur (by omega) (by omega)).mono ?_
          rintro e w1 ⟨b1, rfl, c1, on1⟩
          have HSQ := Lib.hid (HSW.out.drawn c1 on1)
          have HAQ := Lib.hid (HAW.out.drawn on1)
          clear c1 on1 hx HSW HAW
          obtain ⟨Ae, ce, rfl, _⟩ := own_form HSQ.out.elems.1
          have HSB : Hid (∀ (w' : World) (v : Value), Box w' bb 26 #[.slice Ae c.elems.length ce, v, .int .i64 c.repeats, .int .i64 c.bonus, .int .i64 c.keeps, .int .i64 c.fall] → w'.cell? ⟨bb, 0, none⟩ = some (.slice Ae c.elems.length ce)) := Lib.hid (fun w' v b => b.cell 0)
          cases b1 with
          | true =>
            go_upto_region 10 with (fail)
            refine region_pop (S := fun w' => w'.cell? ⟨bb, 0, none⟩ = some (.slice Ae c.elems.length ce)) 14 (by kernel_rfl) (by kernel_rfl) ?_
            simp only [List.take_succ_cons, List.take_zero, List.drop_succ_cons, List.drop_zero]
            refine startL (HSB.out _ _ (HSQ.out.kept (Kept.refl w1).drew).box) (fun hS0 => ?_)
            obtain ⟨wd, hwd⟩ : ∃ x : World, x = w1.drew := ⟨_, rfl⟩
            rw [← hwd] at hS0 ⊢
            have D0 := Lib.hid (HSQ.out.kept (hwd ▸ (Kept.refl w1).drew))
            have A0 := Lib.hid (HAQ.out.kept (hwd ▸ (Kept.refl w1).drew))
            clear hwd
            refine takeL (i := 0) (v := ?_) rfl (by kernel_rfl) (by kernel_rfl) (by kernel_rfl) (fun _ _ _ h => h) (Or.inl ⟨by rfl, ?_⟩) hS0 ?_
            rotate_left 1
            · (intro w hSw; (try dsimp only at hSw); go_simp; try with_reducible rfl)
            try simp only [Act.put, List.setIfInBounds_toArray, List.set_cons_zero, List.set_cons_succ]
            refine takeL (i := 1) (v := ?_) rfl (by kernel_rfl) (by kernel_rfl) (by kernel_rfl) (fun _ _ _ h => h) (Or.inl ⟨by rfl, ?_⟩) hS0 ?_
            rotate_left 1
            · (intro w hSw; (try dsimp only at hSw); go_simp; try with_reducible rfl)
            try simp only [Act.put, List.setIfInBounds_toArray, List.set_cons_zero, List.set_cons_succ]
            refine takeL (i := 2) (v := ?_) rfl (by kernel_rfl) (by kernel_rfl) (by kernel_rfl) (fun _ _ _ h => h) (Or.inl ⟨by rfl, ?_⟩) hS0 ?_
            rotate_left 1
            · (intro w hSw; (try dsimp only at hSw); go_simp; try with_reducible rfl)
            try simp only [Act.put, List.setIfInBounds_toArray, List.set_cons_zero, List.set_cons_succ]
            refine takeL (i := 3) (v := ?_) rfl (by kernel_rfl) (by kernel_rfl) (by kernel_rfl) (fun _ _ _ h => h) (Or.inl ⟨by rfl, ?_⟩) hS0 ?_
            rotate_left 1
            · (intro w hSw; (try dsimp only at hSw); go_simp; try with_reducible rfl)
            try simp only [Act.put, List.setIfInBounds_toArray, List.set_cons_zero, List.set_cons_succ]
            refine takeL (i := 5) (v := ?_) rfl (by kernel_rfl) (by kernel_rfl) (by kernel_rfl) (fun _ _ _ h => h) (Or.inl ⟨by rfl, ?_⟩) hS0 ?_
            rotate_left 1
            · (intro w hSw; (try dsimp only at hSw); go_simp; try with_reducible rfl)
            try simp only [Act.put, List.setIfInBounds_toArray, List.set_cons_zero, List.set_cons_succ]
            refine takeL (i := 7) (v := ?_) rfl (by kernel_rfl) (by kernel_rfl) (by kernel_rfl) (fun _ _ _ h => h) (Or.inl ⟨by rfl, ?_⟩) hS0 ?_
            rotate_left 1
            · (intro w hSw; (try dsimp only at hSw); go_simp; try with_reducible rfl)
            try simp only [Act.put, List.setIfInBounds_toArray, List.set_cons_zero, List.set_cons_succ]
            refine readyL (rs := [4, 8]) (by kernel_rfl) (by simp) ?_
            refine consL (i := 4) rfl (fun K hK => ?_) (consL (i := 8) rfl (fun K hK => ?_) (allNil))
            ·
              go_simp
              with_reducible refine (pick_any p _ 5 wd D0.out.cur (by omega) (by omega)).mono ?_
              rintro e w1c ⟨x1c, rfl, ⟨lo2, hi2⟩, c2, on2⟩
              have HP1 : Hid (0 ≤ x1c ∧ x1c < 5) := Lib.hid ⟨lo2, hi2 (by omega)⟩
              clear lo2 hi2
              have D1c := Lib.hid (D0.out.drawn c2 on2)
              have A1c := Lib.hid (A0.out.drawn on2)
              skip
              clear c2 on2
              go_wp2_with fail
              refine hK.out _ _ (HSB.out _ _ D1c.out.box) (fun hS1 => ?_)
              clear hK K hS0
              try simp only [Act.put, List.setIfInBounds_toArray, List.set_cons_zero, List.set_cons_succ]
              refine readyL (rs := [6, 8]) (by kernel_rfl) (by simp) ?_
              refine consL (i := 6) rfl (fun K hK => ?_) (consL (i := 8) rfl (fun K hK => ?_) (allNil))
              ·
                go_simp
                with_reducible refine (pick_any p _ 5 w1c D1c.out.cur (by omega) (by omega)).mono ?_
                rintro e w2c ⟨x2c, rfl, ⟨lo2, hi2⟩, c2, on2⟩
                have HP2 : Hid (0 ≤ x2c ∧ x2c < 5) := Lib.hid ⟨lo2, hi2 (by omega)⟩
                clear lo2 hi2
                have D2c := Lib.hid (D1c.out.drawn c2 on2)
                have A2c := Lib.hid (A1c.out.drawn on2)
                skip
                clear c2 on2
                go_wp2_with fail
                refine hK.out _ _ (HSB.out _ _ D2c.out.box) (fun hS2 => ?_)
                clear hK K hS1
                try simp only [Act.put, List.setIfInBounds_toArray, List.set_cons_zero, List.set_cons_succ]
                refine onlyL (i := 8) rfl (by kernel_rfl) (fun K hK => ?_)
                go_simp
                obtain ⟨wl, hwl⟩ : ∃ x : World, x = w2c.alloc (.cells #[.int .i64 1, .int .i64 50, .int .i64 130, .int .i64 420, .int .i64 800, .int .i64 1105, .int .i64 2000] 3) := ⟨_, rfl⟩
                rw [← hwl]
                have Bwl : Box wl w2c.heap.size 3 #[.int .i64 1, .int .i64 50, .int .i64 130, .int .i64 420, .int .i64 800, .int .i64 1105, .int .i64 2000] := hwl ▸ Box.new w2c _ _ _ rfl
                have Dl := Lib.hid (D2c.out.kept (hwl ▸ (Kept.refl w2c).alloc _))
                have Al' := Lib.hid (A2c.out.kept (hwl ▸ (Kept.refl w2c).alloc _))
                have BL := Bwl
                have hpb : w2c.heap.size ≠ p := Nat.ne_of_gt D2c.out.cur.lt
                clear Bwl
                obtain ⟨gl, hgl⟩ : ∃ b : Nat, b = w2c.heap.size := ⟨_, rfl⟩
                rw [← hgl] at BL hpb ⊢
                clear hwl
                clear hgl
                refine hK.out _ _ (HSB.out _ _ Dl.out.box) (fun hS3 => ?_)
                clear hK K hS2
                try simp only [Act.put, List.setIfInBounds_toArray, List.set_cons_zero, List.set_cons_succ]
                refine onlyL (i := 9) rfl (by kernel_rfl) (fun K hK => ?_)
                go_simp
                with_reducible refine (among_lit p _ gl 7 [1, 50, 130, 420, 800, 1105, 2000] wl Dl.out.cur (by omega) BL hpb rfl (by omega) (by omega)).mono ?_
                rintro e wm ⟨xm, rfl, hxm, c2, on2⟩
                have HXM := Lib.hid hxm
                clear hxm
                have Dm := Lib.hid (Dl.out.drawn c2 on2)
                have Am := Lib.hid (Al'.out.drawn on2)
                clear c2 on2 BL
                go_wp2_with fail
                refine hK.out _ _ (HSB.out _ _ Dm.out.box) (fun hS4 => ?_)
                clear hK K hS3
                try simp only [Act.put, List.setIfInBounds_toArray, List.set_cons_zero, List.set_cons_succ]
                refine takeL (i := 10) (v := ?_) rfl (by kernel_rfl) (by kernel_rfl) (by kernel_rfl) (fun _ _ _ h => h) (Or.inl ⟨by rfl, ?_⟩) hS4 ?_
                rotate_left 1
                · (intro w hSw; (try dsimp only at hSw); go_simp; try with_reducible rfl)
                try simp only [Act.put, List.setIfInBounds_toArray, List.set_cons_zero, List.set_cons_succ]
                refine onlyL (i := 11) rfl (by kernel_rfl) (fun K hK => ?_)
                go_simp
                obtain ⟨we, hwe⟩ : ∃ x : World, x = wm.alloc (.cells #[.string z, .int .i64 x1c, .int .i64 x2c, .int .i64 xm] 60) := ⟨_, rfl⟩
                rw [← hwe]
                have Bwe : Box we wm.heap.size 60 #[.string z, .int .i64 x1c, .int .i64 x2c, .int .i64 xm] := hwe ▸ Box.new wm _ _ _ rfl
                have De := Lib.hid (Dm.out.kept (hwe ▸ (Kept.refl wm).alloc _))
                have Ae' := Lib.hid (Am.out.kept (hwe ▸ (Kept.refl wm).alloc _))
                have szE : w0.heap.size ≤ we.heap.size := De.out.only.size
                clear hwe
                refine hK.out _ _ (HSB.out _ _ De.out.box) (fun hS5 => ?_)
                clear hK K hS4
                try simp only [Act.put, List.setIfInBounds_toArray, List.set_cons_zero, List.set_cons_succ]
                refine onlyL (i := 12) rfl (by kernel_rfl) (fun K hK => ?_)
                rw [if_pos (wanted_none rfl _)]
                refine wp_append_ED we _ _ rfl w0.heap.size (.slice Ae c.elems.length ce) c.elems rfl De.out.elems _ [(ElemD.mk z x1c x2c xm)] rfl (elems_one (ElemD.mk z x1c x2c xm) Bwe hyz) (by simp only [List.length_cons, List.length_nil]; omega) szE ?_
                intro v4 w4 o4 on4 f4
                have hl4 : (c.elems ++ [(ElemD.mk z x1c x2c xm)]).length = c.elems.length + 1 := by simp
                obtain ⟨A4, c4, rfl, _⟩ := own_form o4.1
                have ST := Lib.hid (De.out.setE on4 o4 f4)
                have SA := Lib.hid (Ae'.out.setE on4 f4)
                have B4 := (De.out.midE on4).1
                have HL4 := Lib.hid hl4
                rw [hl4] at ST SA
                clear hl4
                clear o4 on4 f4
                refine hK.out _ _ (HSB.out _ _ B4) (fun hS6 => ?_)
                clear hK K hS5
                try simp only [Act.put, List.setIfInBounds_toArray, List.set_cons_zero, List.set_cons_succ]
                refine takeL (i := 13) (v := ?_) rfl (by kernel_rfl) (by kernel_rfl) (by kernel_rfl) (fun _ _ _ h => h) (Or.inl ⟨by rfl, ?_⟩) hS6 ?_
                rotate_left 1
                · (intro w hSw; (try dsimp only at hSw); go_simp; try with_reducible rfl)
                try simp only [Act.put, List.setIfInBounds_toArray, List.set_cons_zero, List.set_cons_succ]
                refine doneL (by kernel_rfl) ?_
                clear hS6
                obtain ⟨x4, y4⟩ := B4.six
                go_wp2_with fail
                go_roundw
                case rel => exact ⟨k + 1, { c with elems := c.elems ++ [ElemD.mk z x1c x2c xm] }, _, _, by go_num, by omega, HL5.out, by rw [HL4.out]; omega, fun _ => by rw [HL4.out]; omega, HEL.out.push HZ.out HP1.out HP2.out (base_lit HXM.out), ST.out.le (by omega), SA.out⟩
                case measure => simp [RowKit.intOf]; omega
              ·
                go_simp
                obtain ⟨wl, hwl⟩ : ∃ x : World, x = w1c.alloc (.cells #[.int .i64 1, .int .i64 50, .int .i64 130, .int .i64 420, .int .i64 800, .int .i64 1105, .int .i64 2000] 3) := ⟨_, rfl⟩
                rw [← hwl]
                have Bwl : Box wl w1c.heap.size 3 #[.int .i64 1, .int .i64 50, .int .i64 130, .int .i64 420, .int .i64 800, .int .i64 1105, .int .i64 2000] := hwl ▸ Box.new w1c _ _ _ rfl
                have Dl := Lib.hid (D1c.out.kept (hwl ▸ (Kept.refl w1c).alloc _))
                have Al' := Lib.hid (A1c.out.kept (hwl ▸ (Kept.refl w1c).alloc _))
                have BL := Bwl
                have hpb : w1c.heap.size ≠ p := Nat.ne_of_gt D1c.out.cur.lt
                clear Bwl
                obtain ⟨gl, hgl⟩ : ∃ b : Nat, b = w1c.heap.size := ⟨_, rfl⟩
                rw [← hgl] at BL hpb ⊢
                clear hwl
                clear hgl
                refine hK.out _ _ (HSB.out _ _ Dl.out.box) (fun hS7 => ?_)
                clear hK K hS1
                try simp only [Act.put, List.setIfInBounds_toArray, List.set_cons_zero, List.set_cons_succ]
                refine onlyL (i := 6) rfl (by kernel_rfl) (fun K hK => ?_)
                go_simp
                with_reducible refine (pick_any p _ 5 wl Dl.out.cur (by omega) (by omega)).mono ?_
                rintro e w2c ⟨x2c, rfl, ⟨lo2, hi2⟩, c2, on2⟩
                have HP2 : Hid (0 ≤ x2c ∧ x2c < 5) := Lib.hid ⟨lo2, hi2 (by omega)⟩
                clear lo2 hi2
                have D2c := Lib.hid (Dl.out.drawn c2 on2)
                have A2c := Lib.hid (Al'.out.drawn on2)
                have BL := BL.only on2 (not_one hpb)
                clear c2 on2
                go_wp2_with fail
                refine hK.out _ _ (HSB.out _ _ D2c.out.box) (fun hS8 => ?_)
                clear hK K hS7
                try simp only [Act.put, List.setIfInBounds_toArray, List.set_cons_zero, List.set_cons_succ]
                refine onlyL (i := 9) rfl (by kernel_rfl) (fun K hK => ?_)
                go_simp
                with_reducible refine (among_lit p _ gl 7 [1, 50, 130, 420, 800, 1105, 2000] w2c D2c.out.cur (by omega) BL hpb rfl (by omega) (by omega)).mono ?_
                rintro e wm ⟨xm, rfl, hxm, c2, on2⟩
                have HXM := Lib.hid hxm
                clear hxm
                have Dm := Lib.hid (D2c.out.drawn c2 on2)
                have Am := Lib.hid (A2c.out.drawn on2)
                clear c2 on2 BL
                go_wp2_with fail
                refine hK.out _ _ (HSB.out _ _ Dm.out.box) (fun hS9 => ?_)
                clear hK K hS8
                try simp only [Act.put, List.setIfInBounds_toArray, List.set_cons_zero, List.set_cons_succ]
                refine takeL (i := 10) (v := ?_) rfl (by kernel_rfl) (by kernel_rfl) (by kernel_rfl) (fun _ _ _ h => h) (Or.inl ⟨by rfl, ?_⟩) hS9 ?_
                rotate_left 1
                · (intro w hSw; (try dsimp only at hSw); go_simp; try with_reducible rfl)
                try simp only [Act.put, List.setIfInBounds_toArray, List.set_cons_zero, List.set_cons_succ]
                refine onlyL (i := 11) rfl (by kernel_rfl) (fun K hK => ?_)
                go_simp
                obtain ⟨we, hwe⟩ : ∃ x : World, x = wm.alloc (.cells #[.string z, .int .i64 x1c, .int .i64 x2c, .int .i64 xm] 60) := ⟨_, rfl⟩
                rw [← hwe]
                have Bwe : Box we wm.heap.size 60 #[.string z, .int .i64 x1c, .int .i64 x2c, .int .i64 xm] := hwe ▸ Box.new wm _ _ _ rfl
                have De := Lib.hid (Dm.out.kept (hwe ▸ (Kept.refl wm).alloc _))
                have Ae' := Lib.hid (Am.out.kept (hwe ▸ (Kept.refl wm).alloc _))
                have szE : w0.heap.size ≤ we.heap.size := De.out.only.size
                clear hwe
                refine hK.out _ _ (HSB.out _ _ De.out.box) (fun hS10 => ?_)
                clear hK K hS9
                try simp only [Act.put, List.setIfInBounds_toArray, List.set_cons_zero, List.set_cons_succ]
                refine onlyL (i := 12) rfl (by kernel_rfl) (fun K hK => ?_)
                rw [if_pos (wanted_none rfl _)]
                refine wp_append_ED we _ _ rfl w0.heap.size (.slice Ae c.elems.length ce) c.elems rfl De.out.elems _ [(ElemD.mk z x1c x2c xm)] rfl (elems_one (ElemD.mk z x1c x2c xm) Bwe hyz) (by simp only [List.length_cons, List.length_nil]; omega) szE ?_
                intro v4 w4 o4 on4 f4
                have hl4 : (c.elems ++ [(ElemD.mk z x1c x2c xm)]).length = c.elems.length + 1 := by simp
                obtain ⟨A4, c4, rfl, _⟩ := own_form o4.1
                have ST := Lib.hid (De.out.setE on4 o4 f4)
                have SA := Lib.hid (Ae'.out.setE on4 f4)
                have B4 := (De.out.midE on4).1
                have HL4 := Lib.hid hl4
                rw [hl4] at ST SA
                clear hl4
                clear o4 on4 f4
                refine hK.out _ _ (HSB.out _ _ B4) (fun hS11 => ?_)
                clear hK K hS10
                try simp only [Act.put, List.setIfInBounds_toArray, List.set_cons_zero, List.set_cons_succ]
                refine takeL (i := 13) (v := ?_) rfl (by kernel_rfl) (by kernel_rfl) (by kernel_rfl) (fun _ _ _ h => h) (Or.inl ⟨by rfl, ?_⟩) hS11 ?_
                rotate_left 1
                · (intro w hSw; (try dsimp only at hSw); go_simp; try with_reducible rfl)
                try simp only [Act.put, List.setIfInBounds_toArray, List.set_cons_zero, List.set_cons_succ]
                refine doneL (by kernel_rfl) ?_
                clear hS11
                obtain ⟨x4, y4⟩ := B4.six
                go_wp2_with fail
                go_roundw
                case rel => exact ⟨k + 1, { c with elems := c.elems ++ [ElemD.mk z x1c x2c xm] }, _, _, by go_num, by omega, HL5.out, by rw [HL4.out]; omega, fun _ => by rw [HL4.out]; omega, HEL.out.push HZ.out HP1.out HP2.out (base_lit HXM.out), ST.out.le (by omega), SA.out⟩
                case measure => simp [RowKit.intOf]; omega
            ·
              go_simp
              obtain ⟨wl, hwl⟩ : ∃ x : World, x = wd.alloc (.cells #[.int .i64 1, .int .i64 50, .int .i64 130, .int .i64 420, .int .i64 800, .int .i64 1105, .int .i64 2000] 3) := ⟨_, rfl⟩
              rw [← hwl]
              have Bwl : Box wl wd.heap.size 3 #[.int .i64 1, .int .i64 50, .int .i64 130, .int .i64 420, .int .i64 800, .int .i64 1105, .int .i64 2000] := hwl ▸ Box.new wd _ _ _ rfl
              have Dl := Lib.hid (D0.out.kept (hwl ▸ (Kept.refl wd).alloc _))
              have Al' := Lib.hid (A0.out.kept (hwl ▸ (Kept.refl wd).alloc _))
              have BL := Bwl
              have hpb : wd.heap.size ≠ p := Nat.ne_of_gt D0.out.cur.lt
              clear Bwl
              obtain ⟨gl, hgl⟩ : ∃ b : Nat, b = wd.heap.size := ⟨_, rfl⟩
              rw [← hgl] at BL hpb ⊢
              clear hwl
              clear hgl
              refine hK.out _ _ (HSB.out _ _ Dl.out.box) (fun hS12 => ?_)
              clear hK K hS0
              try simp only [Act.put, List.setIfInBounds_toArray, List.set_cons_zero, List.set_cons_succ]
              refine onlyL (i := 4) rfl (by kernel_rfl) (fun K hK => ?_)
              go_simp
              with_reducible refine (pick_any p _ 5 wl Dl.out.cur (by omega) (by omega)).mono ?_
              rintro e w1c ⟨x1c, rfl, ⟨lo2, hi2⟩, c2, on2⟩
              have HP1 : Hid (0 ≤ x1c ∧ x1c < 5) := Lib.hid ⟨lo2, hi2 (by omega)⟩
              clear lo2 hi2
              have D1c := Lib.hid (Dl.out.drawn c2 on2)
              have A1c := Lib.hid (Al'.out.drawn on2)
              have BL := BL.only on2 (not_one hpb)
              clear c2 on2
              go_wp2_with fail
              refine hK.out _ _ (HSB.out _ _ D1c.out.box) (fun hS13 => ?_)
              clear hK K hS12
              try simp only [Act.put, List.setIfInBounds_toArray, List.set_cons_zero, List.set_cons_succ]
              refine onlyL (i := 6) rfl (by kernel_rfl) (fun K hK => ?_)
              go_simp
              with_reducible refine (pick_any p _ 5 w1c D1c.out.cur (by omega) (by omega)).mono ?_
              rintro e w2c ⟨x2c, rfl, ⟨lo2, hi2⟩, c2, on2⟩
              have HP2 : Hid (0 ≤ x2c ∧ x2c < 5) := Lib.hid ⟨lo2, hi2 (by omega)⟩
              clear lo2 hi2
              have D2c := Lib.hid (D1c.out.drawn c2 on2)
              have A2c := Lib.hid (A1c.out.drawn on2)
              have BL := BL.only on2 (not_one hpb)
              clear c2 on2
              go_wp2_with fail
              refine hK.out _ _ (HSB.out _ _ D2c.out.box) (fun hS14 => ?_)
              clear hK K hS13
              try simp only [Act.put, List.setIfInBounds_toArray, List.set_cons_zero, List.set_cons_succ]
              refine onlyL (i := 9) rfl (by kernel_rfl) (fun K hK => ?_)
              go_simp
              with_reducible refine (among_lit p _ gl 7 [1, 50, 130, 420, 800, 1105, 2000] w2c D2c.out.cur (by omega) BL hpb rfl (by omega) (by omega)).mono ?_
              rintro e wm ⟨xm, rfl, hxm, c2, on2⟩
              have HXM := Lib.hid hxm
              clear hxm
              have Dm := Lib.hid (D2c.out.drawn c2 on2)
              have Am := Lib.hid (A2c.out.drawn on2)
              clear c2 on2 BL
              go_wp2_with fail
              refine hK.out _ _ (HSB.out _ _ Dm.out.box) (fun hS15 => ?_)
              clear hK K hS14
              try simp only [Act.put, List.setIfInBounds_toArray, List.set_cons_zero, List.set_cons_succ]
              refine takeL (i := 10) (v := ?_) rfl (by kernel_rfl) (by kernel_rfl) (by kernel_rfl) (fun _ _ _ h => h) (Or.inl ⟨by rfl, ?_⟩) hS15 ?_
              rotate_left 1
              · (intro w hSw; (try dsimp only at hSw); go_simp; try with_reducible rfl)
              try simp only [Act.put, List.setIfInBounds_toArray, List.set_cons_zero, List.set_cons_succ]
              refine onlyL (i := 11) rfl (by kernel_rfl) (fun K hK => ?_)
              go_simp
              obtain ⟨we, hwe⟩ : ∃ x : World, x = wm.alloc (.cells #[.string z, .int .i64 x1c, .int .i64 x2c, .int .i64 xm] 60) := ⟨_, rfl⟩
              rw [← hwe]
              have Bwe : Box we wm.heap.size 60 #[.string z, .int .i64 x1c, .int .i64 x2c, .int .i64 xm] := hwe ▸ Box.new wm _ _ _ rfl
              have De := Lib.hid (Dm.out.kept (hwe ▸ (Kept.refl wm).alloc _))
              have Ae' := Lib.hid (Am.out.kept (hwe ▸ (Kept.refl wm).alloc _))
              have szE : w0.heap.size ≤ we.heap.size := De.out.only.size
              clear hwe
              refine hK.out _ _ (HSB.out _ _ De.out.box) (fun hS16 => ?_)
              clear hK K hS15
              try simp only [Act.put, List.setIfInBounds_toArray, List.set_cons_zero, List.set_cons_succ]
              refine onlyL (i := 12) rfl (by kernel_rfl) (fun K hK => ?_)
              rw [if_pos (wanted_none rfl _)]
              refine wp_append_ED we _ _ rfl w0.heap.size (.slice Ae c.elems.length ce) c.elems rfl De.out.elems _ [(ElemD.mk z x1c x2c xm)] rfl (elems_one (ElemD.mk z x1c x2c xm) Bwe hyz) (by simp only [List.length_cons, List.length_nil]; omega) szE ?_
              intro v4 w4 o4 on4 f4
              have hl4 : (c.elems ++ [(ElemD.mk z x1c x2c xm)]).length = c.elems.length + 1 := by simp
              obtain ⟨A4, c4, rfl, _⟩ := own_form o4.1
              have ST := Lib.hid (De.out.setE on4 o4 f4)
              have SA := Lib.hid (Ae'.out.setE on4 f4)
              have B4 := (De.out.midE on4).1
              have HL4 := Lib.hid hl4
              rw [hl4] at ST SA
              clear hl4
              clear o4 on4 f4
              refine hK.out _ _ (HSB.out _ _ B4) (fun hS17 => ?_)
              clear hK K hS16
              try simp only [Act.put, List.setIfInBounds_toArray, List.set_cons_zero, List.set_cons_succ]
              refine takeL (i := 13) (v := ?_) rfl (by kernel_rfl) (by kernel_rfl) (by kernel_rfl) (fun _ _ _ h => h) (Or.inl ⟨by rfl, ?_⟩) hS17 ?_
              rotate_left 1
              · (intro w hSw; (try dsimp only at hSw); go_simp; try with_reducible rfl)
              try simp only [Act.put, List.setIfInBounds_toArray, List.set_cons_zero, List.set_cons_succ]
              refine doneL (by kernel_rfl) ?_
              clear hS17
              obtain ⟨x4, y4⟩ := B4.six
              go_wp2_with fail
              go_roundw
              case rel => exact ⟨k + 1, { c with elems := c.elems ++ [ElemD.mk z x1c x2c xm] }, _, _, by go_num, by omega, HL5.out, by rw [HL4.out]; omega, fun _ => by rw [HL4.out]; omega, HEL.out.push HZ.out HP1.out HP2.out (base_lit HXM.out), ST.out.le (by omega), SA.out⟩
              case measure => simp [RowKit.intOf]; omega
          | false =>
            by_cases hk7 : (k : Int) = 7
            · go_upto_region 10 with (fail)
              refine region_pop (S := fun w' => w'.cell? ⟨bb, 0, none⟩ = some (.slice Ae c.elems.length ce)) 14 (by kernel_rfl) (by kernel_rfl) ?_
              simp only [List.take_succ_cons, List.take_zero, List.drop_succ_cons, List.drop_zero]
              refine startL (HSB.out _ _ (HSQ.out.kept (Kept.refl w1).drew).box) (fun hS0 => ?_)
              obtain ⟨wd, hwd⟩ : ∃ x : World, x = w1.drew := ⟨_, rfl⟩
              rw [← hwd] at hS0 ⊢
              have D0 := Lib.hid (HSQ.out.kept (hwd ▸ (Kept.refl w1).drew))
              have A0 := Lib.hid (HAQ.out.kept (hwd ▸ (Kept.refl w1).drew))
              clear hwd
              refine takeL (i := 0) (v := ?_) rfl (by kernel_rfl) (by kernel_rfl) (by kernel_rfl) (fun _ _ _ h => h) (Or.inl ⟨by rfl, ?_⟩) hS0 ?_
              rotate_left 1
              · (intro w hSw; (try dsimp only at hSw); go_simp; try with_reducible rfl)
              try simp only [Act.put, List.setIfInBounds_toArray, List.set_cons_zero, List.set_cons_succ]
              refine takeL (i := 1) (v := ?_) rfl (by kernel_rfl) (by kernel_rfl) (by kernel_rfl) (fun _ _ _ h => h) (Or.inl ⟨by rfl, ?_⟩) hS0 ?_
              rotate_left 1
              · (intro w hSw; (try dsimp only at hSw); go_simp; try with_reducible rfl)
              try simp only [Act.put, List.setIfInBounds_toArray, List.set_cons_zero, List.set_cons_succ]
              refine takeL (i := 2) (v := ?_) rfl (by kernel_rfl) (by kernel_rfl) (by kernel_rfl) (fun _ _ _ h => h) (Or.inl ⟨by rfl, ?_⟩) hS0 ?_
              rotate_left 1
              · (intro w hSw; (try dsimp only at hSw); go_simp; try with_reducible rfl)
              try simp only [Act.put, List.setIfInBounds_toArray, List.set_cons_zero, List.set_cons_succ]
              refine takeL (i := 3) (v := ?_) rfl (by kernel_rfl) (by kernel_rfl) (by kernel_rfl) (fun _ _ _ h => h) (Or.inl ⟨by rfl, ?_⟩) hS0 ?_
              rotate_left 1
              · (intro w hSw; (try dsimp only at hSw); go_simp; try with_reducible rfl)
              try simp only [Act.put, List.setIfInBounds_toArray, List.set_cons_zero, List.set_cons_succ]
              refine takeL (i := 5) (v := ?_) rfl (by kernel_rfl) (by kernel_rfl) (by kernel_rfl) (fun _ _ _ h => h) (Or.inl ⟨by rfl, ?_⟩) hS0 ?_
              rotate_left 1
              · (intro w hSw; (try dsimp only at hSw); go_simp; try with_reducible rfl)
              try simp only [Act.put, List.setIfInBounds_toArray, List.set_cons_zero, List.set_cons_succ]
              refine takeL (i := 7) (v := ?_) rfl (by kernel_rfl) (by kernel_rfl) (by kernel_rfl) (fun _ _ _ h => h) (Or.inl ⟨by rfl, ?_⟩) hS0 ?_
              rotate_left 1
              · (intro w hSw; (try dsimp only at hSw); go_simp; try with_reducible rfl)
              try simp only [Act.put, List.setIfInBounds_toArray, List.set_cons_zero, List.set_cons_succ]
              refine readyL (rs := [4, 8]) (by kernel_rfl) (by simp) ?_
              refine consL (i := 4) rfl (fun K hK => ?_) (consL (i := 8) rfl (fun K hK => ?_) (allNil))
              ·
                go_simp
                with_reducible refine (pick_any p _ 5 wd D0.out.cur (by omega) (by omega)).mono ?_
                rintro e w1c ⟨x1c, rfl, ⟨lo2, hi2⟩, c2, on2⟩
                have HP1 : Hid (0 ≤ x1c ∧ x1c < 5) := Lib.hid ⟨lo2, hi2 (by omega)⟩
                clear lo2 hi2
                have D1c := Lib.hid (D0.out.drawn c2 on2)
                have A1c := Lib.hid (A0.out.drawn on2)
                skip
                clear c2 on2
                go_wp2_with fail
                refine hK.out _ _ (HSB.out _ _ D1c.out.box) (fun hS1 => ?_)
                clear hK K hS0
                try simp only [Act.put, List.setIfInBounds_toArray, List.set_cons_zero, List.set_cons_succ]
                refine readyL (rs := [6, 8]) (by kernel_rfl) (by simp) ?_
                refine consL (i := 6) rfl (fun K hK => ?_) (consL (i := 8) rfl (fun K hK => ?_) (allNil))
                ·
                  go_simp
                  with_reducible refine (pick_any p _ 5 w1c D1c.out.cur (by omega) (by omega)).mono ?_
                  rintro e w2c ⟨x2c, rfl, ⟨lo2, hi2⟩, c2, on2⟩
                  have HP2 : Hid (0 ≤ x2c ∧ x2c < 5) := Lib.hid ⟨lo2, hi2 (by omega)⟩
                  clear lo2 hi2
                  have D2c := Lib.hid (D1c.out.drawn c2 on2)
                  have A2c := Lib.hid (A1c.out.drawn on2)
                  skip
                  clear c2 on2
                  go_wp2_with fail
                  refine hK.out _ _ (HSB.out _ _ D2c.out.box) (fun hS2 => ?_)
                  clear hK K hS1
                  try simp only [Act.put, List.setIfInBounds_toArray, List.set_cons_zero, List.set_cons_succ]
                  refine onlyL (i := 8) rfl (by kernel_rfl) (fun K hK => ?_)
                  go_simp
                  obtain ⟨wl, hwl⟩ : ∃ x : World, x = w2c.alloc (.cells #[.int .i64 1, .int .i64 50, .int .i64 130, .int .i64 420, .int .i64 800, .int .i64 1105, .int .i64 2000] 3) := ⟨_, rfl⟩
                  rw [← hwl]
                  have Bwl : Box wl w2c.heap.size 3 #[.int .i64 1, .int .i64 50, .int .i64 130, .int .i64 420, .int .i64 800, .int .i64 1105, .int .i64 2000] := hwl ▸ Box.new w2c _ _ _ rfl
                  have Dl := Lib.hid (D2c.out.kept (hwl ▸ (Kept.refl w2c).alloc _))
                  have Al' := Lib.hid (A2c.out.kept (hwl ▸ (Kept.refl w2c).alloc _))
                  have BL := Bwl
                  have hpb : w2c.heap.size ≠ p := Nat.ne_of_gt D2c.out.cur.lt
                  clear Bwl
                  obtain ⟨gl, hgl⟩ : ∃ b : Nat, b = w2c.heap.size := ⟨_, rfl⟩
                  rw [← hgl] at BL hpb ⊢
                  clear hwl
                  clear hgl
                  refine hK.out _ _ (HSB.out _ _ Dl.out.box) (fun hS3 => ?_)
                  clear hK K hS2
                  try simp only [Act.put, List.setIfInBounds_toArray, List.set_cons_zero, List.set_cons_succ]
                  refine onlyL (i := 9) rfl (by kernel_rfl) (fun K hK => ?_)
                  go_simp
                  with_reducible refine (among_lit p _ gl 7 [1, 50, 130, 420, 800, 1105, 2000] wl Dl.out.cur (by omega) BL hpb rfl (by omega) (by omega)).mono ?_
                  rintro e wm ⟨xm, rfl, hxm, c2, on2⟩
                  have HXM := Lib.hid hxm
                  clear hxm
                  have Dm := Lib.hid (Dl.out.drawn c2 on2)
                  have Am := Lib.hid (Al'.out.drawn on2)
                  clear c2 on2 BL
                  go_wp2_with fail
                  refine hK.out _ _ (HSB.out _ _ Dm.out.box) (fun hS4 => ?_)
                  clear hK K hS3
                  try simp only [Act.put, List.setIfInBounds_toArray, List.set_cons_zero, List.set_cons_succ]
                  refine takeL (i := 10) (v := ?_) rfl (by kernel_rfl) (by kernel_rfl) (by kernel_rfl) (fun _ _ _ h => h) (Or.inl ⟨by rfl, ?_⟩) hS4 ?_
                  rotate_left 1
                  · (intro w hSw; (try dsimp only at hSw); go_simp; try with_reducible rfl)
                  try simp only [Act.put, List.setIfInBounds_toArray, List.set_cons_zero, List.set_cons_succ]
                  refine onlyL (i := 11) rfl (by kernel_rfl) (fun K hK => ?_)
                  go_simp
                  obtain ⟨we, hwe⟩ : ∃ x : World, x = wm.alloc (.cells #[.string z, .int .i64 x1c, .int .i64 x2c, .int .i64 xm] 60) := ⟨_, rfl⟩
                  rw [← hwe]
                  have Bwe : Box we wm.heap.size 60 #[.string z, .int .i64 x1c, .int .i64 x2c, .int .i64 xm] := hwe ▸ Box.new wm _ _ _ rfl
                  have De := Lib.hid (Dm.out.kept (hwe ▸ (Kept.refl wm).alloc _))
                  have Ae' := Lib.hid (Am.out.kept (hwe ▸ (Kept.refl wm).alloc _))
                  have szE : w0.heap.size ≤ we.heap.size := De.out.only.size
                  clear hwe
                  refine hK.out _ _ (HSB.out _ _ De.out.box) (fun hS5 => ?_)
                  clear hK K hS4
                  try simp only [Act.put, List.setIfInBounds_toArray, List.set_cons_zero, List.set_cons_succ]
                  refine onlyL (i := 12) rfl (by kernel_rfl) (fun K hK => ?_)
                  rw [if_pos (wanted_none rfl _)]
                  refine wp_append_ED we _ _ rfl w0.heap.size (.slice Ae c.elems.length ce) c.elems rfl De.out.elems _ [(ElemD.mk z x1c x2c xm)] rfl (elems_one (ElemD.mk z x1c x2c xm) Bwe hyz) (by simp only [List.length_cons, List.length_nil]; omega) szE ?_
                  intro v4 w4 o4 on4 f4
                  have hl4 : (c.elems ++ [(ElemD.mk z x1c x2c xm)]).length = c.elems.length + 1 := by simp
                  obtain ⟨A4, c4, rfl, _⟩ := own_form o4.1
                  have ST := Lib.hid (De.out.setE on4 o4 f4)
                  have SA := Lib.hid (Ae'.out.setE on4 f4)
                  have B4 := (De.out.midE on4).1
                  have HL4 := Lib.hid hl4
                  rw [hl4] at ST SA
                  clear hl4
                  clear o4 on4 f4
                  refine hK.out _ _ (HSB.out _ _ B4) (fun hS6 => ?_)
                  clear hK K hS5
                  try simp only [Act.put, List.setIfInBounds_toArray, List.set_cons_zero, List.set_cons_succ]
                  refine takeL (i := 13) (v := ?_) rfl (by kernel_rfl) (by kernel_rfl) (by kernel_rfl) (fun _ _ _ h => h) (Or.inl ⟨by rfl, ?_⟩) hS6 ?_
                  rotate_left 1
                  · (intro w hSw; (try dsimp only at hSw); go_simp; try with_reducible rfl)
                  try simp only [Act.put, List.setIfInBounds_toArray, List.set_cons_zero, List.set_cons_succ]
                  refine doneL (by kernel_rfl) ?_
                  clear hS6
                  obtain ⟨x4, y4⟩ := B4.six
                  go_wp2_with fail
                  go_roundw
                  case rel => exact ⟨k + 1, { c with elems := c.elems ++ [ElemD.mk z x1c x2c xm] }, _, _, by go_num, by omega, HL5.out, by rw [HL4.out]; omega, fun _ => by rw [HL4.out]; omega, HEL.out.push HZ.out HP1.out HP2.out (base_lit HXM.out), ST.out.le (by omega), SA.out⟩
                  case measure => simp [RowKit.intOf]; omega
                ·
                  go_simp
                  obtain ⟨wl, hwl⟩ : ∃ x : World, x = w1c.alloc (.cells #[.int .i64 1, .int .i64 50, .int .i64 130, .int .i64 420, .int .i64 800, .int .i64 1105, .int .i64 2000] 3) := ⟨_, rfl⟩
                  rw [← hwl]
                  have Bwl : Box wl w1c.heap.size 3 #[.int .i64 1, .int .i64 50, .int .i64 130, .int .i64 420, .int .i64 800, .int .i64 1105, .int .i64 2000] := hwl ▸ Box.new w1c _ _ _ rfl
                  have Dl := Lib.hid (D1c.out.kept (hwl ▸ (Kept.refl w1c).alloc _))
                  have Al' := Lib.hid (A1c.out.kept (hwl ▸ (Kept.refl w1c).alloc _))
                  have BL := Bwl
                  have hpb : w1c.heap.size ≠ p := Nat.ne_of_gt D1c.out.cur.lt
                  clear Bwl
                  obtain ⟨gl, hgl⟩ : ∃ b : Nat, b = w1c.heap.size := ⟨_, rfl⟩
                  rw [← hgl] at BL hpb ⊢
                  clear hwl
                  clear hgl
                  refine hK.out _ _ (HSB.out _ _ Dl.out.box) (fun hS7 => ?_)
                  clear hK K hS1
                  try simp only [Act.put, List.setIfInBounds_toArray, List.set_cons_zero, List.set_cons_succ]
                  refine onlyL (i := 6) rfl (by kernel_rfl) (fun K hK => ?_)
                  go_simp
                  with_reducible refine (pick_any p _ 5 wl Dl.out.cur (by omega) (by omega)).mono ?_
                  rintro e w2c ⟨x2c, rfl, ⟨lo2, hi2⟩, c2, on2⟩
                  have HP2 : Hid (0 ≤ x2c ∧ x2c < 5) := Lib.hid ⟨lo2, hi2 (by omega)⟩
                  clear lo2 hi2
                  have D2c := Lib.hid (Dl.out.drawn c2 on2)
                  have A2c := Lib.hid (Al'.out.drawn on2)
                  have BL := BL.only on2 (not_one hpb)
                  clear c2 on2
                  go_wp2_with fail
                  refine hK.out _ _ (HSB.out _ _ D2c.out.box) (fun hS8 => ?_)
                  clear hK K hS7
                  try simp only [Act.put, List.setIfInBounds_toArray, List.set_cons_zero, List.set_cons_succ]
                  refine onlyL (i := 9) rfl (by kernel_rfl) (fun K hK => ?_)
                  go_simp
                  with_reducible refine (among_lit p _ gl 7 [1, 50, 130, 420, 800, 1105, 2000] w2c D2c.out.cur (by omega) BL hpb rfl (by omega) (by omega)).mono ?_
                  rintro e wm ⟨xm, rfl, hxm, c2, on2⟩
                  have HXM := Lib.hid hxm
                  clear hxm
                  have Dm := Lib.hid (D2c.out.drawn c2 on2)
                  have Am := Lib.hid (A2c.out.drawn on2)
                  clear c2 on2 BL
                  go_wp2_with fail
                  refine hK.out _ _ (HSB.out _ _ Dm.out.box) (fun hS9 => ?_)
                  clear hK K hS8
                  try simp only [Act.put, List.setIfInBounds_toArray, List.set_cons_zero, List.set_cons_succ]
                  refine takeL (i := 10) (v := ?_) rfl (by kernel_rfl) (by kernel_rfl) (by kernel_rfl) (fun _ _ _ h => h) (Or.inl ⟨by rfl, ?_⟩) hS9 ?_
                  rotate_left 1
                  · (intro w hSw; (try dsimp only at hSw); go_simp; try with_reducible rfl)
                  try simp only [Act.put, List.setIfInBounds_toArray, List.set_cons_zero, List.set_cons_succ]
                  refine onlyL (i := 11) rfl (by kernel_rfl) (fun K hK => ?_)
                  go_simp
                  obtain ⟨we, hwe⟩ : ∃ x : World, x = wm.alloc (.cells #[.string z, .int .i64 x1c, .int .i64 x2c, .int .i64 xm] 60) := ⟨_, rfl⟩
                  rw [← hwe]
                  have Bwe : Box we wm.heap.size 60 #[.string z, .int .i64 x1c, .int .i64 x2c, .int .i64 xm] := hwe ▸ Box.new wm _ _ _ rfl
                  have De := Lib.hid (Dm.out.kept (hwe ▸ (Kept.refl wm).alloc _))
                  have Ae' := Lib.hid (Am.out.kept (hwe ▸ (Kept.refl wm).alloc _))
                  have szE : w0.heap.size ≤ we.heap.size := De.out.only.size
                  clear hwe
                  refine hK.out _ _ (HSB.out _ _ De.out.box) (fun hS10 => ?_)
                  clear hK K hS9
                  try simp only [Act.put, List.setIfInBounds_toArray, List.set_cons_zero, List.set_cons_succ]
                  refine onlyL (i := 12) rfl (by kernel_rfl) (fun K hK => ?_)
                  rw [if_pos (wanted_none rfl _)]
                  refine wp_append_ED we _ _ rfl w0.heap.size (.slice Ae c.elems.length ce) c.elems rfl De.out.elems _ [(ElemD.mk z x1c x2c xm)] rfl (elems_one (ElemD.mk z x1c x2c xm) Bwe hyz) (by simp only [List.length_cons, List.length_nil]; omega) szE ?_
                  intro v4 w4 o4 on4 f4
                  have hl4 : (c.elems ++ [(ElemD.mk z x1c x2c xm)]).length = c.elems.length + 1 := by simp
                  obtain ⟨A4, c4, rfl, _⟩ := own_form o4.1
                  have ST := Lib.hid (De.out.setE on4 o4 f4)
                  have SA := Lib.hid (Ae'.out.setE on4 f4)
                  have B4 := (De.out.midE on4).1
                  have HL4 := Lib.hid hl4
                  rw [hl4] at ST SA
                  clear hl4
                  clear o4 on4 f4
                  refine hK.out _ _ (HSB.out _ _ B4) (fun hS11 => ?_)
                  clear hK K hS10
                  try simp only [Act.put, List.setIfInBounds_toArray, List.set_cons_zero, List.set_cons_succ]
                  refine takeL (i := 13) (v := ?_) rfl (by kernel_rfl) (by kernel_rfl) (by kernel_rfl) (fun _ _ _ h => h) (Or.inl ⟨by rfl, ?_⟩) hS11 ?_
                  rotate_left 1
                  · (intro w hSw; (try dsimp only at hSw); go_simp; try with_reducible rfl)
                  try simp only [Act.put, List.setIfInBounds_toArray, List.set_cons_zero, List.set_cons_succ]
                  refine doneL (by kernel_rfl) ?_
                  clear hS11
                  obtain ⟨x4, y4⟩ := B4.six
                  go_wp2_with fail
                  go_roundw
                  case rel => exact ⟨k + 1, { c with elems := c.elems ++ [ElemD.mk z x1c x2c xm] }, _, _, by go_num, by omega, HL5.out, by rw [HL4.out]; omega, fun _ => by rw [HL4.out]; omega, HEL.out.push HZ.out HP1.out HP2.out (base_lit HXM.out), ST.out.le (by omega), SA.out⟩
                  case measure => simp [RowKit.intOf]; omega
              ·
                go_simp
                obtain ⟨wl, hwl⟩ : ∃ x : World, x = wd.alloc (.cells #[.int .i64 1, .int .i64 50, .int .i64 130, .int .i64 420, .int .i64 800, .int .i64 1105, .int .i64 2000] 3) := ⟨_, rfl⟩
                rw [← hwl]
                have Bwl : Box wl wd.heap.size 3 #[.int .i64 1, .int .i64 50, .int .i64 130, .int .i64 420, .int .i64 800, .int .i64 1105, .int .i64 2000] := hwl ▸ Box.new wd _ _ _ rfl
                have Dl := Lib.hid (D0.out.kept (hwl ▸ (Kept.refl wd).alloc _))
                have Al' := Lib.hid (A0.out.kept (hwl ▸ (Kept.refl wd).alloc _))
                have BL := Bwl
                have hpb : wd.heap.size ≠ p := Nat.ne_of_gt D0.out.cur.lt
                clear Bwl
                obtain ⟨gl, hgl⟩ : ∃ b : Nat, b = wd.heap.size := ⟨_, rfl⟩
                rw [← hgl] at BL hpb ⊢
                clear hwl
                clear hgl
                refine hK.out _ _ (HSB.out _ _ Dl.out.box) (fun hS12 => ?_)
                clear hK K hS0
                try simp only [Act.put, List.setIfInBounds_toArray, List.set_cons_zero, List.set_cons_succ]
                refine onlyL (i := 4) rfl (by kernel_rfl) (fun K hK => ?_)
                go_simp
                with_reducible refine (pick_any p _ 5 wl Dl.out.cur (by omega) (by omega)).mono ?_
                rintro e w1c ⟨x1c, rfl, ⟨lo2, hi2⟩, c2, on2⟩
                have HP1 : Hid (0 ≤ x1c ∧ x1c < 5) := Lib.hid ⟨lo2, hi2 (by omega)⟩
                clear lo2 hi2
                have D1c := Lib.hid (Dl.out.drawn c2 on2)
                have A1c := Lib.hid (Al'.out.drawn on2)
                have BL := BL.only on2 (not_one hpb)
                clear c2 on2
                go_wp2_with fail
                refine hK.out _ _ (HSB.out _ _ D1c.out.box) (fun hS13 => ?_)
                clear hK K hS12
                try simp only [Act.put, List.setIfInBounds_toArray, List.set_cons_zero, List.set_cons_succ]
                refine onlyL (i := 6) rfl (by kernel_rfl) (fun K hK => ?_)
                go_simp
                with_reducible refine (pick_any p _ 5 w1c D1c.out.cur (by omega) (by omega)).mono ?_
                rintro e w2c ⟨x2c, rfl, ⟨lo2, hi2⟩, c2, on2⟩
                have HP2 : Hid (0 ≤ x2c ∧ x2c < 5) := Lib.hid ⟨lo2, hi2 (by omega)⟩
                clear lo2 hi2
                have D2c := Lib.hid (D1c.out.drawn c2 on2)
                have A2c := Lib.hid (A1c.out.drawn on2)
                have BL := BL.only on2 (not_one hpb)
                clear c2 on2
                go_wp2_with fail
                refine hK.out _ _ (HSB.out _ _ D2c.out.box) (fun hS14 => ?_)
                clear hK K hS13
                try simp only [Act.put, List.setIfInBounds_toArray, List.set_cons_zero, List.set_cons_succ]
                refine onlyL (i := 9) rfl (by kernel_rfl) (fun K hK => ?_)
                go_simp
                with_reducible refine (among_lit p _ gl 7 [1, 50, 130, 420, 800, 1105, 2000] w2c D2c.out.cur (by omega) BL hpb rfl (by omega) (by omega)).mono ?_
                rintro e wm ⟨xm, rfl, hxm, c2, on2⟩
                have HXM := Lib.hid hxm
                clear hxm
                have Dm := Lib.hid (D2c.out.drawn c2 on2)
                have Am := Lib.hid (A2c.out.drawn on2)
                clear c2 on2 BL
                go_wp2_with fail
                refine hK.out _ _ (HSB.out _ _ Dm.out.box) (fun hS15 => ?_)
                clear hK K hS14
                try simp only [Act.put, List.setIfInBounds_toArray, List.set_cons_zero, List.set_cons_succ]
                refine takeL (i := 10) (v := ?_) rfl (by kernel_rfl) (by kernel_rfl) (by kernel_rfl) (fun _ _ _ h => h) (Or.inl ⟨by rfl, ?_⟩) hS15 ?_
                rotate_left 1
                · (intro w hSw; (try dsimp only at hSw); go_simp; try with_reducible rfl)
                try simp only [Act.put, List.setIfInBounds_toArray, List.set_cons_zero, List.set_cons_succ]
                refine onlyL (i := 11) rfl (by kernel_rfl) (fun K hK => ?_)
                go_simp
                obtain ⟨we, hwe⟩ : ∃ x : World, x = wm.alloc (.cells #[.string z, .int .i64 x1c, .int .i64 x2c, .int .i64 xm] 60) := ⟨_, rfl⟩
                rw [← hwe]
                have Bwe : Box we wm.heap.size 60 #[.string z, .int .i64 x1c, .int .i64 x2c, .int .i64 xm] := hwe ▸ Box.new wm _ _ _ rfl
                have De := Lib.hid (Dm.out.kept (hwe ▸ (Kept.refl wm).alloc _))
                have Ae' := Lib.hid (Am.out.kept (hwe ▸ (Kept.refl wm).alloc _))
                have szE : w0.heap.size ≤ we.heap.size := De.out.only.size
                clear hwe
                refine hK.out _ _ (HSB.out _ _ De.out.box) (fun hS16 => ?_)
                clear hK K hS15
                try simp only [Act.put, List.setIfInBounds_toArray, List.set_cons_zero, List.set_cons_succ]
                refine onlyL (i := 12) rfl (by kernel_rfl) (fun K hK => ?_)
                rw [if_pos (wanted_none rfl _)]
                refine wp_append_ED we _ _ rfl w0.heap.size (.slice Ae c.elems.length ce) c.elems rfl De.out.elems _ [(ElemD.mk z x1c x2c xm)] rfl (elems_one (ElemD.mk z x1c x2c xm) Bwe hyz) (by simp only [List.length_cons, List.length_nil]; omega) szE ?_
                intro v4 w4 o4 on4 f4
                have hl4 : (c.elems ++ [(ElemD.mk z x1c x2c xm)]).length = c.elems.length + 1 := by simp
                obtain ⟨A4, c4, rfl, _⟩ := own_form o4.1
                have ST := Lib.hid (De.out.setE on4 o4 f4)
                have SA := Lib.hid (Ae'.out.setE on4 f4)
                have B4 := (De.out.midE on4).1
                have HL4 := Lib.hid hl4
                rw [hl4] at ST SA
                clear hl4
                clear o4 on4 f4
                refine hK.out _ _ (HSB.out _ _ B4) (fun hS17 => ?_)
                clear hK K hS16
                try simp only [Act.put, List.setIfInBounds_toArray, List.set_cons_zero, List.set_cons_succ]
                refine takeL (i := 13) (v := ?_) rfl (by kernel_rfl) (by kernel_rfl) (by kernel_rfl) (fun _ _ _ h => h) (Or.inl ⟨by rfl, ?_⟩) hS17 ?_
                rotate_left 1
                · (intro w hSw; (try dsimp only at hSw); go_simp; try with_reducible rfl)
                try simp only [Act.put, List.setIfInBounds_toArray, List.set_cons_zero, List.set_cons_succ]
                refine doneL (by kernel_rfl) ?_
                clear hS17
                obtain ⟨x4, y4⟩ := B4.six
                go_wp2_with fail
                go_roundw
                case rel => exact ⟨k + 1, { c with elems := c.elems ++ [ElemD.mk z x1c x2c xm] }, _, _, by go_num, by omega, HL5.out, by rw [HL4.out]; omega, fun _ => by rw [HL4.out]; omega, HEL.out.push HZ.out HP1.out HP2.out (base_lit HXM.out), ST.out.le (by omega), SA.out⟩
                case measure => simp [RowKit.intOf]; omega
            · go_wp2_with fail
              go_roundw
              case rel => exact ⟨k + 1, _, _, _, by go_num, by omega, HL5.out, by omega, fun h => by have := h8 (by omega); omega, HEL.out.skip, HSQ.out.le (by omega), HAQ.out⟩
              case measure => simp [RowKit.intOf]; omega
        · obtain rfl : k = 24 := by omega
          have h1 := h8 (by omega)
          have HSW := Lib.hid hst
          clear hst has h8 hk hk24
          go_wp2_with fail
          with_reducible refine (one_any p _ 24 wr HSW.out.cur (by omega) (by omega)).mono ?_
          rintro e w1 ⟨b1, rfl, c1, on1⟩
          have HSE := Lib.hid (HSW.out.drawn c1 on1)
          clear c1 on1 HSW
          cases b1 with
          | false =>
            obtain ⟨Ae, ce, rfl, _⟩ := own_form HSE.out.elems.1
            obtain ⟨Al, cl, rfl, _⟩ := own_form HSE.out.lims
            obtain ⟨xb, yb⟩ := HSE.out.box.six
            have B2 := BR.out.only HSE.out.only (not_one (Nat.ne_of_gt hpl))
            obtain ⟨x2, y2⟩ := B2.six
            go_wp2_with fail
            clear xb yb x2 y2
            obtain ⟨w9, hw9, B9, Q9⟩ := set6 B2 (.slice Ae c.elems.length ce) (.slice Al c.limits.length cl) (.int .i64 c.repeats) (.int .i64 c.bonus) (.int .i64 c.keeps) (.int .i64 c.fall)
            rw [← hw9]
            clear hw9
            obtain ⟨cc, ff⟩ := B9.six
            refine bodyPost_ret (v := .agg #[.slice Ae c.elems.length ce, .slice Al c.limits.length cl, .int .i64 c.repeats, .int .i64 c.bonus, .int .i64 c.keeps, .int .i64 c.fall]) (by simp [results, Tryz.results72, go_sem, cc, ff]) rfl ?_
            exact FIN.out _ _ _ _ c _ _ HSE.out Q9 (by omega) (by omega) (by omega) HL5.out HEL.out
          | true =>
            obtain ⟨xb, yb⟩ := HSE.out.box.six
            go_wp2_with fail
            clear xb yb
            replace HSE := Lib.hid HSE.out.nilE
            obtain ⟨we0, hwe0⟩ : ∃ x : World, x = w1.setCell ⟨bb, 0, none⟩ (.slice none 0 0) := ⟨_, rfl⟩
            rw [← hwe0] at HSE ⊢
            clear hwe0
            refine (elementNames_any we0).mono ?_
            rintro e wn ⟨rfl, bn, kn⟩
            have hA : Aside we0.heap.size 9 (elN.map Value.string).toArray p bb wn (.slice none 0 0) := ⟨bn, Nat.ne_of_gt (HSE.out.cur.lt), Nat.ne_of_gt HSE.out.box.lt, fun hb => by have := HSE.out.elems; have := own_fp this.1 _ hb; omega⟩
            have HSN := Lib.hid (HSE.out.kept kn)
            have HAN := Lib.hid hA
            obtain ⟨gn, hgn⟩ : ∃ b : Nat, b = we0.heap.size := ⟨_, rfl⟩
            rw [← hgn] at HAN ⊢
            clear bn kn hA hgn
            clear HSE h1 hle
            go_wp2_with fail
            go_loopw [67] (fun i wr => ∃ (k : Nat) (c : CodeD) (ev lv : Value), i = .int .i64 k ∧ k ≤ 24 ∧ c.limits.length = 5 ∧ k ≤ c.elems.length ∧ c.elems.length ≤ k ∧ ElOk k c ∧ DrSt p bb w0.heap.size (m + 220 + 4 * k) w0 wr c ev lv ∧ Aside gn 9 (elN.map Value.string).toArray p bb wr ev) (fun i _ => 24 - (RowKit.intOf i).toNat)
            case atStart => exact ⟨0, { c with elems := [] }, _, lv, rfl, by omega, HL5.out, Nat.le_refl _, Nat.le_refl _, HEL.out.nilE, HSN.out.le (by omega), HAN.out⟩
            case round =>
              clear HSN HAN HL5
              obtain ⟨k, c, ev, lv, rfl, hk, hl5, hle, hle2, hel, hst, has⟩ := hrel
              have HEL := Lib.hid hel
              clear hel
              have HL5 := Lib.hid hl5
              clear hl5
              by_cases hk24 : k < 24
              · have hk24' : (k : Int) < 24 := by omega
                obtain ⟨z, hz⟩ : ∃ z, elN[k]? = some z := ⟨_, List.getElem?_eq_getElem (by rw [elN_len]; exact hk24)⟩
                have hyz : z.size ≤ maxLen := by have := elN_sz (List.mem_of_getElem? hz); unfold maxLen; omega
                have hN : ((elN.map Value.string).toArray)[k]? = some (.string z) := by rw [List.getElem?_toArray, List.getElem?_map, hz]; rfl
                have hx : wr.cell? ⟨gn, k, none⟩ = some (.string z) := (has.box.cell k).trans hN
                have HZ := Lib.hid hz
                clear hN hz
                have HSQ := Lib.hid hst
                have HAQ := Lib.hid has
                clear hst has
                obtain ⟨Ae, ce, rfl, _⟩ := own_form HSQ.out.elems.1
                have HSB : Hid (∀ (w' : World) (v : Value), Box w' bb 26 #[.slice Ae c.elems.length ce, v, .int .i64 c.repeats, .int .i64 c.bonus, .int .i64 c.keeps, .int .i64 c.fall] → w'.cell? ⟨bb, 0, none⟩ = some (.slice Ae c.elems.length ce)) := Lib.hid (fun w' v b => b.cell 0)
                go_upto_region 17 with (fail)
                refine region_pop (S := fun w' => w'.cell? ⟨bb, 0, none⟩ = some (.slice Ae c.elems.length ce)) 12 (by kernel_rfl) (by kernel_rfl) ?_
                simp only [List.take_succ_cons, List.take_zero, List.drop_succ_cons, List.drop_zero]
                refine startL (HSB.out _ _ (HSQ.out.kept (Kept.refl wr).drew).box) (fun hS0 => ?_)
                obtain ⟨wd, hwd⟩ : ∃ x : World, x = wr.drew := ⟨_, rfl⟩
                rw [← hwd] at hS0 ⊢
                have D0 := Lib.hid (HSQ.out.kept (hwd ▸ (Kept.refl wr).drew))
                have A0 := Lib.hid (HAQ.out.kept (hwd ▸ (Kept.refl wr).drew))
                clear hwd
                refine takeL (i := 0) (v := ?_) rfl (by kernel_rfl) (by kernel_rfl) (by kernel_rfl) (fun _ _ _ h => h) (Or.inl ⟨by rfl, ?_⟩) hS0 ?_
                rotate_left 1
                · (intro w hSw; (try dsimp only at hSw); go_simp; try with_reducible rfl)
                try simp only [Act.put, List.setIfInBounds_toArray, List.set_cons_zero, List.set_cons_succ]
                refine takeL (i := 1) (v := ?_) rfl (by kernel_rfl) (by kernel_rfl) (by kernel_rfl) (fun _ _ _ h => h) (Or.inl ⟨by rfl, ?_⟩) hS0 ?_
                rotate_left 1
                · (intro w hSw; (try dsimp only at hSw); go_simp; try with_reducible rfl)
                try simp only [Act.put, List.setIfInBounds_toArray, List.set_cons_zero, List.set_cons_succ]
                refine takeL (i := 2) (v := ?_) rfl (by kernel_rfl) (by kernel_rfl) (by kernel_rfl) (fun _ _ _ h => h) (Or.inl ⟨by rfl, ?_⟩) hS0 ?_
                rotate_left 1
                · (intro w hSw; (try dsimp only at hSw); go_simp; try with_reducible rfl)
                try simp only [Act.put, List.setIfInBounds_toArray, List.set_cons_zero, List.set_cons_succ]
                refine takeL (i := 3) (v := ?_) rfl (by kernel_rfl) (by kernel_rfl) (by kernel_rfl) (fun _ _ _ h => h) (Or.inl ⟨by rfl, ?_⟩) hS0 ?_
                rotate_left 1
                · (intro w hSw; (try dsimp only at hSw); go_simp; try with_reducible rfl)
                try simp only [Act.put, List.setIfInBounds_toArray, List.set_cons_zero, List.set_cons_succ]
                refine takeL (i := 5) (v := ?_) rfl (by kernel_rfl) (by kernel_rfl) (by kernel_rfl) (fun _ _ _ h => h) (Or.inl ⟨by rfl, ?_⟩) hS0 ?_
                rotate_left 1
                · (intro w hSw; (try dsimp only at hSw); go_simp; try with_reducible rfl)
                try simp only [Act.put, List.setIfInBounds_toArray, List.set_cons_zero, List.set_cons_succ]
                refine onlyL (i := 4) rfl (by kernel_rfl) (fun K hK => ?_)
                go_simp
                with_reducible refine (pick_any p _ 2 wd D0.out.cur (by omega) (by omega)).mono ?_
                rintro e w1c ⟨x1c, rfl, ⟨lo1, hi1⟩, c2, on2⟩
                have HP1 : Hid (0 ≤ x1c ∧ x1c < 5) := Lib.hid ⟨lo1, by have := hi1 (by omega); omega⟩
                clear lo1 hi1
                have D1c := Lib.hid (D0.out.drawn c2 on2)
                have A1c := Lib.hid (A0.out.drawn on2)
                clear c2 on2
                go_wp2_with fail
                refine hK.out _ _ (HSB.out _ _ D1c.out.box) (fun hS1 => ?_)
                clear hK K hS0
                try simp only [Act.put, List.setIfInBounds_toArray, List.set_cons_zero, List.set_cons_succ]
                refine onlyL (i := 6) rfl (by kernel_rfl) (fun K hK => ?_)
                go_simp
                with_reducible refine (pick_any p _ 900 w1c D1c.out.cur (by omega) (by omega)).mono ?_
                rintro e wm ⟨x2c, rfl, ⟨lo2, hi2⟩, c2, on2⟩
                have Dm := Lib.hid (D1c.out.drawn c2 on2)
                have Am := Lib.hid (A1c.out.drawn on2)
                have HP2 : Hid (1 ≤ 100 + x2c ∧ 100 + x2c ≤ 2000) := Lib.hid (by have := hi2 (by omega); omega)
                have hw2 : IntKind.i64.wrap (100 + x2c) = 100 + x2c := IntWalk.i64_in _ (by have := hi2 (by omega); omega)
                clear c2 on2 hi2
                go_wp2_with fail
                refine hK.out _ _ (HSB.out _ _ Dm.out.box) (fun hS2 => ?_)
                clear hK K hS1
                try simp only [Act.put, List.setIfInBounds_toArray, List.set_cons_zero, List.set_cons_succ]
                refine takeL (i := 7) (v := ?_) rfl (by kernel_rfl) (by kernel_rfl) (by kernel_rfl) (fun _ _ _ h => h) (Or.inl ⟨by rfl, ?_⟩) hS2 ?_
                rotate_left 1
                · (intro w hSw; (try dsimp only at hSw); go_simp; try with_reducible rfl)
                try simp only [Act.put, List.setIfInBounds_toArray, List.set_cons_zero, List.set_cons_succ]
                refine takeL (i := 8) (v := ?_) rfl (by kernel_rfl) (by kernel_rfl) (by kernel_rfl) (fun _ _ _ h => h) (Or.inl ⟨by rfl, ?_⟩) hS2 ?_
                rotate_left 1
                · (intro w hSw; (try dsimp only at hSw); go_simp; try with_reducible rfl)
                try simp only [Act.put, List.setIfInBounds_toArray, List.set_cons_zero, List.set_cons_succ]
                refine onlyL (i := 9) rfl (by kernel_rfl) (fun K hK => ?_)
                go_simp
                obtain ⟨we, hwe⟩ : ∃ x : World, x = wm.alloc (.cells #[.string z, .int .i64 x1c, .int .i64 0, .int .i64 (100 + x2c)] 60) := ⟨_, rfl⟩
                rw [← hwe]
                have Bwe : Box we wm.heap.size 60 #[.string z, .int .i64 x1c, .int .i64 0, .int .i64 (100 + x2c)] := hwe ▸ Box.new wm _ _ _ rfl
                have De := Lib.hid (Dm.out.kept (hwe ▸ (Kept.refl wm).alloc _))
                have Ae' := Lib.hid (Am.out.kept (hwe ▸ (Kept.refl wm).alloc _))
                have szE : w0.heap.size ≤ we.heap.size := De.out.only.size
                clear hwe
                refine hK.out _ _ (HSB.out _ _ De.out.box) (fun hS3 => ?_)
                clear hK K hS2
                try simp only [Act.put, List.setIfInBounds_toArray, List.set_cons_zero, List.set_cons_succ]
                refine onlyL (i := 10) rfl (by kernel_rfl) (fun K hK => ?_)
                rw [if_pos (wanted_none rfl _)]
                refine wp_append_ED we _ _ rfl w0.heap.size (.slice Ae c.elems.length ce) c.elems rfl De.out.elems _ [(ElemD.mk z x1c 0 (100 + x2c))] rfl (elems_one (ElemD.mk z x1c 0 (100 + x2c)) Bwe hyz) (by simp only [List.length_cons, List.length_nil]; omega) szE ?_
                intro v4 w4 o4 on4 f4
                have hl4 : (c.elems ++ [(ElemD.mk z x1c 0 (100 + x2c))]).length = c.elems.length + 1 := by simp
                obtain ⟨A4, c4, rfl, _⟩ := own_form o4.1
                have ST := Lib.hid (De.out.setE on4 o4 f4)
                have SA := Lib.hid (Ae'.out.setE on4 f4)
                have B4 := (De.out.midE on4).1
                have HL4 := Lib.hid hl4
                rw [hl4] at ST SA
                clear hl4
                clear o4 on4 f4
                refine hK.out _ _ (HSB.out _ _ B4) (fun hS4 => ?_)
                clear hK K hS3
                try simp only [Act.put, List.setIfInBounds_toArray, List.set_cons_zero, List.set_cons_succ]
                refine takeL (i := 11) (v := ?_) rfl (by kernel_rfl) (by kernel_rfl) (by kernel_rfl) (fun _ _ _ h => h) (Or.inl ⟨by rfl, ?_⟩) hS4 ?_
                rotate_left 1
                · (intro w hSw; (try dsimp only at hSw); go_simp; try with_reducible rfl)
                try simp only [Act.put, List.setIfInBounds_toArray, List.set_cons_zero, List.set_cons_succ]
                refine doneL (by kernel_rfl) ?_
                clear hS4
                clear hw2
                obtain ⟨x4, y4⟩ := B4.six
                go_wp2_with fail
                go_roundw
                case rel => exact ⟨k + 1, { c with elems := c.elems ++ [ElemD.mk z x1c 0 (100 + x2c)] }, _, _, by go_num, by omega, HL5.out, by rw [HL4.out]; omega, by rw [HL4.out]; omega, HEL.out.push HZ.out HP1.out (by omega) HP2.out, ST.out.le (by omega), SA.out⟩
                case measure => simp [RowKit.intOf]; omega
              · obtain rfl : k = 24 := by omega
                have HSE := Lib.hid hst
                clear hst has hk hk24
                obtain ⟨Ae, ce, rfl, _⟩ := own_form HSE.out.elems.1
                obtain ⟨Al, cl, rfl, _⟩ := own_form HSE.out.lims
                obtain ⟨xb, yb⟩ := HSE.out.box.six
                have B2 := BR.out.only HSE.out.only (not_one (Nat.ne_of_gt hpl))
                obtain ⟨x2, y2⟩ := B2.six
                go_wp2_with fail
                clear xb yb x2 y2
                obtain ⟨w9, hw9, B9, Q9⟩ := set6 B2 (.slice Ae c.elems.length ce) (.slice Al c.limits.length cl) (.int .i64 c.repeats) (.int .i64 c.bonus) (.int .i64 c.keeps) (.int .i64 c.fall)
                rw [← hw9]
                clear hw9
                obtain ⟨cc, ff⟩ := B9.six
                refine bodyPost_ret (v := .agg #[.slice Ae c.elems.length ce, .slice Al c.limits.length cl, .int .i64 c.repeats, .int .i64 c.bonus, .int .i64 c.keeps, .int .i64 c.fall]) (by simp [results, Tryz.results72, go_sem, cc, ff]) rfl ?_
                exact FIN.out _ _ _ _ c _ _ HSE.out Q9 (by omega) (by omega) (by omega) HL5.out HEL.out
theorem pointsCode_any (p m : Nat) (w : World) (h : Cur w p m) (hm : m ≤ 1000000000) :
    Calls Tryz.prog 72 #[.pointer (some ⟨p, 0, none⟩)] w fun e w' => PcdPost w e w' ∧ Cur w' p (m + 400) ∧ Only [p] w w' := by
  refine (pointsCode_good p m w h hm).mono ?_
  rintro e w' ⟨⟨v, c, e1, o, hc⟩, c1, on1⟩
  have := codeB_heads hc
  exact ⟨⟨v, c, e1, o, this.1.1, this.1.2, this.2⟩, c1, on1⟩
end Go.Proofs.YtkekpolfdmmgeaaGreat
