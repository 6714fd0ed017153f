/- Contracts of functions that the proof leans on. No condition. -/
import Derived.Test.YtkekpolfdmmgeaaGreatM095c40c1d4
/- Draws: a code, a list of items, a place and an item. -/
namespace Go.Proofs.YtkekpolfdmmgeaaGreat
set_option linter.unusedVariables false
set_option linter.unusedSimpArgs false
set_option linter.unnecessarySimpa false
open Go.RowKit Go.Lib

/-- what the draw leaves -/
def InsPost (w : World) (e : Ending) (w' : World) : Prop := ∃ cv lv tv c its cs, ∃ a : Int, ∃ it, e = .returned (.tuple #[cv, lv, .int .i64 a, tv]) ∧ OwnK w' w.heap.size cv c ∧ OwnC w' w.heap.size lv its cs ∧ OwnT w' w.heap.size tv it ∧ c.elems.length ≤ 25 ∧ c.limits.length ≤ 6 ∧ its.length ≤ 15
/-- where the names of a code's elements lie -/
def NamesAt (w : World) (g : Nat) (es : List ElemD) : Prop := ∀ (k : Nat) (y : ElemD), es[k]? = some y → w.cell? ⟨g, k * 4, none⟩ = some (.string y.name)
theorem NamesAt.at {w : World} {g : Nat} {es : List ElemD} (h : NamesAt w g es) {k : Nat} {y : ElemD} (hy : es[k]? = some y) : w.cell? ⟨g, k * 4, none⟩ = some (.string y.name) := h k y hy
/-- an item with one name and one mark is written into its box -/
theorem ItSt.fresh {p bi B m gN gM : Nat} {w1 w wz : World} {it : ItemD} {nv mv : Value} {z : ByteArray} {y : Int} {b : Bool} (H : ItSt p bi B m w1 w it nv mv) (BN : Box w gN 9 #[.string z]) (BM : Box w gM 3 #[.int .i64 y]) (hN : B ≤ gN) (hM : B ≤ gM) (hNM : gN ≠ gM) (hNb : gN ≠ bi) (hMb : gM ≠ bi) (hz : z.size ≤ maxLen)
    (Bz : Box wz bi 30 #[.slice (some ⟨gN, 0, none⟩) 1 1, .slice (some ⟨gM, 0, none⟩) 1 1, .bool b]) (Qz : Only [bi] w wz) : ItSt p bi B m w1 wz ⟨[z], [y], b⟩ (.slice (some ⟨gN, 0, none⟩) 1 1) (.slice (some ⟨gM, 0, none⟩) 1 1) := by
  have h1 := H.hp
  have h2 := H.hbb
  have hn : ∀ b ∈ fp (Value.slice (some ⟨gN, 0, none⟩) 1 1), b = gN := fun b hb => by rw [fp_some, List.mem_singleton] at hb; exact hb
  have hm : ∀ b ∈ fp (Value.slice (some ⟨gM, 0, none⟩) 1 1), b = gM := fun b hb => by rw [fp_some, List.mem_singleton] at hb; exact hb
  have o1 := (lit_ownS BN hN hz).only Qz (fun b hb => not_one (by rw [hn b hb]; exact hNb))
  have o2 : OwnI wz B _ [y] := own_only (lit_ownI BM hM) Qz (fun b hb => not_one (by rw [hm b hb]; exact hMb))
  exact ⟨Bz, o1, o2, fun b hb hb' => hNM ((hn b hb).symm.trans (hm b hb')), H.cur.far Qz (fun x hx => by rw [List.mem_singleton] at hx; omega), H.only.overD Qz (fun x hx => by rw [List.mem_singleton] at hx; omega), h1, h2, H.hB, fun b hb => by
    rcases List.mem_append.1 hb with hb | hb
    · rw [hn b hb]; exact hNb
    · rw [hm b hb]; exact hMb⟩
set_option maxRecDepth 100000 in
set_option maxHeartbeats 16000000 in
theorem drawInsertItem_any (v : Value) (w : World) (h : Byts w v) :
    Calls Tryz.prog 4 #[v] w fun e w' => InsPost w e w' ∧ Kept w w' := by
  have HB := Lib.hid h
  obtain ⟨A, n, c, rfl, _, _, _⟩ := h
  go_enter Tryz.func4, Tryz.ntmps4
  go_wp2_with fail
  obtain ⟨wr, hwr⟩ : ∃ x : World, x = w.alloc (.cells #[.slice none 0 0, .slice none 0 0, .int .i64 0, .int .i64 0, .int .i64 0, .int .i64 0] 26) := ⟨_, rfl⟩
  rw [← hwr]
  have BR := Lib.hid (show Box wr w.heap.size 26 #[.slice none 0 0, .slice none 0 0, .int .i64 0, .int .i64 0, .int .i64 0, .int .i64 0] from hwr ▸ Box.new w _ _ _ rfl)
  have KR : Kept w wr := hwr ▸ (Kept.refl w).alloc _
  have hsz : wr.heap.size = w.heap.size + 1 := by rw [hwr]; simp
  clear hwr
  obtain ⟨wt, hwt⟩ : ∃ x : World, x = wr.alloc (.cells #[.slice none 0 0, .slice none 0 0, .bool false] 30) := ⟨_, rfl⟩
  rw [← hwt]
  have BT := Lib.hid (show Box wt (w.heap.size + 1) 30 #[.slice none 0 0, .slice none 0 0, .bool false] from hwt ▸ Box.new wr _ _ _ hsz.symm)
  have kt : Kept wr wt := hwt ▸ (Kept.refl wr).alloc _
  have hst : wt.heap.size = w.heap.size + 1 + 1 := by rw [hwt, ← hsz]; simp
  have KT := KR.trans kt
  replace BR := Lib.hid (BR.out.kept kt)
  clear hwt KR kt hsz
  obtain ⟨A', n', c', e', hnc, hcm, hb⟩ := HB.out.kept KT
  cases e'
  obtain ⟨w0, hw0⟩ : ∃ x : World, x = wt.alloc (.cells #[.slice A n c, .int .i64 0, .int .u64 0] 54) := ⟨_, rfl⟩
  rw [← hw0]
  have C0 : Hid (Cur w0 wt.heap.size 0) := Lib.hid (hw0 ▸ Cur.init hnc hcm hb)
  have K0 : Hid (Kept wt w0) := Lib.hid (hw0 ▸ (Kept.refl wt).alloc _)
  have sz0 : wt.heap.size < w0.heap.size := C0.out.lt
  clear hw0 hb hnc hcm
  obtain ⟨p, hp⟩ : ∃ p, p = w.heap.size + 1 + 1 := ⟨_, rfl⟩
  rw [hst, ← hp] at C0 sz0
  rw [← hp]
  obtain ⟨r2, hr2⟩ : ∃ r, r = w.heap.size + 1 := ⟨_, rfl⟩
  have hpr : r2 < p := by omega
  have hrr : w.heap.size < r2 := by omega
  rw [← hr2] at BT ⊢
  have FIN : Hid (∀ (w3 w8 w9 : World) (cv lv tv : Value) (X : CodeD) (its : List ItemD) (cs : List (Value × Value)) (n : Int) (it : ItemD), OwnK w3 w0.heap.size cv X → OwnC w3 w0.heap.size lv its cs → OwnT w3 w0.heap.size tv it → Only [p] w0 w3 → Only [w.heap.size] w3 w8 → Only [r2] w8 w9 → (X.elems.length ≤ 25 ∧ X.limits.length ≤ 6) → its.length ≤ 15 → InsPost w (.returned (.tuple #[cv, lv, .int .i64 n, tv])) w9 ∧ Kept w w9) := Lib.hid (fun w3 w8 w9 cv lv tv X its cs n it a b t on q1 q2 h1 h2 => by
    have hq : ∀ b ∈ [w.heap.size], b < w0.heap.size ∨ w3.heap.size ≤ b := fun b hb => by rw [List.mem_singleton] at hb; omega
    have hq2 : ∀ b ∈ [r2], b < w0.heap.size ∨ w8.heap.size ≤ b := fun b hb => by rw [List.mem_singleton] at hb; omega
    exact ⟨⟨cv, lv, tv, X, its, cs, n, it, rfl, OwnK.base ((a.off q1 hq).off q2 hq2) (by omega), OwnC.base ((b.off q1 hq).off q2 hq2) (by omega), OwnT.low ((t.off q1 (fun b hb => by rw [List.mem_singleton] at hb; omega)).off q2 (fun b hb => by rw [List.mem_singleton] at hb; omega)) (by omega), h1.1, h1.2, h2⟩, q2.above (q1.above (on.above (KT.trans K0.out) (fun x hx => by rw [List.mem_singleton] at hx; omega)) (fun x hx => by rw [List.mem_singleton] at hx; omega)) (fun x hx => by rw [List.mem_singleton] at hx; omega)⟩)
  have hrp : w.heap.size ≠ p := by omega
  have htp : r2 ≠ p := by omega
  have htr : r2 ≠ w.heap.size := by omega
  replace BR := Lib.hid (BR.out.kept K0.out)
  replace BT := Lib.hid (BT.out.kept K0.out)
  have hpl0 : p < w0.heap.size := sz0
  have hrw0 : w.heap.size < w0.heap.size := by omega
  clear hp hr2 KT K0 hst
  with_reducible refine (anyProgramme_any p 0 w0 C0.out (by omega)).mono ?_
  rintro e w1 ⟨⟨cv, lv, x, its, cs, rfl, o1, o2, h25, h6, hi15⟩, c1, on1⟩
  obtain ⟨ev, lv', rfl, p1, q1, nd⟩ := o1
  obtain ⟨Ae, ce, rfl, _, _, hAe⟩ := own_form p1.1
  obtain ⟨Al, cl, rfl, _⟩ := own_form q1
  obtain ⟨Aq, cq, rfl, hnq, hmq, _⟩ := own_form o2.2.1
  unfold maxLen at hmq
  have HAE := Lib.hid hAe
  have HD := Lib.hid (OwnK.boxed p1 q1 nd c1 on1 hpl0 (Nat.le_refl _))
  have HOw := Lib.hid o2
  clear p1 q1 nd c1 on1 C0 o2 hAe
  go_upto_region 3 with (fail)
  obtain ⟨w3, hw3⟩ : ∃ y : World, y = w1.alloc (.cells #[.slice Ae x.elems.length ce, .slice Al x.limits.length cl, .int .i64 x.repeats, .int .i64 x.bonus, .int .i64 x.keeps, .int .i64 x.fall] 26) := ⟨_, rfl⟩
  have k3 : Kept w1 w3 := hw3 ▸ (Kept.refl w1).alloc _
  obtain ⟨bb, hbb⟩ : ∃ b : Nat, b = w1.heap.size := ⟨_, rfl⟩
  rw [← hw3, ← hbb] at HD ⊢
  have HO3 := Lib.hid (HOw.out.kept k3)
  clear hw3 hbb HOw k3
  have HP : Hid (∀ (W : World), ∀ b ∈ [p], b < w0.heap.size ∨ W.heap.size ≤ b) := Lib.hid (fun W b hb => by rw [List.mem_singleton] at hb; subst hb; exact .inl hpl0)
  go_wp2_with fail
  with_reducible refine (anyItem_any p _ w3 HD.out.cur (by omega)).mono ?_
  rintro e w5 ⟨⟨v5, it, rfl, o5, _, _⟩, c5, on5⟩
  obtain ⟨nv, mv, rfl, p5, q5, nd5⟩ := o5
  obtain ⟨An, cn, rfl, _⟩ := own_form p5.1
  obtain ⟨Am, cm, rfl, _⟩ := own_form q5
  have sz3 : w0.heap.size ≤ w3.heap.size := HD.out.only.size
  have HI5 := Lib.hid (OwnT.boxed ⟨own_base p5.1 sz3, p5.2⟩ (own_base q5 sz3) nd5 c5 (HD.out.only.trans on5) hpl0 (Nat.le_refl _))
  have HS5 := Lib.hid (HD.out.drawn c5 on5)
  have HO5 := Lib.hid (HO3.out.off on5 (HP.out w3))
  clear p5 q5 nd5 c5 on5 HD HO3
  go_upto_region 4 with (fail)
  obtain ⟨w6, hw6⟩ : ∃ y : World, y = w5.alloc (.cells #[Value.slice An it.names.length cn, Value.slice Am it.marks.length cm, .bool it.late] 30) := ⟨_, rfl⟩
  have k6 : Kept w5 w6 := hw6 ▸ (Kept.refl w5).alloc _
  have hbb5 : bb < w5.heap.size := HS5.out.box.lt
  obtain ⟨bi, hbi⟩ : ∃ b : Nat, b = w5.heap.size := ⟨_, rfl⟩
  have HDI : Hid ((∀ b ∈ [bi], w0.heap.size ≤ b ∧ b ≠ bb ∧ b ∉ fp (Value.slice Ae x.elems.length ce) ++ fp (Value.slice Al x.limits.length cl) ∧ True) ∧ (∀ b ∈ fp (.slice Aq its.length cq) ++ fpL cs, b ∉ [bi])) := Lib.hid ⟨fun b hb => by
      rw [List.mem_singleton] at hb
      have hs := HS5.out.only.size
      exact ⟨by omega, by omega, fun hx => by rcases List.mem_append.1 hx with hx | hx <;> first | (have := (own_fp HS5.out.elems.1 b hx).2; omega) | (have := (own_fp HS5.out.lims b hx).2; omega), trivial⟩, fun b hb => not_one (by have := (HO5.out.fps b hb).2; omega)⟩
  rw [← hw6, ← hbi] at HI5 ⊢
  have HS6 := Lib.hid (HS5.out.kept k6)
  have HO6 := Lib.hid (HO5.out.kept k6)
  clear hw6 hbi k6 HS5 HO5 hbb5
  go_cut [28] (fun s28 wx => ∃ b : Bool, s28 = .bool b ∧ (b = true → 0 < x.elems.length) ∧ DrSt p bb w0.heap.size 3500 w0 wx x (Value.slice Ae x.elems.length ce) (Value.slice Al x.limits.length cl) ∧ ItSt p bi w0.heap.size 3500 w0 wx it (Value.slice An it.names.length cn) (Value.slice Am it.marks.length cm) ∧ OwnC wx w0.heap.size (.slice Aq its.length cq) its cs)
  case first =>
    obtain ⟨xb, yb⟩ := HS6.out.box.six
    by_cases h0 : 0 < x.elems.length
    · have h0' : (0 : Int) < (x.elems.length : Int) := by omega
      go_wp2_with fail
      clear xb yb
      with_reducible refine (one_any p _ 4 w6 HS6.out.cur (by omega) (by omega)).mono ?_
      rintro e w7 ⟨b7, rfl, c7, on7⟩
      have S7 := Lib.hid (HS6.out.drawn c7 on7)
      have I7 := Lib.hid (HI5.out.drawn c7 on7)
      have O7 := Lib.hid (HO6.out.off on7 (HP.out w6))
      clear c7 on7
      go_wp2_with fail
      go_meet
      exact ⟨_, rfl, (fun _ => h0), S7.out.le (by omega), I7.out.le (by omega), O7.out⟩
    · have h0' : ¬ (0 : Int) < (x.elems.length : Int) := by omega
      go_wp2_with fail
      go_meet
      exact ⟨_, rfl, (fun h => by cases h), HS6.out.le (by omega), HI5.out.le (by omega), HO6.out⟩
  case rest =>
    obtain ⟨b, rfl, hbt, hs, hi, ho⟩ := hcut
    have HS := Lib.hid hs
    have HI := Lib.hid hi
    have HO := Lib.hid ho
    have HBT := Lib.hid hbt
    obtain ⟨w7, hw7⟩ : ∃ y : World, y = wc := ⟨_, rfl⟩
    rw [← hw7] at HS HI HO ⊢
    clear hs hi ho hbt hw7 HS6 HI5 HO6
    go_upto_if 28 with (fail)
    go_cut [28] (fun _ wx => ∃ (jt : ItemD) (nv mv : Value), DrSt p bb w0.heap.size 3600 w0 wx x (Value.slice Ae x.elems.length ce) (Value.slice Al x.limits.length cl) ∧ ItSt p bi w0.heap.size 3600 w0 wx jt nv mv ∧ OwnC wx w0.heap.size (.slice Aq its.length cq) its cs)
    case first =>
      cases b with
      | false =>
        go_wp2_with fail
        go_meet
        exact ⟨it, _, _, HS.out.le (by omega), HI.out.le (by omega), HO.out⟩
      | true =>
        have h0 := HBT.out rfl
        obtain ⟨ge, rfl⟩ := HAE.out h0
        have h0' : (0 : Int) < (x.elems.length : Int) := by omega
        have HSS : Hid (∀ (w' : World) (M : Nat), DrSt p bb w0.heap.size M w0 w' x (Value.slice (some ⟨ge, 0, none⟩) x.elems.length ce) (Value.slice Al x.limits.length cl) → (w'.cell? ⟨bb, 0, none⟩ = some (Value.slice (some ⟨ge, 0, none⟩) x.elems.length ce) ∧ NamesAt w' ge x.elems)) := Lib.hid (fun w' M d => ⟨d.box.cell 0, fun k y hy => by
          obtain ⟨e, he, ⟨q, _⟩, _⟩ := ownE_at d.elems (List.getElem?_eq_some_iff.1 hy).1
          rw [hy] at he
          injection he with he
          subst he
          exact q⟩)
        go_upto_region 5 with (fail)
        refine region_pop (S := fun w' => w'.cell? ⟨bb, 0, none⟩ = some (Value.slice (some ⟨ge, 0, none⟩) x.elems.length ce) ∧ NamesAt w' ge x.elems) 15 (by kernel_rfl) (by kernel_rfl) ?_
        simp only [List.take_succ_cons, List.take_zero, List.drop_succ_cons, List.drop_zero]
        refine startL (HSS.out _ _ (HS.out.kept (Kept.refl w7).drew)) (fun hS0 => ?_)
        obtain ⟨wd, hwd⟩ : ∃ y : World, y = w7.drew := ⟨_, rfl⟩
        rw [← hwd] at hS0 ⊢
        have kd : Kept w7 wd := hwd ▸ (Kept.refl w7).drew
        have D0 := Lib.hid (HS.out.kept kd)
        have I0 := Lib.hid (HI.out.kept kd)
        have O0 := Lib.hid (HO.out.kept kd)
        clear hwd kd
        refine takeL (i := 0) (v := ?_) rfl (by kernel_rfl) (by kernel_rfl) (by kernel_rfl) (fun _ _ _ h => h) (Or.inl ⟨by rfl, ?_⟩) hS0 ?_
        rotate_left 1
        · (intro w hSw; (try dsimp only at hSw); go_simp; try with_reducible rfl)
        try simp only [Act.put, List.setIfInBounds_toArray, List.set_cons_zero, List.set_cons_succ]
        refine takeL (i := 1) (v := ?_) rfl (by kernel_rfl) (by kernel_rfl) (by kernel_rfl) (fun _ _ _ h => h) (Or.inl ⟨by rfl, ?_⟩) hS0 ?_
        rotate_left 1
        · (intro w hSw; (try dsimp only at hSw); go_simp; try with_reducible rfl)
        try simp only [Act.put, List.setIfInBounds_toArray, List.set_cons_zero, List.set_cons_succ]
        refine takeL (i := 2) (v := ?_) rfl (by kernel_rfl) (by kernel_rfl) (by kernel_rfl) (fun _ _ _ h => h) (Or.inl ⟨by rfl, ?_⟩) hS0 ?_
        rotate_left 1
        · (intro w hSw; (try dsimp only at hSw); go_simp; try with_reducible rfl)
        try simp only [Act.put, List.setIfInBounds_toArray, List.set_cons_zero, List.set_cons_succ]
        refine takeL (i := 3) (v := ?_) rfl (by kernel_rfl) (by kernel_rfl) (by kernel_rfl) (fun _ _ _ h => h) (Or.inl ⟨by rfl, ?_⟩) hS0 ?_
        rotate_left 1
        · (intro w hSw; (try dsimp only at hSw); go_simp; try with_reducible rfl)
        try simp only [Act.put, List.setIfInBounds_toArray, List.set_cons_zero, List.set_cons_succ]
        refine takeL (i := 4) (v := ?_) rfl (by kernel_rfl) (by kernel_rfl) (by kernel_rfl) (fun _ _ _ h => h) (Or.inl ⟨by rfl, ?_⟩) hS0 ?_
        rotate_left 1
        · (intro w hSw; (try dsimp only at hSw); go_simp; try with_reducible rfl)
        try simp only [Act.put, List.setIfInBounds_toArray, List.set_cons_zero, List.set_cons_succ]
        refine takeL (i := 5) (v := ?_) rfl (by kernel_rfl) (by kernel_rfl) (by kernel_rfl) (fun _ _ _ h => h) (Or.inl ⟨by rfl, ?_⟩) hS0 ?_
        rotate_left 1
        · (intro w hSw; (try dsimp only at hSw); go_simp; try with_reducible rfl)
        try simp only [Act.put, List.setIfInBounds_toArray, List.set_cons_zero, List.set_cons_succ]
        refine takeL (i := 12) (v := ?_) rfl (by kernel_rfl) (by kernel_rfl) (by kernel_rfl) (fun _ _ _ h => h) (Or.inl ⟨by rfl, ?_⟩) hS0 ?_
        rotate_left 1
        · (intro w hSw; (try dsimp only at hSw); go_simp; try with_reducible rfl)
        try simp only [Act.put, List.setIfInBounds_toArray, List.set_cons_zero, List.set_cons_succ]
        refine readyL (rs := [6, 11]) (by kernel_rfl) (by simp) ?_
        refine consL (i := 6) rfl (fun K hK => ?_) (consL (i := 11) rfl (fun K hK => ?_) (allNil))
        ·
          go_simp
          with_reducible refine (pick_any p _ (x.elems.length : Int) wd D0.out.cur (by omega) (by omega)).mono ?_
          rintro e w1c ⟨x6, rfl, ⟨lo6, hi6⟩, c7, on7⟩
          have D1c := Lib.hid (D0.out.drawn c7 on7)
          have I1c := Lib.hid (I0.out.drawn c7 on7)
          have O1c := Lib.hid (O0.out.off on7 (HP.out wd))
          skip
          obtain ⟨kx, rfl⟩ : ∃ j : Nat, x6 = (j : Int) := ⟨x6.toNat, by omega⟩
          have hkx : kx < x.elems.length := by have := hi6 (by omega); omega
          have hkx' : (kx : Int) < (x.elems.length : Int) := by omega
          obtain ⟨ye, hye⟩ : ∃ y, x.elems[kx]? = some y := ⟨_, List.getElem?_eq_getElem hkx⟩
          have HYE := Lib.hid hye
          have HYS : Hid (ye.name.size ≤ maxLen) := Lib.hid (D0.out.elems.2 ye (List.mem_of_getElem? hye))
          clear hye hi6
          clear c7 on7
          go_wp2_with fail
          refine hK.out _ _ (HSS.out _ _ D1c.out) (fun hS1 => ?_)
          clear hK K hS0
          try simp only [Act.put, List.setIfInBounds_toArray, List.set_cons_zero, List.set_cons_succ]
          refine takeL (i := 7) (v := ?_) rfl (by kernel_rfl) (by kernel_rfl) (by kernel_rfl) (fun _ _ _ h => h) (Or.inl ⟨by rfl, ?_⟩) hS1 ?_
          rotate_left 1
          · (intro w hSw; (try dsimp only at hSw); go_simp; try with_reducible rfl)
          try simp only [Act.put, List.setIfInBounds_toArray, List.set_cons_zero, List.set_cons_succ]
          refine takeL (i := 8) (v := ?_) rfl (by kernel_rfl) (by kernel_rfl) (by kernel_rfl) (fun _ _ _ h => h) (Or.inl ⟨by rfl, ?_⟩) hS1 ?_
          rotate_left 1
          · (intro w hSw; (try dsimp only at hSw); go_simp; try with_reducible rfl)
          try simp only [Act.put, List.setIfInBounds_toArray, List.set_cons_zero, List.set_cons_succ]
          refine takeL (i := 9) (v := ?_) rfl (by kernel_rfl) (by kernel_rfl) (by kernel_rfl) (fun _ _ _ h => h) (Or.inl ⟨by rfl, ?_⟩) hS1 ?_
          rotate_left 1
          · (intro w hSw; (try dsimp only at hSw); have hq := NamesAt.at hSw.2 HYE.out; go_simp; try with_reducible rfl)
          try simp only [Act.put, List.setIfInBounds_toArray, List.set_cons_zero, List.set_cons_succ]
          refine readyL (rs := [10, 11, 13]) (by kernel_rfl) (by simp) ?_
          refine consL (i := 10) rfl (fun K hK => ?_) (consL (i := 11) rfl (fun K hK => ?_) (consL (i := 13) rfl (fun K hK => ?_) (allNil)))
          ·
            go_simp
            obtain ⟨w2b, hw2b⟩ : ∃ x : World, x = w1c.alloc (.cells #[.string ye.name] 9) := ⟨_, rfl⟩
            rw [← hw2b]
            have BN2b : Box w2b w1c.heap.size 9 #[.string ye.name] := hw2b ▸ Box.new w1c _ _ _ rfl
            have kw2b : Kept w1c w2b := hw2b ▸ (Kept.refl w1c).alloc _
            clear hw2b
            have D2b := Lib.hid (D1c.out.kept kw2b)
            have I2b := Lib.hid (I1c.out.kept kw2b)
            have O2b := Lib.hid (O1c.out.kept kw2b)
            have higN : bi < w1c.heap.size := I1c.out.box.lt
            have h0gN : w0.heap.size ≤ w1c.heap.size := D1c.out.only.size
            obtain ⟨gN, hggN⟩ : ∃ b : Nat, b = w1c.heap.size := ⟨_, rfl⟩
            skip
            rw [← hggN] at BN2b higN h0gN ⊢
            have hpgN : gN ≠ p := by omega
            clear hggN
            refine hK.out _ _ (HSS.out _ _ D2b.out) (fun hS2 => ?_)
            clear hK K hS1
            try simp only [Act.put, List.setIfInBounds_toArray, List.set_cons_zero, List.set_cons_succ]
            refine readyL (rs := [11, 13]) (by kernel_rfl) (by simp) ?_
            refine consL (i := 11) rfl (fun K hK => ?_) (consL (i := 13) rfl (fun K hK => ?_) (allNil))
            ·
              go_simp
              obtain ⟨w3b, hw3b⟩ : ∃ x : World, x = w2b.alloc (.cells #[.int .i64 0] 3) := ⟨_, rfl⟩
              rw [← hw3b]
              have BM3b : Box w3b w2b.heap.size 3 #[.int .i64 0] := hw3b ▸ Box.new w2b _ _ _ rfl
              have kw3b : Kept w2b w3b := hw3b ▸ (Kept.refl w2b).alloc _
              clear hw3b
              have D3b := Lib.hid (D2b.out.kept kw3b)
              have I3b := Lib.hid (I2b.out.kept kw3b)
              have O3b := Lib.hid (O2b.out.kept kw3b)
              have higM : bi < w2b.heap.size := I2b.out.box.lt
              have h0gM : w0.heap.size ≤ w2b.heap.size := D2b.out.only.size
              obtain ⟨gM, hggM⟩ : ∃ b : Nat, b = w2b.heap.size := ⟨_, rfl⟩
              have BN3b := BN2b.kept kw3b
              have hnm : gN ≠ gM := by have := BN2b.lt; omega
              rw [← hggM] at BM3b higM h0gM ⊢
              have hpgM : gM ≠ p := by omega
              clear hggM
              refine hK.out _ _ (HSS.out _ _ D3b.out) (fun hS3 => ?_)
              clear hK K hS2
              try simp only [Act.put, List.setIfInBounds_toArray, List.set_cons_zero, List.set_cons_succ]
              refine onlyL (i := 13) rfl (by kernel_rfl) (fun K hK => ?_)
              go_simp
              with_reducible refine (one_any p _ 2 w3b D3b.out.cur (by omega) (by omega)).mono ?_
              rintro e w4c ⟨b13, rfl, c7, on7⟩
              have D4c := Lib.hid (D3b.out.drawn c7 on7)
              have I4c := Lib.hid (I3b.out.drawn c7 on7)
              have O4c := Lib.hid (O3b.out.off on7 (HP.out w3b))
              have BN4c := BN3b.only on7 (not_one hpgN)
              have BM4c := BM3b.only on7 (not_one hpgM)
              skip
              clear c7 on7
              go_wp2_with fail
              refine hK.out _ _ (HSS.out _ _ D4c.out) (fun hS4 => ?_)
              clear hK K hS3
              try simp only [Act.put, List.setIfInBounds_toArray, List.set_cons_zero, List.set_cons_succ]
              refine takeL (i := 14) (v := ?_) rfl (by kernel_rfl) (by kernel_rfl) (by kernel_rfl) (fun _ _ _ h => h) (Or.inl ⟨by rfl, ?_⟩) hS4 ?_
              rotate_left 1
              · (intro w hSw; (try dsimp only at hSw); go_simp; try with_reducible rfl)
              try simp only [Act.put, List.setIfInBounds_toArray, List.set_cons_zero, List.set_cons_succ]
              refine doneL (by kernel_rfl) ?_
              clear hS4
              obtain ⟨x3, y3⟩ := I4c.out.box.three
              go_wp2_with fail
              clear x3 y3
              obtain ⟨wz, hwz, Bz, Qz⟩ := set3 I4c.out.box (.slice (some ⟨gN, 0, none⟩) 1 1) (.slice (some ⟨gM, 0, none⟩) 1 1) (.bool b13)
              rw [← hwz]
              clear hwz
              go_meet
              exact ⟨⟨[ye.name], [0], b13⟩, _, _, (D4c.out.apartS Qz HDI.out.1).le (by omega), (I4c.out.fresh BN4c BM4c h0gN h0gM hnm (by omega) (by omega) HYS.out Bz Qz).le (by omega), O4c.out.only Qz HDI.out.2⟩
            ·
              go_simp
              with_reducible refine (one_any p _ 2 w2b D2b.out.cur (by omega) (by omega)).mono ?_
              rintro e w5c ⟨b13, rfl, c7, on7⟩
              have D5c := Lib.hid (D2b.out.drawn c7 on7)
              have I5c := Lib.hid (I2b.out.drawn c7 on7)
              have O5c := Lib.hid (O2b.out.off on7 (HP.out w2b))
              have BN5c := BN2b.only on7 (not_one hpgN)
              skip
              clear c7 on7
              go_wp2_with fail
              refine hK.out _ _ (HSS.out _ _ D5c.out) (fun hS5 => ?_)
              clear hK K hS2
              try simp only [Act.put, List.setIfInBounds_toArray, List.set_cons_zero, List.set_cons_succ]
              refine onlyL (i := 11) rfl (by kernel_rfl) (fun K hK => ?_)
              go_simp
              obtain ⟨w6b, hw6b⟩ : ∃ x : World, x = w5c.alloc (.cells #[.int .i64 0] 3) := ⟨_, rfl⟩
              rw [← hw6b]
              have BM6b : Box w6b w5c.heap.size 3 #[.int .i64 0] := hw6b ▸ Box.new w5c _ _ _ rfl
              have kw6b : Kept w5c w6b := hw6b ▸ (Kept.refl w5c).alloc _
              clear hw6b
              have D6b := Lib.hid (D5c.out.kept kw6b)
              have I6b := Lib.hid (I5c.out.kept kw6b)
              have O6b := Lib.hid (O5c.out.kept kw6b)
              have higM : bi < w5c.heap.size := I5c.out.box.lt
              have h0gM : w0.heap.size ≤ w5c.heap.size := D5c.out.only.size
              obtain ⟨gM, hggM⟩ : ∃ b : Nat, b = w5c.heap.size := ⟨_, rfl⟩
              have BN6b := BN5c.kept kw6b
              have hnm : gN ≠ gM := by have := BN5c.lt; omega
              rw [← hggM] at BM6b higM h0gM ⊢
              have hpgM : gM ≠ p := by omega
              clear hggM
              refine hK.out _ _ (HSS.out _ _ D6b.out) (fun hS6 => ?_)
              clear hK K hS5
              try simp only [Act.put, List.setIfInBounds_toArray, List.set_cons_zero, List.set_cons_succ]
              refine takeL (i := 14) (v := ?_) rfl (by kernel_rfl) (by kernel_rfl) (by kernel_rfl) (fun _ _ _ h => h) (Or.inl ⟨by rfl, ?_⟩) hS6 ?_
              rotate_left 1
              · (intro w hSw; (try dsimp only at hSw); go_simp; try with_reducible rfl)
              try simp only [Act.put, List.setIfInBounds_toArray, List.set_cons_zero, List.set_cons_succ]
              refine doneL (by kernel_rfl) ?_
              clear hS6
              obtain ⟨x3, y3⟩ := I6b.out.box.three
              go_wp2_with fail
              clear x3 y3
              obtain ⟨wz, hwz, Bz, Qz⟩ := set3 I6b.out.box (.slice (some ⟨gN, 0, none⟩) 1 1) (.slice (some ⟨gM, 0, none⟩) 1 1) (.bool b13)
              rw [← hwz]
              clear hwz
              go_meet
              exact ⟨⟨[ye.name], [0], b13⟩, _, _, (D6b.out.apartS Qz HDI.out.1).le (by omega), (I6b.out.fresh BN6b BM6b h0gN h0gM hnm (by omega) (by omega) HYS.out Bz Qz).le (by omega), O6b.out.only Qz HDI.out.2⟩
          ·
            go_simp
            obtain ⟨w7b, hw7b⟩ : ∃ x : World, x = w1c.alloc (.cells #[.int .i64 0] 3) := ⟨_, rfl⟩
            rw [← hw7b]
            have BM7b : Box w7b w1c.heap.size 3 #[.int .i64 0] := hw7b ▸ Box.new w1c _ _ _ rfl
            have kw7b : Kept w1c w7b := hw7b ▸ (Kept.refl w1c).alloc _
            clear hw7b
            have D7b := Lib.hid (D1c.out.kept kw7b)
            have I7b := Lib.hid (I1c.out.kept kw7b)
            have O7b := Lib.hid (O1c.out.kept kw7b)
            have higM : bi < w1c.heap.size := I1c.out.box.lt
            have h0gM : w0.heap.size ≤ w1c.heap.size := D1c.out.only.size
            obtain ⟨gM, hggM⟩ : ∃ b : Nat, b = w1c.heap.size := ⟨_, rfl⟩
            skip
            rw [← hggM] at BM7b higM h0gM ⊢
            have hpgM : gM ≠ p := by omega
            clear hggM
            refine hK.out _ _ (HSS.out _ _ D7b.out) (fun hS7 => ?_)
            clear hK K hS1
            try simp only [Act.put, List.setIfInBounds_toArray, List.set_cons_zero, List.set_cons_succ]
            refine readyL (rs := [10, 13]) (by kernel_rfl) (by simp) ?_
            refine consL (i := 10) rfl (fun K hK => ?_) (consL (i := 13) rfl (fun K hK => ?_) (allNil))
            ·
              go_simp
              obtain ⟨w8b, hw8b⟩ : ∃ x : World, x = w7b.alloc (.cells #[.string ye.name] 9) := ⟨_, rfl⟩
              rw [← hw8b]
              have BN8b : Box w8b w7b.heap.size 9 #[.string ye.name] := hw8b ▸ Box.new w7b _ _ _ rfl
              have kw8b : Kept w7b w8b := hw8b ▸ (Kept.refl w7b).alloc _
              clear hw8b
              have D8b := Lib.hid (D7b.out.kept kw8b)
              have I8b := Lib.hid (I7b.out.kept kw8b)
              have O8b := Lib.hid (O7b.out.kept kw8b)
              have higN : bi < w7b.heap.size := I7b.out.box.lt
              have h0gN : w0.heap.size ≤ w7b.heap.size := D7b.out.only.size
              obtain ⟨gN, hggN⟩ : ∃ b : Nat, b = w7b.heap.size := ⟨_, rfl⟩
              have BM8b := BM7b.kept kw8b
              have hnm : gN ≠ gM := by have := BM7b.lt; omega
              rw [← hggN] at BN8b higN h0gN ⊢
              have hpgN : gN ≠ p := by omega
              clear hggN
              refine hK.out _ _ (HSS.out _ _ D8b.out) (fun hS8 => ?_)
              clear hK K hS7
              try simp only [Act.put, List.setIfInBounds_toArray, List.set_cons_zero, List.set_cons_succ]
              refine onlyL (i := 13) rfl (by kernel_rfl) (fun K hK => ?_)
              go_simp
              with_reducible refine (one_any p _ 2 w8b D8b.out.cur (by omega) (by omega)).mono ?_
              rintro e w9c ⟨b13, rfl, c7, on7⟩
              have D9c := Lib.hid (D8b.out.drawn c7 on7)
              have I9c := Lib.hid (I8b.out.drawn c7 on7)
              have O9c := Lib.hid (O8b.out.off on7 (HP.out w8b))
              have BN9c := BN8b.only on7 (not_one hpgN)
              have BM9c := BM8b.only on7 (not_one hpgM)
              skip
              clear c7 on7
              go_wp2_with fail
              refine hK.out _ _ (HSS.out _ _ D9c.out) (fun hS9 => ?_)
              clear hK K hS8
              try simp only [Act.put, List.setIfInBounds_toArray, List.set_cons_zero, List.set_cons_succ]
              refine takeL (i := 14) (v := ?_) rfl (by kernel_rfl) (by kernel_rfl) (by kernel_rfl) (fun _ _ _ h => h) (Or.inl ⟨by rfl, ?_⟩) hS9 ?_
              rotate_left 1
              · (intro w hSw; (try dsimp only at hSw); go_simp; try with_reducible rfl)
              try simp only [Act.put, List.setIfInBounds_toArray, List.set_cons_zero, List.set_cons_succ]
              refine doneL (by kernel_rfl) ?_
              clear hS9
              obtain ⟨x3, y3⟩ := I9c.out.box.three
              go_wp2_with fail
              clear x3 y3
              obtain ⟨wz, hwz, Bz, Qz⟩ := set3 I9c.out.box (.slice (some ⟨gN, 0, none⟩) 1 1) (.slice (some ⟨gM, 0, none⟩) 1 1) (.bool b13)
              rw [← hwz]
              clear hwz
              go_meet
              exact ⟨⟨[ye.name], [0], b13⟩, _, _, (D9c.out.apartS Qz HDI.out.1).le (by omega), (I9c.out.fresh BN9c BM9c h0gN h0gM hnm (by omega) (by omega) HYS.out Bz Qz).le (by omega), O9c.out.only Qz HDI.out.2⟩
            ·
              go_simp
              with_reducible refine (one_any p _ 2 w7b D7b.out.cur (by omega) (by omega)).mono ?_
              rintro e w10c ⟨b13, rfl, c7, on7⟩
              have D10c := Lib.hid (D7b.out.drawn c7 on7)
              have I10c := Lib.hid (I7b.out.drawn c7 on7)
              have O10c := Lib.hid (O7b.out.off on7 (HP.out w7b))
              have BM10c := BM7b.only on7 (not_one hpgM)
              skip
              clear c7 on7
              go_wp2_with fail
              refine hK.out _ _ (HSS.out _ _ D10c.out) (fun hS10 => ?_)
              clear hK K hS7
              try simp only [Act.put, List.setIfInBounds_toArray, List.set_cons_zero, List.set_cons_succ]
              refine onlyL (i := 10) rfl (by kernel_rfl) (fun K hK => ?_)
              go_simp
              obtain ⟨w11b, hw11b⟩ : ∃ x : World, x = w10c.alloc (.cells #[.string ye.name] 9) := ⟨_, rfl⟩
              rw [← hw11b]
              have BN11b : Box w11b w10c.heap.size 9 #[.string ye.name] := hw11b ▸ Box.new w10c _ _ _ rfl
              have kw11b : Kept w10c w11b := hw11b ▸ (Kept.refl w10c).alloc _
              clear hw11b
              have D11b := Lib.hid (D10c.out.kept kw11b)
              have I11b := Lib.hid (I10c.out.kept kw11b)
              have O11b := Lib.hid (O10c.out.kept kw11b)
              have higN : bi < w10c.heap.size := I10c.out.box.lt
              have h0gN : w0.heap.size ≤ w10c.heap.size := D10c.out.only.size
              obtain ⟨gN, hggN⟩ : ∃ b : Nat, b = w10c.heap.size := ⟨_, rfl⟩
              have BM11b := BM10c.kept kw11b
              have hnm : gN ≠ gM := by have := BM10c.lt; omega
              rw [← hggN] at BN11b higN h0gN ⊢
              have hpgN : gN ≠ p := by omega
              clear hggN
              refine hK.out _ _ (HSS.out _ _ D11b.out) (fun hS11 => ?_)
              clear hK K hS10
              try simp only [Act.put, List.setIfInBounds_toArray, List.set_cons_zero, List.set_cons_succ]
              refine takeL (i := 14) (v := ?_) rfl (by kernel_rfl) (by kernel_rfl) (by kernel_rfl) (fun _ _ _ h => h) (Or.inl ⟨by rfl, ?_⟩) hS11 ?_
              rotate_left 1
              · (intro w hSw; (try dsimp only at hSw); go_simp; try with_reducible rfl)
              try simp only [Act.put, List.setIfInBounds_toArray, List.set_cons_zero, List.set_cons_succ]
              refine doneL (by kernel_rfl) ?_
              clear hS11
              obtain ⟨x3, y3⟩ := I11b.out.box.three
              go_wp2_with fail
              clear x3 y3
              obtain ⟨wz, hwz, Bz, Qz⟩ := set3 I11b.out.box (.slice (some ⟨gN, 0, none⟩) 1 1) (.slice (some ⟨gM, 0, none⟩) 1 1) (.bool b13)
              rw [← hwz]
              clear hwz
              go_meet
              exact ⟨⟨[ye.name], [0], b13⟩, _, _, (D11b.out.apartS Qz HDI.out.1).le (by omega), (I11b.out.fresh BN11b BM11b h0gN h0gM hnm (by omega) (by omega) HYS.out Bz Qz).le (by omega), O11b.out.only Qz HDI.out.2⟩
          ·
            go_simp
            with_reducible refine (one_any p _ 2 w1c D1c.out.cur (by omega) (by omega)).mono ?_
            rintro e w12c ⟨b13, rfl, c7, on7⟩
            have D12c := Lib.hid (D1c.out.drawn c7 on7)
            have I12c := Lib.hid (I1c.out.drawn c7 on7)
            have O12c := Lib.hid (O1c.out.off on7 (HP.out w1c))
            skip
            skip
            clear c7 on7
            go_wp2_with fail
            refine hK.out _ _ (HSS.out _ _ D12c.out) (fun hS12 => ?_)
            clear hK K hS1
            try simp only [Act.put, List.setIfInBounds_toArray, List.set_cons_zero, List.set_cons_succ]
            refine readyL (rs := [10, 11]) (by kernel_rfl) (by simp) ?_
            refine consL (i := 10) rfl (fun K hK => ?_) (consL (i := 11) rfl (fun K hK => ?_) (allNil))
            ·
              go_simp
              obtain ⟨w13b, hw13b⟩ : ∃ x : World, x = w12c.alloc (.cells #[.string ye.name] 9) := ⟨_, rfl⟩
              rw [← hw13b]
              have BN13b : Box w13b w12c.heap.size 9 #[.string ye.name] := hw13b ▸ Box.new w12c _ _ _ rfl
              have kw13b : Kept w12c w13b := hw13b ▸ (Kept.refl w12c).alloc _
              clear hw13b
              have D13b := Lib.hid (D12c.out.kept kw13b)
              have I13b := Lib.hid (I12c.out.kept kw13b)
              have O13b := Lib.hid (O12c.out.kept kw13b)
              have higN : bi < w12c.heap.size := I12c.out.box.lt
              have h0gN : w0.heap.size ≤ w12c.heap.size := D12c.out.only.size
              obtain ⟨gN, hggN⟩ : ∃ b : Nat, b = w12c.heap.size := ⟨_, rfl⟩
              skip
              rw [← hggN] at BN13b higN h0gN ⊢
              have hpgN : gN ≠ p := by omega
              clear hggN
              refine hK.out _ _ (HSS.out _ _ D13b.out) (fun hS13 => ?_)
              clear hK K hS12
              try simp only [Act.put, List.setIfInBounds_toArray, List.set_cons_zero, List.set_cons_succ]
              refine onlyL (i := 11) rfl (by kernel_rfl) (fun K hK => ?_)
              go_simp
              obtain ⟨w14b, hw14b⟩ : ∃ x : World, x = w13b.alloc (.cells #[.int .i64 0] 3) := ⟨_, rfl⟩
              rw [← hw14b]
              have BM14b : Box w14b w13b.heap.size 3 #[.int .i64 0] := hw14b ▸ Box.new w13b _ _ _ rfl
              have kw14b : Kept w13b w14b := hw14b ▸ (Kept.refl w13b).alloc _
              clear hw14b
              have D14b := Lib.hid (D13b.out.kept kw14b)
              have I14b := Lib.hid (I13b.out.kept kw14b)
              have O14b := Lib.hid (O13b.out.kept kw14b)
              have higM : bi < w13b.heap.size := I13b.out.box.lt
              have h0gM : w0.heap.size ≤ w13b.heap.size := D13b.out.only.size
              obtain ⟨gM, hggM⟩ : ∃ b : Nat, b = w13b.heap.size := ⟨_, rfl⟩
              have BN14b := BN13b.kept kw14b
              have hnm : gN ≠ gM := by have := BN13b.lt; omega
              rw [← hggM] at BM14b higM h0gM ⊢
              have hpgM : gM ≠ p := by omega
              clear hggM
              refine hK.out _ _ (HSS.out _ _ D14b.out) (fun hS14 => ?_)
              clear hK K hS13
              try simp only [Act.put, List.setIfInBounds_toArray, List.set_cons_zero, List.set_cons_succ]
              refine takeL (i := 14) (v := ?_) rfl (by kernel_rfl) (by kernel_rfl) (by kernel_rfl) (fun _ _ _ h => h) (Or.inl ⟨by rfl, ?_⟩) hS14 ?_
              rotate_left 1
              · (intro w hSw; (try dsimp only at hSw); go_simp; try with_reducible rfl)
              try simp only [Act.put, List.setIfInBounds_toArray, List.set_cons_zero, List.set_cons_succ]
              refine doneL (by kernel_rfl) ?_
              clear hS14
              obtain ⟨x3, y3⟩ := I14b.out.box.three
              go_wp2_with fail
              clear x3 y3
              obtain ⟨wz, hwz, Bz, Qz⟩ := set3 I14b.out.box (.slice (some ⟨gN, 0, none⟩) 1 1) (.slice (some ⟨gM, 0, none⟩) 1 1) (.bool b13)
              rw [← hwz]
              clear hwz
              go_meet
              exact ⟨⟨[ye.name], [0], b13⟩, _, _, (D14b.out.apartS Qz HDI.out.1).le (by omega), (I14b.out.fresh BN14b BM14b h0gN h0gM hnm (by omega) (by omega) HYS.out Bz Qz).le (by omega), O14b.out.only Qz HDI.out.2⟩
            ·
              go_simp
              obtain ⟨w15b, hw15b⟩ : ∃ x : World, x = w12c.alloc (.cells #[.int .i64 0] 3) := ⟨_, rfl⟩
              rw [← hw15b]
              have BM15b : Box w15b w12c.heap.size 3 #[.int .i64 0] := hw15b ▸ Box.new w12c _ _ _ rfl
              have kw15b : Kept w12c w15b := hw15b ▸ (Kept.refl w12c).alloc _
              clear hw15b
              have D15b := Lib.hid (D12c.out.kept kw15b)
              have I15b := Lib.hid (I12c.out.kept kw15b)
              have O15b := Lib.hid (O12c.out.kept kw15b)
              have higM : bi < w12c.heap.size := I12c.out.box.lt
              have h0gM : w0.heap.size ≤ w12c.heap.size := D12c.out.only.size
              obtain ⟨gM, hggM⟩ : ∃ b : Nat, b = w12c.heap.size := ⟨_, rfl⟩
              skip
              rw [← hggM] at BM15b higM h0gM ⊢
              have hpgM : gM ≠ p := by omega
              clear hggM
              refine hK.out _ _ (HSS.out _ _ D15b.out) (fun hS15 => ?_)
              clear hK K hS12
              try simp only [Act.put, List.setIfInBounds_toArray, List.set_cons_zero, List.set_cons_succ]
              refine onlyL (i := 10) rfl (by kernel_rfl) (fun K hK => ?_)
              go_simp
              obtain ⟨w16b, hw16b⟩ : ∃ x : World, x = w15b.alloc (.cells #[.string ye.name] 9) := ⟨_, rfl⟩
              rw [← hw16b]
              have BN16b : Box w16b w15b.heap.size 9 #[.string ye.name] := hw16b ▸ Box.new w15b _ _ _ rfl
              have kw16b : Kept w15b w16b := hw16b ▸ (Kept.refl w15b).alloc _
              clear hw16b
              have D16b := Lib.hid (D15b.out.kept kw16b)
              have I16b := Lib.hid (I15b.out.kept kw16b)
              have O16b := Lib.hid (O15b.out.kept kw16b)
              have higN : bi < w15b.heap.size := I15b.out.box.lt
              have h0gN : w0.heap.size ≤ w15b.heap.size := D15b.out.only.size
              obtain ⟨gN, hggN⟩ : ∃ b : Nat, b = w15b.heap.size := ⟨_, rfl⟩
              have BM16b := BM15b.kept kw16b
              have hnm : gN ≠ gM := by have := BM15b.lt; omega
              rw [← hggN] at BN16b higN h0gN ⊢
              have hpgN : gN ≠ p := by omega
              clear hggN
              refine hK.out _ _ (HSS.out _ _ D16b.out) (fun hS16 => ?_)
              clear hK K hS15
              try simp only [Act.put, List.setIfInBounds_toArray, List.set_cons_zero, List.set_cons_succ]
              refine takeL (i := 14) (v := ?_) rfl (by kernel_rfl) (by kernel_rfl) (by kernel_rfl) (fun _ _ _ h => h) (Or.inl ⟨by rfl, ?_⟩) hS16 ?_
              rotate_left 1
              · (intro w hSw; (try dsimp only at hSw); go_simp; try with_reducible rfl)
              try simp only [Act.put, List.setIfInBounds_toArray, List.set_cons_zero, List.set_cons_succ]
              refine doneL (by kernel_rfl) ?_
              clear hS16
              obtain ⟨x3, y3⟩ := I16b.out.box.three
              go_wp2_with fail
              clear x3 y3
              obtain ⟨wz, hwz, Bz, Qz⟩ := set3 I16b.out.box (.slice (some ⟨gN, 0, none⟩) 1 1) (.slice (some ⟨gM, 0, none⟩) 1 1) (.bool b13)
              rw [← hwz]
              clear hwz
              go_meet
              exact ⟨⟨[ye.name], [0], b13⟩, _, _, (D16b.out.apartS Qz HDI.out.1).le (by omega), (I16b.out.fresh BN16b BM16b h0gN h0gM hnm (by omega) (by omega) HYS.out Bz Qz).le (by omega), O16b.out.only Qz HDI.out.2⟩
        ·
          go_simp
          obtain ⟨w17b, hw17b⟩ : ∃ x : World, x = wd.alloc (.cells #[.int .i64 0] 3) := ⟨_, rfl⟩
          rw [← hw17b]
          have BM17b : Box w17b wd.heap.size 3 #[.int .i64 0] := hw17b ▸ Box.new wd _ _ _ rfl
          have kw17b : Kept wd w17b := hw17b ▸ (Kept.refl wd).alloc _
          clear hw17b
          have D17b := Lib.hid (D0.out.kept kw17b)
          have I17b := Lib.hid (I0.out.kept kw17b)
          have O17b := Lib.hid (O0.out.kept kw17b)
          have higM : bi < wd.heap.size := I0.out.box.lt
          have h0gM : w0.heap.size ≤ wd.heap.size := D0.out.only.size
          obtain ⟨gM, hggM⟩ : ∃ b : Nat, b = wd.heap.size := ⟨_, rfl⟩
          skip
          rw [← hggM] at BM17b higM h0gM ⊢
          have hpgM : gM ≠ p := by omega
          clear hggM
          refine hK.out _ _ (HSS.out _ _ D17b.out) (fun hS17 => ?_)
          clear hK K hS0
          try simp only [Act.put, List.setIfInBounds_toArray, List.set_cons_zero, List.set_cons_succ]
          refine onlyL (i := 6) rfl (by kernel_rfl) (fun K hK => ?_)
          go_simp
          with_reducible refine (pick_any p _ (x.elems.length : Int) w17b D17b.out.cur (by omega) (by omega)).mono ?_
          rintro e w18c ⟨x6, rfl, ⟨lo6, hi6⟩, c7, on7⟩
          have D18c := Lib.hid (D17b.out.drawn c7 on7)
          have I18c := Lib.hid (I17b.out.drawn c7 on7)
          have O18c := Lib.hid (O17b.out.off on7 (HP.out w17b))
          have BM18c := BM17b.only on7 (not_one hpgM)
          obtain ⟨kx, rfl⟩ : ∃ j : Nat, x6 = (j : Int) := ⟨x6.toNat, by omega⟩
          have hkx : kx < x.elems.length := by have := hi6 (by omega); omega
          have hkx' : (kx : Int) < (x.elems.length : Int) := by omega
          obtain ⟨ye, hye⟩ : ∃ y, x.elems[kx]? = some y := ⟨_, List.getElem?_eq_getElem hkx⟩
          have HYE := Lib.hid hye
          have HYS : Hid (ye.name.size ≤ maxLen) := Lib.hid (D17b.out.elems.2 ye (List.mem_of_getElem? hye))
          clear hye hi6
          clear c7 on7
          go_wp2_with fail
          refine hK.out _ _ (HSS.out _ _ D18c.out) (fun hS18 => ?_)
          clear hK K hS17
          try simp only [Act.put, List.setIfInBounds_toArray, List.set_cons_zero, List.set_cons_succ]
          refine takeL (i := 7) (v := ?_) rfl (by kernel_rfl) (by kernel_rfl) (by kernel_rfl) (fun _ _ _ h => h) (Or.inl ⟨by rfl, ?_⟩) hS18 ?_
          rotate_left 1
          · (intro w hSw; (try dsimp only at hSw); go_simp; try with_reducible rfl)
          try simp only [Act.put, List.setIfInBounds_toArray, List.set_cons_zero, List.set_cons_succ]
          refine takeL (i := 8) (v := ?_) rfl (by kernel_rfl) (by kernel_rfl) (by kernel_rfl) (fun _ _ _ h => h) (Or.inl ⟨by rfl, ?_⟩) hS18 ?_
          rotate_left 1
          · (intro w hSw; (try dsimp only at hSw); go_simp; try with_reducible rfl)
          try simp only [Act.put, List.setIfInBounds_toArray, List.set_cons_zero, List.set_cons_succ]
          refine takeL (i := 9) (v := ?_) rfl (by kernel_rfl) (by kernel_rfl) (by kernel_rfl) (fun _ _ _ h => h) (Or.inl ⟨by rfl, ?_⟩) hS18 ?_
          rotate_left 1
          · (intro w hSw; (try dsimp only at hSw); have hq := NamesAt.at hSw.2 HYE.out; go_simp; try with_reducible rfl)
          try simp only [Act.put, List.setIfInBounds_toArray, List.set_cons_zero, List.set_cons_succ]
          refine readyL (rs := [10, 13]) (by kernel_rfl) (by simp) ?_
          refine consL (i := 10) rfl (fun K hK => ?_) (consL (i := 13) rfl (fun K hK => ?_) (allNil))
          ·
            go_simp
            obtain ⟨w19b, hw19b⟩ : ∃ x : World, x = w18c.alloc (.cells #[.string ye.name] 9) := ⟨_, rfl⟩
            rw [← hw19b]
            have BN19b : Box w19b w18c.heap.size 9 #[.string ye.name] := hw19b ▸ Box.new w18c _ _ _ rfl
            have kw19b : Kept w18c w19b := hw19b ▸ (Kept.refl w18c).alloc _
            clear hw19b
            have D19b := Lib.hid (D18c.out.kept kw19b)
            have I19b := Lib.hid (I18c.out.kept kw19b)
            have O19b := Lib.hid (O18c.out.kept kw19b)
            have higN : bi < w18c.heap.size := I18c.out.box.lt
            have h0gN : w0.heap.size ≤ w18c.heap.size := D18c.out.only.size
            obtain ⟨gN, hggN⟩ : ∃ b : Nat, b = w18c.heap.size := ⟨_, rfl⟩
            have BM19b := BM18c.kept kw19b
            have hnm : gN ≠ gM := by have := BM18c.lt; omega
            rw [← hggN] at BN19b higN h0gN ⊢
            have hpgN : gN ≠ p := by omega
            clear hggN
            refine hK.out _ _ (HSS.out _ _ D19b.out) (fun hS19 => ?_)
            clear hK K hS18
            try simp only [Act.put, List.setIfInBounds_toArray, List.set_cons_zero, List.set_cons_succ]
            refine onlyL (i := 13) rfl (by kernel_rfl) (fun K hK => ?_)
            go_simp
            with_reducible refine (one_any p _ 2 w19b D19b.out.cur (by omega) (by omega)).mono ?_
            rintro e w20c ⟨b13, rfl, c7, on7⟩
            have D20c := Lib.hid (D19b.out.drawn c7 on7)
            have I20c := Lib.hid (I19b.out.drawn c7 on7)
            have O20c := Lib.hid (O19b.out.off on7 (HP.out w19b))
            have BN20c := BN19b.only on7 (not_one hpgN)
            have BM20c := BM19b.only on7 (not_one hpgM)
            skip
            clear c7 on7
            go_wp2_with fail
            refine hK.out _ _ (HSS.out _ _ D20c.out) (fun hS20 => ?_)
            clear hK K hS19
            try simp only [Act.put, List.setIfInBounds_toArray, List.set_cons_zero, List.set_cons_succ]
            refine takeL (i := 14) (v := ?_) rfl (by kernel_rfl) (by kernel_rfl) (by kernel_rfl) (fun _ _ _ h => h) (Or.inl ⟨by rfl, ?_⟩) hS20 ?_
            rotate_left 1
            · (intro w hSw; (try dsimp only at hSw); go_simp; try with_reducible rfl)
            try simp only [Act.put, List.setIfInBounds_toArray, List.set_cons_zero, List.set_cons_succ]
            refine doneL (by kernel_rfl) ?_
            clear hS20
            obtain ⟨x3, y3⟩ := I20c.out.box.three
            go_wp2_with fail
            clear x3 y3
            obtain ⟨wz, hwz, Bz, Qz⟩ := set3 I20c.out.box (.slice (some ⟨gN, 0, none⟩) 1 1) (.slice (some ⟨gM, 0, none⟩) 1 1) (.bool b13)
            rw [← hwz]
            clear hwz
            go_meet
            exact ⟨⟨[ye.name], [0], b13⟩, _, _, (D20c.out.apartS Qz HDI.out.1).le (by omega), (I20c.out.fresh BN20c BM20c h0gN h0gM hnm (by omega) (by omega) HYS.out Bz Qz).le (by omega), O20c.out.only Qz HDI.out.2⟩
          ·
            go_simp
            with_reducible refine (one_any p _ 2 w18c D18c.out.cur (by omega) (by omega)).mono ?_
            rintro e w21c ⟨b13, rfl, c7, on7⟩
            have D21c := Lib.hid (D18c.out.drawn c7 on7)
            have I21c := Lib.hid (I18c.out.drawn c7 on7)
            have O21c := Lib.hid (O18c.out.off on7 (HP.out w18c))
            have BM21c := BM18c.only on7 (not_one hpgM)
            skip
            clear c7 on7
            go_wp2_with fail
            refine hK.out _ _ (HSS.out _ _ D21c.out) (fun hS21 => ?_)
            clear hK K hS18
            try simp only [Act.put, List.setIfInBounds_toArray, List.set_cons_zero, List.set_cons_succ]
            refine onlyL (i := 10) rfl (by kernel_rfl) (fun K hK => ?_)
            go_simp
            obtain ⟨w22b, hw22b⟩ : ∃ x : World, x = w21c.alloc (.cells #[.string ye.name] 9) := ⟨_, rfl⟩
            rw [← hw22b]
            have BN22b : Box w22b w21c.heap.size 9 #[.string ye.name] := hw22b ▸ Box.new w21c _ _ _ rfl
            have kw22b : Kept w21c w22b := hw22b ▸ (Kept.refl w21c).alloc _
            clear hw22b
            have D22b := Lib.hid (D21c.out.kept kw22b)
            have I22b := Lib.hid (I21c.out.kept kw22b)
            have O22b := Lib.hid (O21c.out.kept kw22b)
            have higN : bi < w21c.heap.size := I21c.out.box.lt
            have h0gN : w0.heap.size ≤ w21c.heap.size := D21c.out.only.size
            obtain ⟨gN, hggN⟩ : ∃ b : Nat, b = w21c.heap.size := ⟨_, rfl⟩
            have BM22b := BM21c.kept kw22b
            have hnm : gN ≠ gM := by have := BM21c.lt; omega
            rw [← hggN] at BN22b higN h0gN ⊢
            have hpgN : gN ≠ p := by omega
            clear hggN
            refine hK.out _ _ (HSS.out _ _ D22b.out) (fun hS22 => ?_)
            clear hK K hS21
            try simp only [Act.put, List.setIfInBounds_toArray, List.set_cons_zero, List.set_cons_succ]
            refine takeL (i := 14) (v := ?_) rfl (by kernel_rfl) (by kernel_rfl) (by kernel_rfl) (fun _ _ _ h => h) (Or.inl ⟨by rfl, ?_⟩) hS22 ?_
            rotate_left 1
            · (intro w hSw; (try dsimp only at hSw); go_simp; try with_reducible rfl)
            try simp only [Act.put, List.setIfInBounds_toArray, List.set_cons_zero, List.set_cons_succ]
            refine doneL (by kernel_rfl) ?_
            clear hS22
            obtain ⟨x3, y3⟩ := I22b.out.box.three
            go_wp2_with fail
            clear x3 y3
            obtain ⟨wz, hwz, Bz, Qz⟩ := set3 I22b.out.box (.slice (some ⟨gN, 0, none⟩) 1 1) (.slice (some ⟨gM, 0, none⟩) 1 1) (.bool b13)
            rw [← hwz]
            clear hwz
            go_meet
            exact ⟨⟨[ye.name], [0], b13⟩, _, _, (D22b.out.apartS Qz HDI.out.1).le (by omega), (I22b.out.fresh BN22b BM22b h0gN h0gM hnm (by omega) (by omega) HYS.out Bz Qz).le (by omega), O22b.out.only Qz HDI.out.2⟩
    case rest =>
      obtain ⟨jt, nv, mv, hs, hi, ho⟩ := hcut
      obtain ⟨Bn, dn, rfl, _⟩ := own_form hi.names.1
      obtain ⟨Bm, dm, rfl, _⟩ := own_form hi.marks
      replace HS := Lib.hid hs
      replace HI := Lib.hid hi
      replace HO := Lib.hid ho
      obtain ⟨w9, hw9⟩ : ∃ y : World, y = wc := ⟨_, rfl⟩
      rw [← hw9] at HS HI HO ⊢
      clear hs hi ho hw9 HBT
      go_upto_region 6 with (fail)
      have HSX : Hid (∀ w' : World, Box w' bb 26 #[.slice Ae x.elems.length ce, .slice Al x.limits.length cl, .int .i64 x.repeats, .int .i64 x.bonus, .int .i64 x.keeps, .int .i64 x.fall] → Box w' bi 30 #[Value.slice Bn jt.names.length dn, Value.slice Bm jt.marks.length dm, .bool jt.late] → (w'.cell? ⟨bb, 0, none⟩ = some (.slice Ae x.elems.length ce) ∧ w'.cell? ⟨bb, 1, none⟩ = some (.slice Al x.limits.length cl) ∧ w'.cell? ⟨bb, 2, none⟩ = some (.int .i64 x.repeats) ∧ w'.cell? ⟨bb, 3, none⟩ = some (.int .i64 x.bonus) ∧ w'.cell? ⟨bb, 4, none⟩ = some (.int .i64 x.keeps) ∧ w'.cell? ⟨bb, 5, none⟩ = some (.int .i64 x.fall)) ∧ (w'.cell? ⟨bi, 0, none⟩ = some (Value.slice Bn jt.names.length dn) ∧ w'.cell? ⟨bi, 1, none⟩ = some (Value.slice Bm jt.marks.length dm) ∧ w'.cell? ⟨bi, 2, none⟩ = some (.bool jt.late))) := Lib.hid (fun w' b b' => ⟨b.six.1, b'.three.1⟩)
      refine region_pop (S := fun w' => (w'.cell? ⟨bb, 0, none⟩ = some (.slice Ae x.elems.length ce) ∧ w'.cell? ⟨bb, 1, none⟩ = some (.slice Al x.limits.length cl) ∧ w'.cell? ⟨bb, 2, none⟩ = some (.int .i64 x.repeats) ∧ w'.cell? ⟨bb, 3, none⟩ = some (.int .i64 x.bonus) ∧ w'.cell? ⟨bb, 4, none⟩ = some (.int .i64 x.keeps) ∧ w'.cell? ⟨bb, 5, none⟩ = some (.int .i64 x.fall)) ∧ (w'.cell? ⟨bi, 0, none⟩ = some (Value.slice Bn jt.names.length dn) ∧ w'.cell? ⟨bi, 1, none⟩ = some (Value.slice Bm jt.marks.length dm) ∧ w'.cell? ⟨bi, 2, none⟩ = some (.bool jt.late))) 15 (by kernel_rfl) (by kernel_rfl) ?_
      simp only [List.take_succ_cons, List.take_zero, List.drop_succ_cons, List.drop_zero]
      refine startL (HSX.out _ (HS.out.kept (Kept.refl w9).drew).box (HI.out.kept (Kept.refl w9).drew).box) (fun hS0 => ?_)
      obtain ⟨wd, hwd⟩ : ∃ y : World, y = w9.drew := ⟨_, rfl⟩
      rw [← hwd] at hS0 ⊢
      have kd : Kept w9 wd := hwd ▸ (Kept.refl w9).drew
      have D0 := Lib.hid (HS.out.kept kd)
      have I0 := Lib.hid (HI.out.kept kd)
      have O0 := Lib.hid (HO.out.kept kd)
      have hw1 : IntKind.i64.wrap ((its.length : Int) + 2) = (its.length : Int) + 2 := IntWalk.i64_in _ (by omega)
      clear hwd
      refine takeL (i := 0) (v := ?_) rfl (by kernel_rfl) (by kernel_rfl) (by kernel_rfl) (fun _ _ _ h => h) (Or.inl ⟨by rfl, ?_⟩) hS0 ?_
      rotate_left 1
      · (intro w hSw; (try dsimp only at hSw); go_simp; try with_reducible rfl)
      try simp only [Act.put, List.setIfInBounds_toArray, List.set_cons_zero, List.set_cons_succ]
      refine takeL (i := 1) (v := ?_) rfl (by kernel_rfl) (by kernel_rfl) (by kernel_rfl) (fun _ _ _ h => h) (Or.inl ⟨by rfl, ?_⟩) hS0 ?_
      rotate_left 1
      · (intro w hSw; (try dsimp only at hSw); go_simp; try with_reducible rfl)
      try simp only [Act.put, List.setIfInBounds_toArray, List.set_cons_zero, List.set_cons_succ]
      refine takeL (i := 2) (v := ?_) rfl (by kernel_rfl) (by kernel_rfl) (by kernel_rfl) (fun _ _ _ h => h) (Or.inl ⟨by rfl, ?_⟩) hS0 ?_
      rotate_left 1
      · (intro w hSw; (try dsimp only at hSw); go_simp; try with_reducible rfl)
      try simp only [Act.put, List.setIfInBounds_toArray, List.set_cons_zero, List.set_cons_succ]
      refine takeL (i := 3) (v := ?_) rfl (by kernel_rfl) (by kernel_rfl) (by kernel_rfl) (fun _ _ _ h => h) (Or.inl ⟨by rfl, ?_⟩) hS0 ?_
      rotate_left 1
      · (intro w hSw; (try dsimp only at hSw); go_simp; try with_reducible rfl)
      try simp only [Act.put, List.setIfInBounds_toArray, List.set_cons_zero, List.set_cons_succ]
      refine takeL (i := 4) (v := ?_) rfl (by kernel_rfl) (by kernel_rfl) (by kernel_rfl) (fun _ _ _ h => h) (Or.inl ⟨by rfl, ?_⟩) hS0 ?_
      rotate_left 1
      · (intro w hSw; (try dsimp only at hSw); go_simp; try with_reducible rfl)
      try simp only [Act.put, List.setIfInBounds_toArray, List.set_cons_zero, List.set_cons_succ]
      refine takeL (i := 5) (v := ?_) rfl (by kernel_rfl) (by kernel_rfl) (by kernel_rfl) (fun _ _ _ h => h) (Or.inl ⟨by rfl, ?_⟩) hS0 ?_
      rotate_left 1
      · (intro w hSw; (try dsimp only at hSw); go_simp; try with_reducible rfl)
      try simp only [Act.put, List.setIfInBounds_toArray, List.set_cons_zero, List.set_cons_succ]
      refine takeL (i := 7) (v := ?_) rfl (by kernel_rfl) (by kernel_rfl) (by kernel_rfl) (fun _ _ _ h => h) (Or.inl ⟨by rfl, ?_⟩) hS0 ?_
      rotate_left 1
      · (intro w hSw; (try dsimp only at hSw); go_simp; try with_reducible rfl)
      try simp only [Act.put, List.setIfInBounds_toArray, List.set_cons_zero, List.set_cons_succ]
      refine takeL (i := 11) (v := ?_) rfl (by kernel_rfl) (by kernel_rfl) (by kernel_rfl) (fun _ _ _ h => h) (Or.inl ⟨by rfl, ?_⟩) hS0 ?_
      rotate_left 1
      · (intro w hSw; (try dsimp only at hSw); go_simp; try with_reducible rfl)
      try simp only [Act.put, List.setIfInBounds_toArray, List.set_cons_zero, List.set_cons_succ]
      refine onlyL (i := 6) rfl (by kernel_rfl) (fun K hK => ?_)
      go_simp
      with_reducible refine (pick_any p _ ((its.length : Int) + 2) wd D0.out.cur (by omega) (by omega)).mono ?_
      rintro e w6 ⟨x6, rfl, ⟨loN, hiN⟩, cN, onN⟩
      have D6 := Lib.hid (D0.out.drawn cN onN)
      have O6 := Lib.hid (O0.out.off onN (HP.out wd))
      have I6 := Lib.hid (I0.out.drawn cN onN)
      clear cN onN hiN
      go_wp2_with fail
      refine hK.out _ _ (HSX.out _ D6.out.box I6.out.box) (fun hS1 => ?_)
      clear hK K hS0
      try simp only [Act.put, List.setIfInBounds_toArray, List.set_cons_zero, List.set_cons_succ]
      refine onlyL (i := 8) rfl (by kernel_rfl) (fun K hK => ?_)
      go_simp
      with_reducible refine (pick_any p _ 20 w6 D6.out.cur (by omega) (by omega)).mono ?_
      rintro e w8 ⟨x8, rfl, ⟨loN, hiN⟩, cN, onN⟩
      have D8 := Lib.hid (D6.out.drawn cN onN)
      have O8 := Lib.hid (O6.out.off onN (HP.out w6))
      obtain ⟨u, hu, hu0, hu1⟩ : ∃ q : Int, x8.tdiv 19 = q ∧ 0 ≤ q ∧ q ≤ 1 := ⟨_, rfl, Int.tdiv_nonneg loN (by omega), by have := hiN (by omega); rw [Int.tdiv_eq_ediv_of_nonneg loN]; omega⟩
      have hue : x8 / 19 = u := by rw [← hu, Int.tdiv_eq_ediv_of_nonneg loN]
      have hu9 : IntKind.i64.wrap u = u := IntWalk.i64_in _ (by omega)
      obtain ⟨nn, hw9⟩ : ∃ n : Int, IntKind.i64.wrap (x6 - u) = n := ⟨_, rfl⟩
      have I8 := Lib.hid (I6.out.drawn cN onN)
      clear cN onN hiN
      go_wp2_with fail
      refine hK.out _ _ (HSX.out _ D8.out.box I8.out.box) (fun hS2 => ?_)
      clear hK K hS1
      try simp only [Act.put, List.setIfInBounds_toArray, List.set_cons_zero, List.set_cons_succ]
      refine takeL (i := 9) (v := ?_) rfl (by kernel_rfl) (by kernel_rfl) (by kernel_rfl) (fun _ _ _ h => h) (Or.inl ⟨by rfl, ?_⟩) hS2 ?_
      rotate_left 1
      · (intro w hSw; (try dsimp only at hSw); go_simp; try with_reducible rfl)
      try simp only [Act.put, List.setIfInBounds_toArray, List.set_cons_zero, List.set_cons_succ]
      refine takeL (i := 10) (v := ?_) rfl (by kernel_rfl) (by kernel_rfl) (by kernel_rfl) (fun _ _ _ h => h) (Or.inl ⟨by rfl, ?_⟩) hS2 ?_
      rotate_left 1
      · (intro w hSw; (try dsimp only at hSw); go_simp; try with_reducible rfl)
      try simp only [Act.put, List.setIfInBounds_toArray, List.set_cons_zero, List.set_cons_succ]
      refine onlyL (i := 12) rfl (by kernel_rfl) (fun K hK => ?_)
      clear hw1 hu hue hu9 hw9
      have B2 := BR.out.only D8.out.only (not_one hrp)
      obtain ⟨x2, y2⟩ := B2.six
      go_simp
      clear x2 y2
      obtain ⟨wz, hwz, Bz, Qz⟩ := set6 B2 (Value.slice Ae x.elems.length ce) (Value.slice Al x.limits.length cl) (.int .i64 x.repeats) (.int .i64 x.bonus) (.int .i64 x.keeps) (.int .i64 x.fall)
      rw [← hwz]
      clear hwz
      have hbr : bb ≠ w.heap.size := by have := D8.out.hbb; omega
      have hbq : bi ≠ w.heap.size := by have := I8.out.hbb; omega
      refine hK.out _ _ (HSX.out _ (D8.out.box.only Qz (not_one hbr)) (I8.out.box.only Qz (not_one hbq))) (fun hS3 => ?_)
      clear hK K hS2
      try simp only [Act.put, List.setIfInBounds_toArray, List.set_cons_zero, List.set_cons_succ]
      refine onlyL (i := 13) rfl (by kernel_rfl) (fun K hK => ?_)
      go_simp
      refine hK.out _ _ (HSX.out _ (D8.out.box.only Qz (not_one hbr)) (I8.out.box.only Qz (not_one hbq))) (fun hS4 => ?_)
      clear hK K hS3
      try simp only [Act.put, List.setIfInBounds_toArray, List.set_cons_zero, List.set_cons_succ]
      refine onlyL (i := 14) rfl (by kernel_rfl) (fun K hK => ?_)
      go_simp
      refine hK.out _ _ (HSX.out _ (D8.out.box.only Qz (not_one hbr)) (I8.out.box.only Qz (not_one hbq))) (fun hS5 => ?_)
      clear hK K hS4
      try simp only [Act.put, List.setIfInBounds_toArray, List.set_cons_zero, List.set_cons_succ]
      refine doneL (by kernel_rfl) ?_
      clear hS5
      have BTz := (BT.out.only D8.out.only (not_one htp)).only Qz (not_one htr)
      obtain ⟨x4, y4⟩ := BTz.three
      go_wp2_with fail
      clear x4 y4
      obtain ⟨wy, hwy, By, Qy⟩ := set3 BTz (Value.slice Bn jt.names.length dn) (Value.slice Bm jt.marks.length dm) (.bool jt.late)
      rw [← hwy]
      clear hwy
      have BRy := Bz.only Qy (not_one (Ne.symm htr))
      obtain ⟨cc, ff⟩ := BRy.six
      obtain ⟨cd, fd⟩ := By.three
      refine bodyPost_ret (v := .tuple #[.agg #[Value.slice Ae x.elems.length ce, Value.slice Al x.limits.length cl, .int .i64 x.repeats, .int .i64 x.bonus, .int .i64 x.keeps, .int .i64 x.fall], .slice Aq its.length cq, .int .i64 nn, .agg #[Value.slice Bn jt.names.length dn, Value.slice Bm jt.marks.length dm, .bool jt.late]]) (by simp [results, Tryz.results4, go_sem, cc, ff, cd, fd]) rfl ?_
      exact FIN.out _ wz wy _ _ _ x _ _ nn jt D8.out.own O8.out I8.out.own D8.out.only Qz Qy ⟨h25, h6⟩ hi15
end Go.Proofs.YtkekpolfdmmgeaaGreat
