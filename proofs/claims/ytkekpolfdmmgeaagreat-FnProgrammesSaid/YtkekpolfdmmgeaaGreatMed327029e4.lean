/- Contracts of functions that the proof leans on. No condition. -/
import Derived.Test.YtkekpolfdmmgeaaGreatMe374b5a9f8
/- Draws: a code and a programme as long as can be. -/
namespace Go.Proofs.YtkekpolfdmmgeaaGreat
set_option linter.unusedVariables false
set_option linter.unusedSimpArgs false
set_option linter.unnecessarySimpa false
open Go.RowKit Go.Lib

theorem DrSt.apartS {p bb B m : Nat} {w1 wr w' : World} {c : CodeD} {ev lv : Value} {S : List Nat} (H : DrSt p bb B m w1 wr c ev lv) (on : Only S wr w') (hS : ∀ b ∈ S, w1.heap.size ≤ b ∧ b ≠ bb ∧ b ∉ fp ev ++ fp lv ∧ True) : DrSt p bb B m w1 w' c ev lv := by
  have h1 := H.hp
  exact ⟨H.box.only on (fun h => (hS _ h).2.1 rfl), H.elems.only on (fun b hb h => (hS _ h).2.2.1 (List.mem_append_left _ hb)), H.lims.only on (fun b hb h => (hS _ h).2.2.1 (List.mem_append_right _ hb)), H.apart, H.cur.far on (fun x hx => by have := (hS x hx).1; omega), H.only.overD on (fun x hx => (hS x hx).1), h1, H.hbb, H.hB, H.ne⟩
theorem Aside.apartS {g : Nat} {t : TypeId} {cs : Array Value} {p bb : Nat} {wr w' : World} {ev : Value} {S : List Nat} (H : Aside g t cs p bb wr ev) (on : Only S wr w') (hS : g ∉ S) : Aside g t cs p bb w' ev := ⟨H.box.only on hS, H.np, H.nb, H.ne⟩
/-- a list's blocks and a code's: another element is appended to the code -/
theorem dis_setE {sz sz' bb gn B : Nat} {L : List Nat} {ev lv v' : Value} (h : ∀ b ∈ L, B ≤ b ∧ b ≠ bb ∧ b ∉ fp ev ++ fp lv ∧ b ≠ gn) (hl : ∀ b ∈ L, b < sz) (hs : sz ≤ sz') (f : ∀ b ∈ fp v', b ∈ fp ev ∨ b = sz') : ∀ b ∈ L, B ≤ b ∧ b ≠ bb ∧ b ∉ fp v' ++ fp lv ∧ b ≠ gn := fun b hb => by
  obtain ⟨h1, h2, h3, h4⟩ := h b hb
  refine ⟨h1, h2, fun hx => ?_, h4⟩
  rcases List.mem_append.1 hx with hx | hx
  · rcases f b hx with q | q
    · exact h3 (List.mem_append_left _ q)
    · have := hl b hb; omega
  · exact h3 (List.mem_append_right _ hx)
/-- and another item to the list: its blocks are the list's or new -/
theorem fresh_list {w6 : World} {base N : Nat} {v v' nv mv : Value} {its : List ItemD} {cs : List (Value × Value)} (h : OwnC w6 base v its cs) (hl : ∀ b ∈ fp v ++ fpL cs, b < N) (hs : N ≤ w6.heap.size) (hv : v'.ownBlock = v.ownBlock ∨ v'.ownBlock = some w6.heap.size) (hn : ∀ b ∈ fp nv ++ fp mv, N ≤ b) : ∀ b ∈ fp v' ++ fpL (cs ++ [(nv, mv)]), b ∈ fp v ++ fpL cs ∨ N ≤ b := fun b hb => by
  rcases List.mem_append.1 hb with hb | hb
  · unfold fp at hb
    rcases hv with e | e
    · rw [e] at hb
      exact .inl (List.mem_append_left _ hb)
    · rw [e] at hb
      simp at hb
      exact .inr (by omega)
  · have e : fpL (cs ++ [(nv, mv)]) = fpL cs ++ (fp nv ++ fp mv) := by simp [fpL]
    rw [e] at hb
    rcases List.mem_append.1 hb with hb | hb
    · exact .inl (List.mem_append_right _ hb)
    · exact .inr (hn b hb)
theorem dis_push {bb gn B N : Nat} {L L' : List Nat} {ev lv : Value} (h : ∀ b ∈ L, B ≤ b ∧ b ≠ bb ∧ b ∉ fp ev ++ fp lv ∧ b ≠ gn) (hc : ∀ b ∈ fp ev ++ fp lv, b < N) (hg : gn < N) (hb : bb < N) (hB : B ≤ N) (hf : ∀ b ∈ L', b ∈ L ∨ N ≤ b) : ∀ b ∈ L', B ≤ b ∧ b ≠ bb ∧ b ∉ fp ev ++ fp lv ∧ b ≠ gn := fun b hb' => by
  rcases hf b hb' with q | q
  · exact h b q
  · exact ⟨by omega, by omega, fun hx => by have := hc b hx; omega, by omega⟩

set_option maxRecDepth 100000 in
set_option maxHeartbeats 16000000 in
theorem fullProgramme_any (p m : Nat) (w : World) (h : Cur w p m) (hm : m ≤ 10000000) :
    Calls Tryz.prog 50 #[.pointer (some ⟨p, 0, none⟩)] w fun e w' => PgPost w e w' 15 ∧ Cur w' p (m + 600) ∧ Only [p] w w' := by
  have hpl := h.lt
  have CW := Lib.hid h
  clear h
  go_enter Tryz.func50, Tryz.ntmps50
  go_wp2_with fail
  obtain ⟨w0, hw0⟩ : ∃ x : World, x = w.alloc (.cells #[.slice none 0 0, .slice none 0 0, .int .i64 0, .int .i64 0, .int .i64 0, .int .i64 0] 26) := ⟨_, rfl⟩
  rw [← hw0]
  have BR := Lib.hid (show Box w0 w.heap.size 26 #[.slice none 0 0, .slice none 0 0, .int .i64 0, .int .i64 0, .int .i64 0, .int .i64 0] from hw0 ▸ Box.new w _ _ _ rfl)
  have K0 : Hid (Kept w w0) := Lib.hid (hw0 ▸ (Kept.refl w).alloc _)
  have C0 := Lib.hid (CW.out.kept K0.out)
  have sz0 : w.heap.size < w0.heap.size := BR.out.lt
  have hsz : w.heap.size + 1 = w0.heap.size := by rw [hw0]; simp
  have hpl0 : p < w0.heap.size := by omega
  have hrp : w.heap.size ≠ p := by omega
  have FIN : Hid (∀ (N : Nat) (w3 w9 : World) (cv lv : Value) (X : CodeD) (its : List ItemD) (cs : List (Value × Value)), OwnK w3 w0.heap.size cv X → OwnC w3 N lv its cs → w0.heap.size ≤ N → (∀ b ∈ fpA cv, b < N) → Only [p] w0 w3 → Cur w3 p (m + 600) → Only [w.heap.size] w3 w9 → (1 ≤ X.elems.length ∧ X.elems.length ≤ 24) → X.limits.length = 5 → its.all itemB = true → its.length ≤ 15 →
        PgPost w (.returned (.tuple #[cv, lv])) w9 15 ∧ Cur w9 p (m + 600) ∧ Only [p] w w9) := Lib.hid (fun N w3 w9 cv lv X its cs a b hN hc on cu q h1 h2 h3 h4 => by
      have hq : ∀ b ∈ [w.heap.size], b < w0.heap.size ∨ w3.heap.size ≤ b := fun b hb => by rw [List.mem_singleton] at hb; omega
      have hq2 : ∀ b ∈ [w.heap.size], b < N ∨ w3.heap.size ≤ b := fun b hb => by rw [List.mem_singleton] at hb; omega
      exact ⟨⟨cv, lv, X, its, cs, N, rfl, OwnK.base (a.off q hq) (by omega), b.off q hq2, by omega, hc, h1, h2, h3, h4⟩, cu.far q (fun x hx => by rw [List.mem_singleton] at hx; omega), ((K0.out.only _).trans on).overD q (fun x hx => by rw [List.mem_singleton] at hx; omega)⟩)
  clear hw0 CW
  try rw [hsz]
  obtain ⟨wa, hwa⟩ : ∃ x : World, x = w0.alloc (.cells #[.int .i64 9, .int .i64 9, .int .i64 9, .int .i64 9, .int .i64 9] 3) := ⟨_, rfl⟩
  rw [← hwa]
  have BL : Box wa w0.heap.size 3 #[.int .i64 9, .int .i64 9, .int .i64 9, .int .i64 9, .int .i64 9] := hwa ▸ Box.new w0 _ _ _ rfl
  have ka : Kept w0 wa := hwa ▸ (Kept.refl w0).alloc _
  have hsa : w.heap.size + 1 + 1 = wa.heap.size := by rw [hwa, hsz]; simp
  have hsb : w0.heap.size + 1 = wa.heap.size := by rw [hwa]; simp
  have OI9 : OwnI wa w0.heap.size (.slice (some ⟨w0.heap.size, 0, none⟩) 5 5) [9, 9, 9, 9, 9] := own_of_box BL (Nat.le_refl _) (Nat.le_refl _) (by unfold maxLen; omega) rfl rfl
  have HD := Lib.hid (OwnK.boxed (c := ⟨[], [9, 9, 9, 9, 9], 1, 0, 80, 0⟩) (own_nil' wa w0.heap.size) OI9 (by simp [fpA, fp, Value.ownBlock]) (C0.out.kept ka) (ka.only _) hpl0 (Nat.le_refl _))
  dsimp only at HD
  try rw [hsa]
  try rw [hsb]
  obtain ⟨wb, hwb⟩ : ∃ y : World, y = wa.alloc (.cells #[.slice none 0 0, .slice (some ⟨w0.heap.size, 0, none⟩) 5 5, .int .i64 1, .int .i64 0, .int .i64 80, .int .i64 0] 26) := ⟨_, rfl⟩
  obtain ⟨bb, hbb⟩ : ∃ b : Nat, b = wa.heap.size := ⟨_, rfl⟩
  rw [← hwb, ← hbb] at HD ⊢
  clear hwb hwa hbb hsz hsa hsb BL OI9 C0
  with_reducible refine (pick_any p _ 2 wb HD.out.cur (by omega) (by omega)).mono ?_
  rintro e w3 ⟨x3, rfl, ⟨lo3, hi3⟩, c3, on3⟩
  obtain ⟨n, hn, hn15⟩ : ∃ j : Nat, IntKind.i64.wrap (14 + x3) = (j : Int) ∧ j ≤ 15 := ⟨(14 + x3).toNat, by rw [IntWalk.i64_in _ (by have := hi3 (by omega); omega)]; omega, by have := hi3 (by omega); omega⟩
  have HS3 := Lib.hid (HD.out.drawn c3 on3)
  have h14 : 14 + x3 = (n : Int) := by rw [← hn, IntWalk.i64_in _ (by have := hi3 (by omega); omega)]
  clear c3 on3 hi3 HD
  go_wp2_with fail
  refine (elementNames_any w3).mono ?_
  rintro e wn ⟨rfl, bn, kn⟩
  have HSN := Lib.hid (HS3.out.kept kn)
  have HAN0 : Hid (Aside w3.heap.size 9 (elN.map Value.string).toArray p bb wn (.slice none 0 0)) := Lib.hid ⟨bn, Nat.ne_of_gt HS3.out.cur.lt, Nat.ne_of_gt HS3.out.box.lt, fun hb => by cases hb⟩
  have hgl : w0.heap.size < w3.heap.size := (own_fp HS3.out.lims w0.heap.size (by simp [fp_some])).2
  obtain ⟨gn, hgn⟩ : ∃ b : Nat, b = w3.heap.size := ⟨_, rfl⟩
  rw [← hgn] at HAN0 hgl ⊢
  clear bn kn hgn HS3
  go_wp2_with fail
  go_loopw [5, 16] (fun s5 s16 wr => ∃ (k : Nat) (c : CodeD) (ev lv : Value) (its : List ItemD) (cs : List (Value × Value)), s16 = .int .i64 k ∧ k ≤ 24 ∧ c.elems.length = k ∧ c.limits.length = 5 ∧ its.length ≤ 15 ∧ its.length ≤ k ∧ its.all itemB = true ∧ OwnC wr w0.heap.size s5 its cs ∧ DrSt p bb w0.heap.size (m + 2) w0 wr c ev lv ∧ Aside gn 9 (elN.map Value.string).toArray p bb wr ev ∧ ∀ b ∈ fp s5 ++ fpL cs, w0.heap.size ≤ b ∧ b ≠ bb ∧ b ∉ fp ev ++ fp lv ∧ b ≠ gn) (fun _ i _ => 24 - (RowKit.intOf i).toNat)
  case atStart => exact ⟨0, _, _, _, [], [], rfl, by omega, rfl, rfl, by simp, by simp, rfl, OwnC.nil0 _ _, HSN.out.le (by omega), HAN0.out, fun b hb => by cases hb⟩
  case round =>
    clear HSN HAN0
    obtain ⟨k, c, ev, lv, its, cs, rfl, hk, hck, hl5, hi15, hik, hva, ho, hst, has, hdis⟩ := hrel
    have HO := Lib.hid ho
    have HCK := Lib.hid hck
    have HL5 := Lib.hid hl5
    have HVA := Lib.hid hva
    have HST := Lib.hid hst
    have HAN := Lib.hid has
    have HDIS := Lib.hid hdis
    have szr : w0.heap.size ≤ wr.heap.size := hst.only.size
    obtain ⟨Aq, cq, rfl, hnq, hmq, _⟩ := own_form ho.2.1
    unfold maxLen at hmq
    obtain ⟨Ae, ce, rfl, _⟩ := own_form hst.elems.1
    obtain ⟨Al, cl, rfl, _⟩ := own_form hst.lims
    clear ho hck hl5 hva hst has hdis
    by_cases hk24 : k < 24
    · have hk24' : (k : Int) < 24 := by omega
      obtain ⟨z, hz⟩ : ∃ z, elN[k]? = some z := ⟨_, List.getElem?_eq_getElem (by rw [elN_len]; exact hk24)⟩
      have hyz : z.size ≤ maxLen := by have := elN_sz (List.mem_of_getElem? hz); unfold maxLen; omega
      have HZN := Lib.hid (elN_name (List.mem_of_getElem? hz))
      have hN : ((elN.map Value.string).toArray)[k]? = some (.string z) := by rw [List.getElem?_toArray, List.getElem?_map, hz]; rfl
      have hx : wr.cell? ⟨gn, k, none⟩ = some (.string z) := (HAN.out.box.cell k).trans hN
      have hce : c.elems.length ≤ 24 := by have := HCK.out; omega
      obtain ⟨yf, hyf⟩ : ∃ x : Int, (k : Int).tmod 5 = x := ⟨_, rfl⟩
      have hyf2 : IntKind.i64.wrap ((k : Int).tmod 5) = yf := by rw [← hyf]; exact IntWalk.i64_in _ (by have := Int.tmod_lt_of_pos (k : Int) (show (0 : Int) < 5 by omega); have := Int.tmod_nonneg 5 (show (0 : Int) ≤ (k : Int) by omega); omega)
      have hyf3 : (k : Int) % 5 = yf := by rw [← hyf, Int.tmod_eq_emod_of_nonneg (by omega)]
      have hyf4 : IntKind.i64.wrap yf = yf := by rw [← hyf]; exact IntWalk.i64_in _ (by have := Int.tmod_lt_of_pos (k : Int) (show (0 : Int) < 5 by omega); have := Int.tmod_nonneg 5 (show (0 : Int) ≤ (k : Int) by omega); omega)
      have hw1 : IntKind.i64.wrap (10 * (k : Int)) = 10 * (k : Int) := IntWalk.i64_in _ (by omega)
      have hw2 : IntKind.i64.wrap (100 + 10 * (k : Int)) = 100 + 10 * (k : Int) := IntWalk.i64_in _ (by omega)
      clear hN hz
      obtain ⟨xb, yb⟩ := HST.out.box.six
      go_upto_region 8 with (at_builtin; refine wpList_append_ED _ rfl _ _ rfl w0.heap.size (.slice Ae c.elems.length ce) c.elems rfl (HST.out.elems.kept ((Kept.refl wr).alloc _)) _ [(ElemD.mk z yf 0 (100 + 10 * (k : Int)))] rfl (elems_one (ElemD.mk z yf 0 (100 + 10 * (k : Int))) (Box.new _ _ _ _ rfl) hyz) (by simp only [List.length_cons, List.length_nil]; omega) (Nat.le_trans szr ((Kept.refl wr).alloc _).size) ?_; intro v5 w5 o5 on5 f5; have D5 := HST.out.kept ((Kept.refl wr).alloc (.cells #[.string z, .int .i64 yf, .int .i64 0, .int .i64 (100 + 10 * (k : Int))] 60)); have A5 := HAN.out.kept ((Kept.refl wr).alloc (.cells #[.string z, .int .i64 yf, .int .i64 0, .int .i64 (100 + 10 * (k : Int))] 60)); have ST := Lib.hid (D5.setE on5 o5 f5); have SA := Lib.hid (A5.setE on5 f5); obtain ⟨x5, y5⟩ := (D5.midE on5).1.six; have hl5 : (c.elems ++ [(ElemD.mk z yf 0 (100 + 10 * (k : Int)))]).length = c.elems.length + 1 := (by simp); obtain ⟨A5', c5, rfl, _⟩ := own_form o5.1; rw [hl5] at ST SA f5 ⊢; have OL := Lib.hid (((HO.out.kept ((Kept.refl wr).alloc (.cells #[.string z, .int .i64 yf, .int .i64 0, .int .i64 (100 + 10 * (k : Int))] 60))).only on5 (fun b hb hs => (HDIS.out b hb).2.2.1 (List.mem_append_left _ hs))).only (only_set w5 bb 0 (.slice A5' (c.elems.length + 1) c5)) (fun b hb => not_one (HDIS.out b hb).2.1)); have HDB := Lib.hid (dis_setE (sz := wr.heap.size) HDIS.out (fun b hb => (HO.out.fps b hb).2) (by simp) f5); clear o5 on5 f5 D5 A5 hl5)
      clear xb yb x5 y5 hx hyf2 hyf3 hyf4 hw1 hw2
      obtain ⟨w9, hw9⟩ : ∃ x : World, x = w5.setCell ⟨bb, 0, none⟩ (.slice A5' (c.elems.length + 1) c5) := ⟨_, rfl⟩
      rw [← hw9] at ST SA OL ⊢
      clear hw9
      have sz9 : w0.heap.size ≤ w9.heap.size := ST.out.only.size
      by_cases hkn : k < n
      · have hkn' : (k : Int) < (n : Int) := by omega
        go_wp2_with (at_builtin; (refine wpList_append_T _ rfl _ _ rfl w0.heap.size (.slice Aq its.length cq) its.length _ rfl (OL.out.kept ((((Kept.refl w9).alloc _).alloc _).alloc _)).2.1 (w9.heap.size + 1 + 1) (.slice (some ⟨w9.heap.size, 0, none⟩) 1 1) (.slice (some ⟨w9.heap.size + 1, 0, none⟩) 1 1) (.bool false) rfl (Box.new _ _ _ _ (by simp)) ⟨rfl, rfl, rfl⟩ (by omega) (Nat.le_trans sz9 ((((Kept.refl w9).alloc _).alloc _).alloc _).size) ?_; intro v6 w6 o6 g6 h6; have ka := (Kept.refl w9).alloc (.cells #[.string z] 9); have kb := (Kept.refl (w9.alloc (.cells #[.string z] 9))).alloc (.cells #[.int .i64 0] 3); have k6 := ((ka.trans kb).alloc (.cells #[.slice (some ⟨w9.heap.size, 0, none⟩) 1 1, .slice (some ⟨w9.heap.size + 1, 0, none⟩) 1 1, .bool false] 30)); have OQ := OL.out.kept k6; have ON := lit_ownS (B := w0.heap.size) (((Box.new w9 w9.heap.size 9 #[.string z] rfl).alloc (.cells #[.int .i64 0] 3)).alloc (.cells #[.slice (some ⟨w9.heap.size, 0, none⟩) 1 1, .slice (some ⟨w9.heap.size + 1, 0, none⟩) 1 1, .bool false] 30)) sz9 hyz; have OM := lit_ownI (B := w0.heap.size) ((Box.new (w9.alloc (.cells #[.string z] 9)) (w9.heap.size + 1) 3 #[.int .i64 0] (by simp)).alloc (.cells #[.slice (some ⟨w9.heap.size, 0, none⟩) 1 1, .slice (some ⟨w9.heap.size + 1, 0, none⟩) 1 1, .bool false] 30)) (by omega); have OP := Lib.hid (OwnC.push (it := ⟨[z], [0], false⟩) OQ ON OM (by simp [fp_some]) (fun b hb hb' => by have h1 := OL.out.fps b hb'; simp only [fp_some, List.mem_append, List.mem_singleton] at hb; omega) o6 g6 h6); have HF := Lib.hid (fresh_list (nv := .slice (some ⟨w9.heap.size, 0, none⟩) 1 1) (mv := .slice (some ⟨w9.heap.size + 1, 0, none⟩) 1 1) OQ (fun b hb => (OL.out.fps b hb).2) k6.size h6 (fun b hb => by simp only [fp_some, List.mem_append, List.mem_singleton] at hb; omega)); have S6 := Lib.hid ((ST.out.kept k6).apartS (only_of_grown g6) (fun b hb => by have q := HDB.out b (List.mem_append_left _ hb); exact ⟨q.1, q.2.1, q.2.2.1, trivial⟩)); have A6 := Lib.hid (Aside.apartS (SA.out.kept k6) (only_of_grown g6) (fun hb => (HDB.out gn (List.mem_append_left _ hb)).2.2.2 rfl)); obtain ⟨A6', c6, rfl, _⟩ := own_form o6; have HDF := Lib.hid (dis_push HDB.out (fun b hb => (ST.out.own.fps b (by rw [fpA_code]; exact hb)).2) SA.out.box.lt ST.out.box.lt sz9 HF.out); clear o6 g6 h6 OQ k6 ka kb ON OM))
        go_roundw
        case rel => exact ⟨k + 1, { c with elems := c.elems ++ [(ElemD.mk z yf 0 (100 + 10 * (k : Int)))] }, _, _, its ++ [⟨[z], [0], false⟩], _, by go_num, by omega, by have := HCK.out; simp; omega, HL5.out, by simp; omega, by simp; omega, by rw [List.all_append, HVA.out]; simp [itemB, HZN.out]; decide, OP.out, S6.out, A6.out, fun b hb => HDF.out b hb⟩
        case measure => simp [RowKit.intOf]; omega
      · have hkn' : ¬ (k : Int) < (n : Int) := by omega
        go_wp2_with fail
        go_roundw
        case rel => exact ⟨k + 1, { c with elems := c.elems ++ [(ElemD.mk z yf 0 (100 + 10 * (k : Int)))] }, _, _, its, cs, by go_num, by omega, by have := HCK.out; simp; omega, HL5.out, by omega, by omega, HVA.out, OL.out, ST.out, SA.out, HDB.out⟩
        case measure => simp [RowKit.intOf]; omega
    · obtain rfl : k = 24 := by omega
      have HX6 : Hid (∀ w' : World, Box w' bb 26 #[Value.slice Ae c.elems.length ce, Value.slice Al c.limits.length cl, .int .i64 c.repeats, .int .i64 c.bonus, .int .i64 c.keeps, .int .i64 c.fall] → w'.cell? ⟨bb, 0, none⟩ = some (.slice Ae c.elems.length ce) ∧ w'.cell? ⟨bb, 1, none⟩ = some (.slice Al c.limits.length cl) ∧ w'.cell? ⟨bb, 2, none⟩ = some (.int .i64 c.repeats) ∧ w'.cell? ⟨bb, 3, none⟩ = some (.int .i64 c.bonus) ∧ w'.cell? ⟨bb, 4, none⟩ = some (.int .i64 c.keeps) ∧ w'.cell? ⟨bb, 5, none⟩ = some (.int .i64 c.fall)) := Lib.hid (fun w' b => b.six.1)
      obtain ⟨xb, yb⟩ := HST.out.box.six
      go_upto_region 11 with (fail)
      clear xb yb
      refine region_pop (S := fun w' => w'.cell? ⟨bb, 0, none⟩ = some (.slice Ae c.elems.length ce) ∧ w'.cell? ⟨bb, 1, none⟩ = some (.slice Al c.limits.length cl) ∧ w'.cell? ⟨bb, 2, none⟩ = some (.int .i64 c.repeats) ∧ w'.cell? ⟨bb, 3, none⟩ = some (.int .i64 c.bonus) ∧ w'.cell? ⟨bb, 4, none⟩ = some (.int .i64 c.keeps) ∧ w'.cell? ⟨bb, 5, none⟩ = some (.int .i64 c.fall)) 4 (by kernel_rfl) (by kernel_rfl) ?_
      simp only [List.take_succ_cons, List.take_zero, List.drop_succ_cons, List.drop_zero]
      refine startL (HX6.out _ (HST.out.kept (Kept.refl wr).drew).box) (fun hS0 => ?_)
      obtain ⟨wd, hwd⟩ : ∃ y : World, y = wr.drew := ⟨_, rfl⟩
      rw [← hwd] at hS0 ⊢
      have kd : Kept wr wd := hwd ▸ (Kept.refl wr).drew
      have D0 := Lib.hid (HST.out.kept kd)
      have HOD := Lib.hid (HO.out.kept kd)
      clear hwd
      refine takeL (i := 0) (v := ?_) rfl (by kernel_rfl) (by kernel_rfl) (by kernel_rfl) (fun _ _ _ h => h) (Or.inl ⟨by rfl, ?_⟩) hS0 ?_
      rotate_left 1
      · (intro w hSw; (try dsimp only at hSw); go_simp; try with_reducible rfl)
      try simp only [Act.put, List.setIfInBounds_toArray, List.set_cons_zero, List.set_cons_succ]
      refine takeL (i := 1) (v := ?_) rfl (by kernel_rfl) (by kernel_rfl) (by kernel_rfl) (fun _ _ _ h => h) (Or.inl ⟨by rfl, ?_⟩) hS0 ?_
      rotate_left 1
      · (intro w hSw; (try dsimp only at hSw); go_simp; try with_reducible rfl)
      try simp only [Act.put, List.setIfInBounds_toArray, List.set_cons_zero, List.set_cons_succ]
      refine onlyL (i := 2) rfl (by kernel_rfl) (fun K hK => ?_)
      go_simp
      refine (pgLate_any _ its wd HOD.out.items HVA.out (by omega)).mono ?_
      rintro e w4 ⟨v4, ds, rfl, o4, k4⟩
      obtain ⟨Bq, dq, rfl, _⟩ := own_form o4.2.1
      have D4 := Lib.hid (D0.out.kept k4)
      have O4 := Lib.hid o4
      clear o4 k4
      go_wp2_with fail
      refine hK.out _ _ (HX6.out _ D4.out.box) (fun hS1 => ?_)
      clear hK K hS0
      try simp only [Act.put, List.setIfInBounds_toArray, List.set_cons_zero, List.set_cons_succ]
      refine onlyL (i := 3) rfl (by kernel_rfl) (fun K hK => ?_)
      have B2 := BR.out.only D4.out.only (not_one hrp)
      obtain ⟨x2, y2⟩ := B2.six
      go_simp
      clear x2 y2
      obtain ⟨w9, hw9, B9, Q9⟩ := set6 B2 (Value.slice Ae c.elems.length ce) (Value.slice Al c.limits.length cl) (.int .i64 c.repeats) (.int .i64 c.bonus) (.int .i64 c.keeps) (.int .i64 c.fall)
      rw [← hw9]
      clear hw9
      refine hK.out _ _ (HX6.out _ (D4.out.box.only Q9 (not_one (by have := D4.out.hbb; omega)))) (fun hS2 => ?_)
      clear hK K hS1
      try simp only [Act.put, List.setIfInBounds_toArray, List.set_cons_zero, List.set_cons_succ]
      refine doneL (by kernel_rfl) ?_
      clear hS2
      go_wp2_with fail
      obtain ⟨cc, ff⟩ := B9.six
      refine bodyPost_ret (v := .tuple #[.agg #[Value.slice Ae c.elems.length ce, Value.slice Al c.limits.length cl, .int .i64 c.repeats, .int .i64 c.bonus, .int .i64 c.keeps, .int .i64 c.fall], .slice Bq (lated its).length dq]) (by simp [results, Tryz.results50, go_sem, cc, ff]) rfl ?_
      exact FIN.out wd.heap.size _ w9 _ _ c _ _ D4.out.own O4.out (by have := D0.out.only.size; omega) (fun b hb => by rw [fpA_code] at hb; rcases List.mem_append.1 hb with hb | hb <;> first | exact (own_fp D0.out.elems.1 b hb).2 | exact (own_fp D0.out.lims b hb).2) D4.out.only (D4.out.cur.le (by omega)) Q9 (by have := HCK.out; omega) HL5.out (lated_itemB HVA.out) (by rw [lated_length]; omega)
end Go.Proofs.YtkekpolfdmmgeaaGreat

/- Lists of items of one's own: one item's mark, name or lateness is written. -/
namespace Go.Proofs.YtkekpolfdmmgeaaGreat
set_option linter.unusedVariables false
set_option linter.unusedSimpArgs false
set_option linter.unnecessarySimpa false
open Go.RowKit

theorem rows_same (it it' : ItemD) (hl : it'.late = it.late) : ∀ (cs : List (Value × Value)) (its : List ItemD) (k : Nat), its[k]? = some it → (cs.zip (its.set k it')).flatMap row3 = (cs.zip its).flatMap row3
  | [], its, k, _ => by simp
  | c :: cs, [], k, h => by simp at h
  | c :: cs, x :: its, 0, h => by
    simp only [List.getElem?_cons_zero, Option.some.injEq] at h
    subst h
    simp [row3, hl]
  | c :: cs, x :: its, k + 1, h => by
    simp only [List.getElem?_cons_succ] at h
    simp only [List.set_cons_succ, List.zip_cons_cons, List.flatMap_cons]
    rw [rows_same it it' hl cs its k h]
theorem rows_late (it it' : ItemD) : ∀ (cs : List (Value × Value)) (its : List ItemD) (k : Nat), cs.length = its.length → its[k]? = some it → (cs.zip (its.set k it')).flatMap row3 = ((cs.zip its).flatMap row3).set (k * 3 + 2) (.bool it'.late)
  | [], its, k, hc, h => by
    have : its = [] := List.eq_nil_of_length_eq_zero (by simpa using hc.symm)
    subst this
    simp at h
  | c :: cs, [], k, hc, h => by simp at h
  | c :: cs, x :: its, 0, hc, h => by simp [row3]
  | c :: cs, x :: its, k + 1, hc, h => by
    simp only [List.getElem?_cons_succ] at h
    have e : (k + 1) * 3 + 2 = (k * 3 + 2) + 1 + 1 + 1 := by omega
    rw [e]
    simp only [List.set_cons_succ, List.zip_cons_cons, List.flatMap_cons]
    rw [rows_late it it' cs its k (by simpa using hc) h]
    simp [row3]
/-- one item's slices have turned in their own blocks -/
theorem OwnC.turn {w w' : World} {base g cap k b0 : Nat} {its : List ItemD} {cs : List (Value × Value)} {nv mv : Value} {it it' : ItemD} (h : OwnC w base (.slice (some ⟨g, 0, none⟩) its.length cap) its cs) (hc : cs[k]? = some (nv, mv)) (hi : its[k]? = some it)
    (hb0 : b0 ∈ fp nv ++ fp mv) (on : Only [b0] w w') (hn : OwnS w' base nv it'.names) (hm : OwnI w' base mv it'.marks) (hl : it'.late = it.late) : OwnC w' base (.slice (some ⟨g, 0, none⟩) its.length cap) (its.set k it') cs := by
  obtain ⟨h1, h2, h3, h4⟩ := h
  have hnod := List.nodup_append.1 h4
  have hbl : b0 ∈ fpL cs := by
    rcases List.mem_append.1 hb0 with q | q
    · exact mem_fpL hc (.inl q)
    · exact mem_fpL hc (.inr q)
  have hbg : g ≠ b0 := fun e => hnod.2.2 g (by simp [fp_some]) b0 hbl e
  refine ⟨by simpa using h1, ?_, ?_, h4⟩
  · have := own_only h2 on (fun b hb => not_one (by rw [fp_some, List.mem_singleton] at hb; rw [hb]; exact hbg))
    rw [List.length_set, rows_same it it' hl cs its k hi]
    exact this
  · intro j nv' mv' x q1 q2
    by_cases hk : k = j
    · subst hk
      rw [hc] at q1
      rw [List.getElem?_set_self (List.getElem?_eq_some_iff.1 hi).1] at q2
      simp only [Option.some.injEq, Prod.mk.injEq] at q1 q2
      obtain ⟨rfl, rfl⟩ := q1
      subst q2
      exact ⟨hn, hm⟩
    · rw [List.getElem?_set_ne hk] at q2
      obtain ⟨r1, r2⟩ := h3 j nv' mv' x q1 q2
      have hx := fpL_other hnod.2.1 hc q1 hk hb0
      exact ⟨r1.only on (fun b hb => not_one (fun e => hx (e ▸ List.mem_append_left _ hb))), own_only r2 on (fun b hb => not_one (fun e => hx (e ▸ List.mem_append_right _ hb)))⟩
theorem OwnI.setAt {w : World} {base g cap j : Nat} {zs : List Int} (h : OwnI w base (.slice (some ⟨g, 0, none⟩) zs.length cap) zs) (z : Int) : OwnI (w.setCell ⟨g, j, none⟩ (.int .i64 z)) base (.slice (some ⟨g, 0, none⟩) zs.length cap) (zs.set j z) := by
  have e := own_set (j := j) h (.int .i64 z)
  unfold OwnI
  rw [List.length_set, List.map_set]
  exact e
theorem OwnS.setAt {w : World} {base g cap j : Nat} {zs : List ByteArray} (h : OwnS w base (.slice (some ⟨g, 0, none⟩) zs.length cap) zs) {z : ByteArray} (hz : z.size ≤ maxLen) : OwnS (w.setCell ⟨g, j, none⟩ (.string z)) base (.slice (some ⟨g, 0, none⟩) zs.length cap) (zs.set j z) := by
  have e := own_set (j := j) h.1 (.string z)
  refine ⟨?_, fun y hy => ?_⟩
  · rw [List.length_set, List.map_set]
    exact e
  · rcases List.mem_or_eq_of_mem_set hy with q | q
    · exact h.2 y q
    · rw [q]; exact hz
/-- an item's slices, as they lie -/
theorem OwnC.at {w : World} {base : Nat} {v : Value} {its : List ItemD} {cs : List (Value × Value)} (h : OwnC w base v its cs) {k : Nat} (hk : k < its.length) : ∃ it nv mv, its[k]? = some it ∧ cs[k]? = some (nv, mv) ∧ OwnS w base nv it.names ∧ OwnI w base mv it.marks := by
  have hkc : k < cs.length := by rw [h.1]; exact hk
  have e1 : cs[k]? = some (cs[k].1, cs[k].2) := List.getElem?_eq_getElem hkc
  have e2 : its[k]? = some its[k] := List.getElem?_eq_getElem hk
  obtain ⟨q1, q2⟩ := h.2.2.1 k _ _ _ e1 e2
  exact ⟨_, _, _, e2, e1, q1, q2⟩
theorem OwnC.mark0 {w : World} {base g cap k gm mc : Nat} {its : List ItemD} {cs : List (Value × Value)} {nv : Value} {it : ItemD} (h : OwnC w base (.slice (some ⟨g, 0, none⟩) its.length cap) its cs) (hi : its[k]? = some it) (hc : cs[k]? = some (nv, .slice (some ⟨gm, 0, none⟩) it.marks.length mc)) (z : Int) :
    OwnC (w.setCell ⟨gm, 0, none⟩ (.int .i64 z)) base (.slice (some ⟨g, 0, none⟩) its.length cap) (its.set k { it with marks := it.marks.set 0 z }) cs := by
  obtain ⟨q1, q2⟩ := h.2.2.1 k _ _ _ hc hi
  have hon : Only [gm] w (w.setCell ⟨gm, 0, none⟩ (.int .i64 z)) := only_set _ _ _ _
  have hnd := h.2.2.2
  have hdis : ∀ b ∈ fp nv, b ≠ gm := by
    intro b hb e
    have hp := (List.pairwise_flatMap.1 (List.nodup_append.1 hnd).2.1).1 (nv, .slice (some ⟨gm, 0, none⟩) it.marks.length mc) (List.mem_of_getElem? hc)
    exact (List.nodup_append.1 hp).2.2 b hb gm (by simp [fp_some]) e
  exact h.turn (b0 := gm) hc hi (List.mem_append_right _ (by simp [fp_some])) hon (q1.only hon (fun b hb => not_one (hdis b hb))) (OwnI.setAt q2 z) rfl
theorem OwnC.name0 {w : World} {base g cap k gn nc : Nat} {its : List ItemD} {cs : List (Value × Value)} {mv : Value} {it : ItemD} (h : OwnC w base (.slice (some ⟨g, 0, none⟩) its.length cap) its cs) (hi : its[k]? = some it) (hc : cs[k]? = some (.slice (some ⟨gn, 0, none⟩) it.names.length nc, mv)) {z : ByteArray} (hz : z.size ≤ maxLen) :
    OwnC (w.setCell ⟨gn, 0, none⟩ (.string z)) base (.slice (some ⟨g, 0, none⟩) its.length cap) (its.set k { it with names := it.names.set 0 z }) cs := by
  obtain ⟨q1, q2⟩ := h.2.2.1 k _ _ _ hc hi
  have hon : Only [gn] w (w.setCell ⟨gn, 0, none⟩ (.string z)) := only_set _ _ _ _
  have hnd := h.2.2.2
  have hdis : ∀ b ∈ fp mv, b ≠ gn := by
    intro b hb e
    have hp := (List.pairwise_flatMap.1 (List.nodup_append.1 hnd).2.1).1 (.slice (some ⟨gn, 0, none⟩) it.names.length nc, mv) (List.mem_of_getElem? hc)
    exact (List.nodup_append.1 hp).2.2 gn (by simp [fp_some]) b hb e.symm
  exact h.turn (b0 := gn) hc hi (List.mem_append_left _ (by simp [fp_some])) hon (OwnS.setAt q1 hz) (own_only q2 hon (fun b hb => not_one (hdis b hb))) rfl
theorem OwnC.late2 {w : World} {base g cap k : Nat} {its : List ItemD} {cs : List (Value × Value)} {it : ItemD} (h : OwnC w base (.slice (some ⟨g, 0, none⟩) its.length cap) its cs) (hi : its[k]? = some it) (x : Bool) :
    OwnC (w.setCell ⟨g, k * 3 + 2, none⟩ (.bool x)) base (.slice (some ⟨g, 0, none⟩) its.length cap) (its.set k { it with late := x }) cs := by
  obtain ⟨h1, h2, h3, h4⟩ := h
  have hnod := List.nodup_append.1 h4
  have hgl : ∀ b ∈ fpL cs, b ≠ g := fun b hb e => hnod.2.2 g (by simp [fp_some]) b hb e.symm
  have on : Only [g] w (w.setCell ⟨g, k * 3 + 2, none⟩ (.bool x)) := only_set _ _ _ _
  refine ⟨by simpa using h1, ?_, ?_, h4⟩
  · have := own_set (j := k * 3 + 2) h2 (.bool x)
    rw [List.length_set, rows_late it { it with late := x } cs its k h1 hi]
    exact this
  · intro j nv' mv' y q1 q2
    have hy : ∃ z, its[j]? = some z ∧ z.names = y.names ∧ z.marks = y.marks := by
      by_cases hk : k = j
      · subst hk
        rw [List.getElem?_set_self (List.getElem?_eq_some_iff.1 hi).1] at q2
        injection q2 with q2
        subst q2
        exact ⟨it, hi, rfl, rfl⟩
      · rw [List.getElem?_set_ne hk] at q2
        exact ⟨y, q2, rfl, rfl⟩
    obtain ⟨z, hz, e1, e2⟩ := hy
    obtain ⟨r1, r2⟩ := h3 j nv' mv' z q1 hz
    rw [← e1, ← e2]
    exact ⟨r1.only on (fun b hb => not_one (hgl b (mem_fpL q1 (.inl hb)))), own_only r2 on (fun b hb => not_one (hgl b (mem_fpL q1 (.inr hb))))⟩
end Go.Proofs.YtkekpolfdmmgeaaGreat

/- Draws: lists of items and items for the notation. -/
namespace Go.Proofs.YtkekpolfdmmgeaaGreat
set_option linter.unusedVariables false
set_option linter.unusedSimpArgs false
set_option linter.unnecessarySimpa false
open Go.RowKit Go.Lib

theorem OwnT.offU {w w' : World} {base : Nat} {v : Value} {it : ItemD} {S : List Nat} (h : OwnT w base v it) (on : Only S w w') (hd : ∀ b ∈ S, b < base ∨ w.heap.size ≤ b) : OwnT w' base v it := by
  have hf := ownT_fps h
  obtain ⟨nv, mv, rfl, h1, h2, h3⟩ := h
  rw [fpA_item] at hf
  exact ⟨nv, mv, rfl, h1.only on (fun b hb hs => by have := hf b (List.mem_append_left _ hb); have := hd b hs; omega), own_only h2 on (fun b hb hs => by have := hf b (List.mem_append_right _ hb); have := hd b hs; omega), h3⟩
end Go.Proofs.YtkekpolfdmmgeaaGreat

/- Draws: two lists of items, often with the same calls. -/
namespace Go.Proofs.YtkekpolfdmmgeaaGreat
set_option linter.unusedVariables false
set_option linter.unusedSimpArgs false
set_option linter.unnecessarySimpa false
open Go.RowKit Go.Lib

/-- what a draw of two lists leaves -/
def L2Post (w : World) (e : Ending) (w' : World) : Prop := ∃ u v xs ys, e = .returned (.tuple #[u, v]) ∧ ItemsAt w' u xs ∧ ItemsAt w' v ys ∧ xs.length ≤ 15 ∧ ys.length ≤ 15
/-- an item of a list of valid items of one's own, its cells and its slices -/
theorem OwnC.seat {w : World} {base g cap k : Nat} {its : List ItemD} {cs : List (Value × Value)} (h : OwnC w base (.slice (some ⟨g, 0, none⟩) its.length cap) its cs) (hk : k < its.length) (hv : its.all itemB = true) :
    ∃ it gn nc gm mc, its[k]? = some it ∧ cs[k]? = some (.slice (some ⟨gn, 0, none⟩) it.names.length nc, .slice (some ⟨gm, 0, none⟩) it.marks.length mc) ∧ 0 < it.names.length ∧ 0 < it.marks.length ∧ base ≤ gn ∧ base ≤ gm ∧ base ≤ g ∧
      gn < w.heap.size ∧ gm < w.heap.size ∧ g < w.heap.size ∧
      w.cell? ⟨g, k * 3, none⟩ = some (.slice (some ⟨gn, 0, none⟩) it.names.length nc) ∧ w.cell? ⟨g, k * 3 + 1, none⟩ = some (.slice (some ⟨gm, 0, none⟩) it.marks.length mc) ∧ w.cell? ⟨g, k * 3 + 2, none⟩ = some (.bool it.late) := by
  obtain ⟨b, o, A1, c1, A2, c2, it, hA, hb, hi, hc, _, q0, q1, q2⟩ := items_at (h.toA rfl) hk
  injection hA with hA
  injection hA with e1 e2
  subst e1 e2
  obtain ⟨_, n1, n3, nm⟩ := all_some hv hi
  obtain ⟨r1, r2⟩ := h.2.2.1 k _ _ it hc hi
  obtain ⟨B1, d1, f1, _, _, a1⟩ := own_form r1.1
  obtain ⟨B2, d2, f2, _, _, a2⟩ := own_form r2
  injection f1 with f1
  injection f2 with f2
  obtain ⟨gn, rfl⟩ := a1 (by omega)
  obtain ⟨gm, rfl⟩ := a2 (by omega)
  subst f1 f2
  have k1 := own_fp r1.1 gn (by simp [fp_some])
  have k2 := own_fp r2 gm (by simp [fp_some])
  have k3 := own_fp h.2.1 g (by simp [fp_some])
  rw [Nat.zero_add] at q0 q1 q2
  exact ⟨it, gn, c1, gm, c2, hi, hc, by omega, by omega, k1.1, k2.1, k3.1, k1.2, k2.2, k3.2, q0, q1, q2⟩
theorem OwnC.slotM {w : World} {base g cap k : Nat} {its : List ItemD} {cs : List (Value × Value)} (h : OwnC w base (.slice (some ⟨g, 0, none⟩) its.length cap) its cs) (hk : k < its.length) {it : ItemD} {nv mv : Value} (hi : its[k]? = some it) (hc : cs[k]? = some (nv, mv)) : w.cell? ⟨g, k * 3 + 1, none⟩ = some mv := by
  obtain ⟨b, o, A1, c1, A2, c2, it', hA, hb, hi', hc', _, q0, q1, q2⟩ := items_at (h.toA rfl) hk
  injection hA with hA
  injection hA with e1 e2
  subst e1 e2
  rw [hc] at hc'
  simp only [Option.some.injEq, Prod.mk.injEq] at hc'
  rw [Nat.zero_add] at q1
  rw [q1, hc'.2]
end Go.Proofs.YtkekpolfdmmgeaaGreat
