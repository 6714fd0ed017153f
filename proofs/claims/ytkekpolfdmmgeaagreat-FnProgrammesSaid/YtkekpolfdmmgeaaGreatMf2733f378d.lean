/- Contracts of functions that the proof leans on. No condition. -/
import Derived.Test.YtkekpolfdmmgeaaGreatMed327029e4
/- Draws: a code and a list of items, often a programme for it. -/
namespace Go.Proofs.YtkekpolfdmmgeaaGreat
set_option linter.unusedVariables false
set_option linter.unusedSimpArgs false
set_option linter.unnecessarySimpa false
open Go.RowKit Go.Lib

theorem l1Least_any (a b c : Nat) (w : World) (hc : min a b = c) : Calls Tryz.prog 54 #[.int .i64 (a : Int), .int .i64 (b : Int)] w fun e w' => e = .returned (.int .i64 (c : Int)) ∧ w = w' := by
  by_cases h : a < b
  · obtain rfl : a = c := by omega
    have h' : (a : Int) < (b : Int) := by omega
    clear hc h
    go_enter Tryz.func54, Tryz.ntmps54
    go_wp2_with fail
    go_ret
    exact ⟨rfl, rfl⟩
  · obtain rfl : b = c := by omega
    have h' : ¬ (a : Int) < (b : Int) := by omega
    clear hc h
    go_enter Tryz.func54, Tryz.ntmps54
    go_wp2_with fail
    go_ret
    exact ⟨rfl, rfl⟩
set_option maxRecDepth 100000 in
theorem wpList_append_P3 (base : Nat) (w : World) {ops : Array Oper} {rest : List Oper} {o : Oper} {a : Act} {Q : Exit → Act → World → Prop} (hgd : o.guard = none) (s x : Operand)
    (ho : o.op = .call { callee := .builtin .append, args := #[s, x], argTypes := #[27, 27] })
    (v : Value) (ps : List Pr) (hs : a.eval s = v) (hown : RowP w base v ps) (hb : base ≤ w.heap.size) (u : Value) (qs : List Pr) (hx : a.eval x = u) (hr : SrcP w u qs) (hg : GoodP w qs)
    (hl : ps.length + qs.length ≤ 1000000)
    (h : ∀ v' w', RowP w' base v' (ps ++ qs) → Only (fp v) w w' → wpList Tryz.prog ops Q rest (a.put o.dst v') w') : wpList Tryz.prog ops Q (o :: rest) a w := by
  refine wpList_plain hgd fun K hK => ?_
  obtain ⟨i0, hi, hz0, hz1, hz2⟩ := info_parts info_item
  obtain ⟨v', w', hrun, h2, h3, h4⟩ := run_append_locT (P := Tryz.prog) w base 27 o.type 30 i0 _ 3 56 Tryz.underlying27 hi hz0 hz1 hz2 rfl (by omega) v ps.length _ hown u qs.length (qs.flatMap row3) hr (flat_length row3 3 (fun _ => rfl) qs) hg.one (by unfold maxLen; omega) (by omega) hb
  have hon := only_of_grown h3
  unfold Oper.wp execOp
  simp only [ho, resolve, invoke, builtin, Sem.run_bind, Sem.run_pure, Result.andThen_ok, List.map_toArray, List.map_cons, List.map_nil, hs, hx, hrun]
  refine hK _ _ (h v' w' ?_ hon)
  unfold RowP
  rw [List.length_append, List.flatMap_append]
  exact h2
/-- pairs whose slices lie outside of a block that turns -/
theorem OwnC.goodO {w w' : World} {base : Nat} {v : Value} {its : List ItemD} {cs : List (Value × Value)} {S : List Nat} (h : OwnC w base v its cs) (on : Only S w w') (hS : ∀ b ∈ fpL cs, b ∉ S) : GoodP w' (cs.zip its) := by
  intro q hq
  obtain ⟨k, hk⟩ := List.getElem?_of_mem hq
  rw [List.getElem?_zip_eq_some] at hk
  obtain ⟨r1, r2⟩ := h.2.2.1 k q.1.1 q.1.2 q.2 hk.1 hk.2
  have r3 : OwnI w' base q.1.2 q.2.marks := own_only r2 on (fun b hb => hS b (mem_fpL hk.1 (.inr hb)))
  exact ⟨(r1.only on (fun b hb => hS b (mem_fpL hk.1 (.inl hb)))).strs, r3.ints⟩
theorem mem_m {cs : List (Value × Value)} {k gm lm mc : Nat} {nv : Value} {A : List Nat} (h : cs[k]? = some (nv, .slice (some ⟨gm, 0, none⟩) lm mc)) : gm ∈ A ++ fpL cs := List.mem_append_right _ (mem_fpL h (.inr (by simp [fp_some])))
theorem mem_n {cs : List (Value × Value)} {k gn ln nc : Nat} {mv : Value} {A : List Nat} (h : cs[k]? = some (.slice (some ⟨gn, 0, none⟩) ln nc, mv)) : gn ∈ A ++ fpL cs := List.mem_append_right _ (mem_fpL h (.inl (by simp [fp_some])))
theorem OwnC.slotN {w : World} {base g cap k : Nat} {its : List ItemD} {cs : List (Value × Value)} (h : OwnC w base (.slice (some ⟨g, 0, none⟩) its.length cap) its cs) (hk : k < its.length) {it : ItemD} {nv mv : Value} (hi : its[k]? = some it) (hc : cs[k]? = some (nv, mv)) : w.cell? ⟨g, k * 3, none⟩ = some nv := by
  obtain ⟨b, o, A1, c1, A2, c2, it', hA, hb, hi', hc', _, q0, q1, q2⟩ := items_at (h.toA rfl) hk
  injection hA with hA
  injection hA with e1 e2
  subst e1 e2
  rw [hc] at hc'
  simp only [Option.some.injEq, Prod.mk.injEq] at hc'
  rw [Nat.zero_add] at q0
  rw [q0, hc'.1]
theorem OwnC.rowP {w : World} {base : Nat} {v : Value} {its : List ItemD} {cs : List (Value × Value)} (h : OwnC w base v its cs) : RowP w base v (cs.zip its) := by
  unfold RowP
  rw [List.length_zip, h.1, Nat.min_self]
  exact h.2.1
theorem OwnC.goodP {w : World} {base : Nat} {v : Value} {its : List ItemD} {cs : List (Value × Value)} (h : OwnC w base v its cs) : GoodP w (cs.zip its) := by
  intro q hq
  obtain ⟨k, hk⟩ := List.getElem?_of_mem hq
  rw [List.getElem?_zip_eq_some] at hk
  obtain ⟨r1, r2⟩ := h.2.2.1 k q.1.1 q.1.2 q.2 hk.1 hk.2
  exact ⟨r1.strs, r2.ints⟩
theorem itsP_zip {its : List ItemD} {cs : List (Value × Value)} (h : cs.length = its.length) : itsP (cs.zip its) = its := by
  unfold itsP
  rw [List.map_snd_zip (by omega)]
theorem itsP_take (ps : List Pr) (k : Nat) : itsP (ps.take k) = (itsP ps).take k := by unfold itsP; rw [List.map_take]
theorem itsP_append (ps qs : List Pr) : itsP (ps ++ qs) = itsP ps ++ itsP qs := by unfold itsP; rw [List.map_append]
set_option maxRecDepth 100000 in
set_option maxHeartbeats 16000000 in
theorem anyProgramme_any (p m : Nat) (w : World) (h : Cur w p m) (hm : m ≤ 1000000) :
    Calls Tryz.prog 21 #[.pointer (some ⟨p, 0, none⟩)] w fun e w' => JPost w e w' ∧ Cur w' p (m + 3000) ∧ Only [p] w w' := by
  have hpl := h.lt
  have CW := Lib.hid h
  clear h
  go_enter Tryz.func21, Tryz.ntmps21
  go_wp2_with fail
  obtain ⟨w0, hw0⟩ : ∃ x : World, x = w.alloc (.cells #[.slice none 0 0, .slice none 0 0, .int .i64 0, .int .i64 0, .int .i64 0, .int .i64 0] 26) := ⟨_, rfl⟩
  rw [← hw0]
  have BR := Lib.hid (show Box w0 w.heap.size 26 #[.slice none 0 0, .slice none 0 0, .int .i64 0, .int .i64 0, .int .i64 0, .int .i64 0] from hw0 ▸ Box.new w _ _ _ rfl)
  have K0 : Hid (Kept w w0) := Lib.hid (hw0 ▸ (Kept.refl w).alloc _)
  have C0 := Lib.hid (CW.out.kept K0.out)
  have sz0 : w.heap.size < w0.heap.size := BR.out.lt
  have hpl0 : p < w0.heap.size := by omega
  have hrp : w.heap.size ≠ p := by omega
  have FIN : Hid (∀ (w3 w9 : World) (cv lv : Value) (X : CodeD) (its : List ItemD) (cs : List (Value × Value)), OwnK w3 w0.heap.size cv X → OwnC w3 w0.heap.size lv its cs → Only [p] w0 w3 → Cur w3 p (m + 3000) → Only [w.heap.size] w3 w9 → (X.elems.length ≤ 25 ∧ X.limits.length ≤ 6) → its.length ≤ 15 →
      JPost w (.returned (.tuple #[cv, lv])) w9 ∧ Cur w9 p (m + 3000) ∧ Only [p] w w9) := Lib.hid (fun w3 w9 cv lv X its cs a b on cu q h1 h2 => by
    have hq : ∀ b ∈ [w.heap.size], b < w0.heap.size ∨ w3.heap.size ≤ b := fun b hb => by rw [List.mem_singleton] at hb; omega
    exact ⟨⟨cv, lv, X, its, cs, rfl, OwnK.base (a.off q hq) (by omega), OwnC.base (b.off q hq) (by omega), h1.1, h1.2, h2⟩, cu.far q (fun x hx => by rw [List.mem_singleton] at hx; omega), ((K0.out.only _).trans on).overD q (fun x hx => by rw [List.mem_singleton] at hx; omega)⟩)
  clear hw0 CW
  with_reducible refine (one_any p m 24 w0 C0.out (by omega) (by omega)).mono ?_
  rintro e w1 ⟨b1, rfl, c1, on1⟩
  have C1 := Lib.hid c1
  have N1 := Lib.hid on1
  have sz1 : w0.heap.size ≤ w1.heap.size := on1.size
  clear c1 on1 C0
  have HP : Hid (∀ (W : World), ∀ b ∈ [p], b < w0.heap.size ∨ W.heap.size ≤ b) := Lib.hid (fun W b hb => by rw [List.mem_singleton] at hb; subst hb; exact .inl hpl0)
  cases b1 with
  | true =>
    go_wp2_with fail
    with_reducible refine (fullProgramme_any p _ w1 C1.out (by omega)).mono ?_
    rintro e w2 ⟨⟨cv, lv, x, its, cs, N, rfl, o1, o2, hN, hcN, ⟨he1, he24⟩, hl5, hva, hil⟩, c2, on2⟩
    obtain ⟨ev, lv', rfl, p1, q1, nd⟩ := o1
    obtain ⟨Ae, ce, rfl, _⟩ := own_form p1.1
    obtain ⟨Al, cl, rfl, _⟩ := own_form q1
    obtain ⟨Aq, cq, rfl, _⟩ := own_form o2.2.1
    have O1 : Hid (OwnK w2 w0.heap.size (.agg #[.slice Ae x.elems.length ce, .slice Al x.limits.length cl, .int .i64 x.repeats, .int .i64 x.bonus, .int .i64 x.keeps, .int .i64 x.fall]) x) := Lib.hid (OwnK.base (⟨_, _, rfl, p1, q1, nd⟩ : OwnK w2 w1.heap.size _ x) sz1)
    have O2 := Lib.hid (OwnC.base o2 (show w0.heap.size ≤ N by omega))
    have N2 := Lib.hid (N1.out.trans on2)
    have C2 := Lib.hid (c2.le (m' := m + 3000) (by omega))
    have HL5 := Lib.hid hl5
    have B2 := BR.out.only N2.out (not_one hrp)
    clear p1 q1 nd c2 on2 o2 hl5 hcN
    obtain ⟨x2, y2⟩ := B2.six
    go_wp2_with fail
    clear x2 y2
    obtain ⟨w9, hw9, B9, Q9⟩ := set6 B2 (Value.slice Ae x.elems.length ce) (Value.slice Al x.limits.length cl) (.int .i64 x.repeats) (.int .i64 x.bonus) (.int .i64 x.keeps) (.int .i64 x.fall)
    rw [← hw9]
    clear hw9
    obtain ⟨cc, ff⟩ := B9.six
    refine bodyPost_ret (v := .tuple #[.agg #[.slice Ae x.elems.length ce, .slice Al x.limits.length cl, .int .i64 x.repeats, .int .i64 x.bonus, .int .i64 x.keeps, .int .i64 x.fall], .slice Aq its.length cq]) (by simp [results, Tryz.results21, go_sem, cc, ff]) rfl ?_
    exact FIN.out w2 w9 _ _ x _ _ O1.out O2.out N2.out C2.out Q9 (by have := HL5.out; omega) (by omega)
  | false =>
    go_wp2_with fail
    with_reducible refine (programme_any p _ w1 C1.out (by omega)).mono ?_
    rintro e w2 ⟨⟨cv, lv, x, its, cs, N, rfl, o1, o2, hN, hcN, ⟨he1, he24⟩, hl5, hva, hi9⟩, c2, on2⟩
    obtain ⟨ev, lv', rfl, p1, q1, nd⟩ := o1
    rcases ownE_cases p1 with ⟨_, hE⟩ | ⟨ge, ce, rfl, _⟩
    · rw [hE] at he1; simp at he1
    rcases ownI_cases q1 with ⟨_, hE⟩ | ⟨gl, cl, rfl, _⟩
    · rw [hE] at hl5; simp at hl5
    obtain ⟨Aq, cq, rfl, hnq, hmq, hAq⟩ := own_form o2.2.1
    unfold maxLen at hmq
    have HD := Lib.hid (OwnK.boxed ⟨own_base p1.1 sz1, p1.2⟩ (own_base q1 sz1) nd c2 (N1.out.trans on2) hpl0 (Nat.le_refl _))
    have HAQ := Lib.hid hAq
    have HL5 := Lib.hid hl5
    have HVA := Lib.hid hva
    have HRW : Hid (∀ b ∈ fp (Value.slice (some ⟨ge, 0, none⟩) x.elems.length ce) ++ fp (Value.slice (some ⟨gl, 0, none⟩) x.limits.length cl), b < N) := Lib.hid (fun b hb => hcN b (by rw [fpA_code]; exact hb))
    have HOw := Lib.hid o2
    have sz2 : w1.heap.size ≤ w2.heap.size := on2.size
    clear p1 q1 nd c2 on2 hl5 hva hcN hAq o2
    go_upto_region 4 with (fail)
    obtain ⟨wb, hwb⟩ : ∃ y : World, y = w2.alloc (.cells #[Value.slice (some ⟨ge, 0, none⟩) x.elems.length ce, Value.slice (some ⟨gl, 0, none⟩) x.limits.length cl, .int .i64 x.repeats, .int .i64 x.bonus, .int .i64 x.keeps, .int .i64 x.fall] 26) := ⟨_, rfl⟩
    have kb : Kept w2 wb := hwb ▸ (Kept.refl w2).alloc _
    obtain ⟨bb, hbb⟩ : ∃ b : Nat, b = w2.heap.size := ⟨_, rfl⟩
    have HLB : Hid (∀ b ∈ fp (.slice Aq its.length cq) ++ fpL cs, N ≤ b ∧ b < bb) := Lib.hid (fun b hb => by have := HOw.out.fps b hb; omega)
    have HOb := Lib.hid (OwnC.base (HOw.out.kept kb) (show w0.heap.size ≤ N by omega))
    rw [← hwb, ← hbb] at HD ⊢
    clear hwb hbb kb HOw
    by_cases hl0 : its.length < 1
    · have hl0' : ((its.length : Int) == 0) = true := beq_iff_eq.2 (by omega)
      have hl0n : (its.length : Int) = 0 := by omega
      go_wp2_with fail
      with_reducible refine (anyCode_any p _ wb HD.out.cur (by omega)).mono ?_
      rintro e w8 ⟨⟨v8, y, rfl, o8, h25', h6'⟩, c8, on8⟩
      obtain ⟨ev, lv, rfl, p8, q8, nd8⟩ := o8
      obtain ⟨Be, de, rfl, _⟩ := own_form p8.1
      obtain ⟨Bl, dl, rfl, _⟩ := own_form q8
      have O8 : Hid (OwnK w8 w0.heap.size (.agg #[Value.slice Be y.elems.length de, Value.slice Bl y.limits.length dl, .int .i64 y.repeats, .int .i64 y.bonus, .int .i64 y.keeps, .int .i64 y.fall]) y) := Lib.hid (OwnK.base (⟨_, _, rfl, p8, q8, nd8⟩ : OwnK w8 wb.heap.size _ y) HD.out.only.size)
      have L8 := Lib.hid (HOb.out.off on8 (HP.out wb))
      have N8 := Lib.hid (HD.out.only.trans on8)
      have C8 := Lib.hid (c8.le (m' := m + 3000) (by omega))
      have B2 := BR.out.only N8.out (not_one hrp)
      clear p8 q8 nd8 c8 on8
      obtain ⟨x2, y2⟩ := B2.six
      go_wp2_with fail
      clear x2 y2
      obtain ⟨w9, hw9, B9, Q9⟩ := set6 B2 (Value.slice Be y.elems.length de) (Value.slice Bl y.limits.length dl) (.int .i64 y.repeats) (.int .i64 y.bonus) (.int .i64 y.keeps) (.int .i64 y.fall)
      rw [← hw9]
      clear hw9
      obtain ⟨cc, ff⟩ := B9.six
      refine bodyPost_ret (v := .tuple #[.agg #[Value.slice Be y.elems.length de, Value.slice Bl y.limits.length dl, .int .i64 y.repeats, .int .i64 y.bonus, .int .i64 y.keeps, .int .i64 y.fall], .slice Aq its.length cq]) (by simp [results, Tryz.results21, go_sem, cc, ff]) rfl ?_
      exact FIN.out _ w9 _ _ y _ _ O8.out L8.out N8.out C8.out Q9 ⟨h25', h6'⟩ (by omega)
    have hl0' : ((its.length : Int) == 0) = false := beq_eq_false_iff_ne.2 (by omega)
    have hl0n : ¬ (its.length : Int) = 0 := by omega
    go_wp2_with fail
    with_reducible refine (one_any p _ 12 wb HD.out.cur (by omega) (by omega)).mono ?_
    rintro e w3 ⟨b3, rfl, c3, on3⟩
    have HS3 := Lib.hid (HD.out.drawn c3 on3)
    have HO3 := Lib.hid (HOb.out.off on3 (HP.out wb))
    clear c3 on3 HD HOb
    cases b3 with
    | true =>
      go_wp2_with fail
      with_reducible refine (anyCode_any p _ w3 HS3.out.cur (by omega)).mono ?_
      rintro e w8 ⟨⟨v8, y, rfl, o8, h25', h6'⟩, c8, on8⟩
      obtain ⟨ev, lv, rfl, p8, q8, nd8⟩ := o8
      obtain ⟨Be, de, rfl, _⟩ := own_form p8.1
      obtain ⟨Bl, dl, rfl, _⟩ := own_form q8
      have O8 : Hid (OwnK w8 w0.heap.size (.agg #[Value.slice Be y.elems.length de, Value.slice Bl y.limits.length dl, .int .i64 y.repeats, .int .i64 y.bonus, .int .i64 y.keeps, .int .i64 y.fall]) y) := Lib.hid (OwnK.base (⟨_, _, rfl, p8, q8, nd8⟩ : OwnK w8 w3.heap.size _ y) HS3.out.only.size)
      have L8 := Lib.hid (HO3.out.off on8 (HP.out w3))
      have N8 := Lib.hid (HS3.out.only.trans on8)
      have C8 := Lib.hid (c8.le (m' := m + 3000) (by omega))
      have B2 := BR.out.only N8.out (not_one hrp)
      clear p8 q8 nd8 c8 on8
      obtain ⟨x2, y2⟩ := B2.six
      go_wp2_with fail
      clear x2 y2
      obtain ⟨w9, hw9, B9, Q9⟩ := set6 B2 (Value.slice Be y.elems.length de) (Value.slice Bl y.limits.length dl) (.int .i64 y.repeats) (.int .i64 y.bonus) (.int .i64 y.keeps) (.int .i64 y.fall)
      rw [← hw9]
      clear hw9
      obtain ⟨cc, ff⟩ := B9.six
      refine bodyPost_ret (v := .tuple #[.agg #[Value.slice Be y.elems.length de, Value.slice Bl y.limits.length dl, .int .i64 y.repeats, .int .i64 y.bonus, .int .i64 y.keeps, .int .i64 y.fall], .slice Aq its.length cq]) (by simp [results, Tryz.results21, go_sem, cc, ff]) rfl ?_
      exact FIN.out _ w9 _ _ y _ _ O8.out L8.out N8.out C8.out Q9 ⟨h25', h6'⟩ (by omega)
    | false =>
      go_wp2_with fail
      obtain ⟨gq, rfl⟩ := HAQ.out (by omega)
      with_reducible refine (pick_any p _ (its.length : Int) w3 HS3.out.cur (by omega) (by omega)).mono ?_
      rintro e w4 ⟨x4, rfl, ⟨lo4, hi4⟩, c4, on4⟩
      obtain ⟨k, rfl⟩ : ∃ j : Nat, x4 = (j : Int) := ⟨x4.toNat, by omega⟩
      have hk : k < its.length := by have := hi4 (by omega); omega
      have hk' : (k : Int) < (its.length : Int) := by omega
      have HS4 := Lib.hid (HS3.out.drawn c4 on4)
      have HO4 := Lib.hid (HO3.out.off on4 (HP.out w3))
      clear c4 on4 hi4 HS3 HO3
      go_wp2_with fail
      with_reducible refine (pick_any p _ 16 w4 HS4.out.cur (by omega) (by omega)).mono ?_
      rintro e w6 ⟨s, rfl, ⟨los, his⟩, c6, on6⟩
      have HS := Lib.hid ((HS4.out.drawn c6 on6).le (m' := m + 800) (by omega))
      have HO := Lib.hid (HO4.out.off on6 (HP.out w4))
      clear c6 on6 his HS4 HO4
      have HAP : Hid (∀ g ∈ fp (.slice (some ⟨gq, 0, none⟩) its.length cq) ++ fpL cs, ∀ b ∈ [g], w0.heap.size ≤ b ∧ b ≠ bb ∧ b ∉ fp (Value.slice (some ⟨ge, 0, none⟩) x.elems.length ce) ++ fp (Value.slice (some ⟨gl, 0, none⟩) x.limits.length cl) ∧ True) := Lib.hid (fun g hg b hb => by
        rw [List.mem_singleton] at hb; subst hb
        have h1 := HLB.out b hg
        exact ⟨by omega, by omega, fun hx => by have := HRW.out b hx; omega, trivial⟩)
      obtain ⟨it, gn, nc, gm, mc, hi6, hc6, n0, m0, bb1, bb2, bb3, l1, l2, l3, q0, q1, q2⟩ := HO.out.seat hk HVA.out
      have hn0 : (0 : Int) < (it.names.length : Int) := by omega
      have hm0 : (0 : Int) < (it.marks.length : Int) := by omega
      obtain ⟨_, _, _, f2⟩ := ownC_cells HO.out hi6 hc6
      have hcase : s = 0 ∨ s = 1 ∨ s = 2 ∨ s = 3 ∨ s = 4 ∨ s = 5 ∨ (¬ s = 0 ∧ ¬ s = 1 ∧ ¬ s = 2 ∧ ¬ s = 3 ∧ ¬ s = 4 ∧ ¬ s = 5) := by omega
      rcases hcase with rfl | rfl | rfl | rfl | rfl | rfl | ⟨g0, g1, g2, g3, g4, g5⟩
      · clear q0 q1 q2 f2
        go_upto_region 9 with (fail)
        refine region_pop (S := fun w' => w'.cell? ⟨gq, k * 3 + 1, none⟩ = some (.slice (some ⟨gm, 0, none⟩) it.marks.length mc)) 8 (by kernel_rfl) (by kernel_rfl) ?_
        simp only [List.take_succ_cons, List.take_zero, List.drop_succ_cons, List.drop_zero]
        refine startL ((HO.out.kept (Kept.refl w6).drew).slotM hk hi6 hc6) (fun hS0 => ?_)
        obtain ⟨wd, hwd⟩ : ∃ y : World, y = w6.drew := ⟨_, rfl⟩
        rw [← hwd] at hS0 ⊢
        have kd : Kept w6 wd := hwd ▸ (Kept.refl w6).drew
        have D0 := Lib.hid (HS.out.kept kd)
        have O0 := Lib.hid (HO.out.kept kd)
        clear hwd kd
        refine takeL (i := 0) (v := ?_) rfl (by kernel_rfl) (by kernel_rfl) (by kernel_rfl) (fun _ _ _ h => h) (Or.inl ⟨by rfl, ?_⟩) hS0 ?_
        rotate_left 1
        · (intro w hSw; (try dsimp only at hSw); go_simp; try with_reducible rfl)
        try simp only [Act.put, List.setIfInBounds_toArray, List.set_cons_zero, List.set_cons_succ]
        refine takeL (i := 1) (v := ?_) rfl (by kernel_rfl) (by kernel_rfl) (by kernel_rfl) (fun _ _ _ h => h) (Or.inl ⟨by rfl, ?_⟩) hS0 ?_
        rotate_left 1
        · (intro w hSw; (try dsimp only at hSw); go_simp; try with_reducible rfl)
        try simp only [Act.put, List.setIfInBounds_toArray, List.set_cons_zero, List.set_cons_succ]
        refine takeL (i := 2) (v := ?_) rfl (by kernel_rfl) (by kernel_rfl) (by kernel_rfl) (fun _ _ _ h => h) (Or.inl ⟨by rfl, ?_⟩) hS0 ?_
        rotate_left 1
        · (intro w hSw; (try dsimp only at hSw); go_simp; try with_reducible rfl)
        try simp only [Act.put, List.setIfInBounds_toArray, List.set_cons_zero, List.set_cons_succ]
        refine takeL (i := 3) (v := ?_) rfl (by kernel_rfl) (by kernel_rfl) (by kernel_rfl) (fun _ _ _ h => h) (Or.inl ⟨by rfl, ?_⟩) hS0 ?_
        rotate_left 1
        · (intro w hSw; (try dsimp only at hSw); go_simp; try with_reducible rfl)
        try simp only [Act.put, List.setIfInBounds_toArray, List.set_cons_zero, List.set_cons_succ]
        refine takeL (i := 4) (v := ?_) rfl (by kernel_rfl) (by kernel_rfl) (by kernel_rfl) (fun _ _ _ h => h) (Or.inl ⟨by rfl, ?_⟩) hS0 ?_
        rotate_left 1
        · (intro w hSw; (try dsimp only at hSw); go_simp; try with_reducible rfl)
        try simp only [Act.put, List.setIfInBounds_toArray, List.set_cons_zero, List.set_cons_succ]
        refine takeL (i := 5) (v := ?_) rfl (by kernel_rfl) (by kernel_rfl) (by kernel_rfl) (fun _ _ _ h => h) (Or.inl ⟨by rfl, ?_⟩) hS0 ?_
        rotate_left 1
        · (intro w hSw; (try dsimp only at hSw); go_simp; try with_reducible rfl)
        try simp only [Act.put, List.setIfInBounds_toArray, List.set_cons_zero, List.set_cons_succ]
        refine onlyL (i := 6) rfl (by kernel_rfl) (fun K hK => ?_)
        go_simp
        with_reducible refine (pick_any p _ 4 wd D0.out.cur (by omega) (by omega)).mono ?_
        rintro e w7 ⟨x7, rfl, ⟨_, _⟩, c7, on7⟩
        have O7 := Lib.hid (O0.out.off on7 (HP.out wd))
        have D7 := Lib.hid (D0.out.drawn c7 on7)
        clear c7 on7
        go_wp2_with fail
        refine hK.out _ _ (O7.out.slotM hk hi6 hc6) (fun hS1 => ?_)
        clear hK K hS0
        try simp only [Act.put, List.setIfInBounds_toArray, List.set_cons_zero, List.set_cons_succ]
        refine takeL (i := 7) (v := ?_) rfl (by kernel_rfl) (by kernel_rfl) (by kernel_rfl) (fun _ _ _ h => h) (Or.inl ⟨by rfl, ?_⟩) hS1 ?_
        rotate_left 1
        · (intro w hSw; (try dsimp only at hSw); go_simp; try with_reducible rfl)
        try simp only [Act.put, List.setIfInBounds_toArray, List.set_cons_zero, List.set_cons_succ]
        refine doneL (by kernel_rfl) ?_
        clear hS1
        obtain ⟨zM, cM, fM⟩ := ownI_at (O7.out.2.2.1 k _ _ _ hc6 hi6).2 m0
        go_upto_region 21 with (fail)
        clear cM fM
        have OZ := Lib.hid (O7.out.mark0 hi6 hc6 x7)
        have SZ := Lib.hid (D7.out.apartS (only_set w7 gm 0 (.int .i64 x7)) (HAP.out gm (mem_m hc6)))
        obtain ⟨wz, hwz⟩ : ∃ y : World, y = w7.setCell ⟨gm, 0, none⟩ (.int .i64 x7) := ⟨_, rfl⟩
        rw [← hwz] at OZ SZ ⊢
        clear hwz
        obtain ⟨z, hz1, hz2, hsz⟩ : ∃ z : CodeD, z.elems.length = x.elems.length ∧ z.limits.length = x.limits.length ∧ DrSt p bb w0.heap.size (m + 2900) w0 wz z (Value.slice (some ⟨ge, 0, none⟩) x.elems.length ce) (Value.slice (some ⟨gl, 0, none⟩) x.limits.length cl) := ⟨x, rfl, rfl, SZ.out.le (by omega)⟩
        have HZZ := Lib.hid hz1
        have HZY := Lib.hid hz2
        have HSZ := Lib.hid hsz
        clear hz1 hz2 hsz
        have B2 := BR.out.only HSZ.out.only (not_one hrp)
        obtain ⟨xb, yb⟩ := HSZ.out.box.six
        obtain ⟨x2, y2⟩ := B2.six
        go_wp2_with fail
        clear xb yb x2 y2
        obtain ⟨w9, hw9, B9, Q9⟩ := set6 B2 (Value.slice (some ⟨ge, 0, none⟩) x.elems.length ce) (Value.slice (some ⟨gl, 0, none⟩) x.limits.length cl) (.int .i64 z.repeats) (.int .i64 z.bonus) (.int .i64 z.keeps) (.int .i64 z.fall)
        rw [← hw9]
        clear hw9
        obtain ⟨cc, ff⟩ := B9.six
        refine bodyPost_ret (v := .tuple #[.agg #[Value.slice (some ⟨ge, 0, none⟩) x.elems.length ce, Value.slice (some ⟨gl, 0, none⟩) x.limits.length cl, .int .i64 z.repeats, .int .i64 z.bonus, .int .i64 z.keeps, .int .i64 z.fall], .slice (some ⟨gq, 0, none⟩) its.length cq]) (by simp [results, Tryz.results21, go_sem, cc, ff]) rfl ?_
        exact FIN.out _ w9 _ _ z _ _ HSZ.out.own OZ.out HSZ.out.only (HSZ.out.cur.le (by omega)) Q9 (by have h1 := HZZ.out; have h2 := HZY.out; have h3 := HL5.out; omega) (by rw [List.length_set]; omega)
      · clear q0 q1
        go_upto_region 21 with (fail)
        clear q2 f2
        have OZ := Lib.hid (HO.out.late2 hi6 (!it.late))
        have SZ := Lib.hid (HS.out.apartS (only_set w6 gq (k * 3 + 2) (.bool (!it.late))) (HAP.out gq (by simp [fp_some])))
        obtain ⟨wz, hwz⟩ : ∃ y : World, y = w6.setCell ⟨gq, k * 3 + 2, none⟩ (.bool (!it.late)) := ⟨_, rfl⟩
        rw [← hwz] at OZ SZ ⊢
        clear hwz
        obtain ⟨z, hz1, hz2, hsz⟩ : ∃ z : CodeD, z.elems.length = x.elems.length ∧ z.limits.length = x.limits.length ∧ DrSt p bb w0.heap.size (m + 2900) w0 wz z (Value.slice (some ⟨ge, 0, none⟩) x.elems.length ce) (Value.slice (some ⟨gl, 0, none⟩) x.limits.length cl) := ⟨x, rfl, rfl, SZ.out.le (by omega)⟩
        have HZZ := Lib.hid hz1
        have HZY := Lib.hid hz2
        have HSZ := Lib.hid hsz
        clear hz1 hz2 hsz
        have B2 := BR.out.only HSZ.out.only (not_one hrp)
        obtain ⟨xb, yb⟩ := HSZ.out.box.six
        obtain ⟨x2, y2⟩ := B2.six
        go_wp2_with fail
        clear xb yb x2 y2
        obtain ⟨w9, hw9, B9, Q9⟩ := set6 B2 (Value.slice (some ⟨ge, 0, none⟩) x.elems.length ce) (Value.slice (some ⟨gl, 0, none⟩) x.limits.length cl) (.int .i64 z.repeats) (.int .i64 z.bonus) (.int .i64 z.keeps) (.int .i64 z.fall)
        rw [← hw9]
        clear hw9
        obtain ⟨cc, ff⟩ := B9.six
        refine bodyPost_ret (v := .tuple #[.agg #[Value.slice (some ⟨ge, 0, none⟩) x.elems.length ce, Value.slice (some ⟨gl, 0, none⟩) x.limits.length cl, .int .i64 z.repeats, .int .i64 z.bonus, .int .i64 z.keeps, .int .i64 z.fall], .slice (some ⟨gq, 0, none⟩) its.length cq]) (by simp [results, Tryz.results21, go_sem, cc, ff]) rfl ?_
        exact FIN.out _ w9 _ _ z _ _ HSZ.out.own OZ.out HSZ.out.only (HSZ.out.cur.le (by omega)) Q9 (by have h1 := HZZ.out; have h2 := HZY.out; have h3 := HL5.out; omega) (by rw [List.length_set]; omega)
      · clear q0 q1 q2 f2
        go_upto_region 13 with (fail)
        refine region_pop (S := fun w' => w'.cell? ⟨gq, k * 3, none⟩ = some (.slice (some ⟨gn, 0, none⟩) it.names.length nc)) 11 (by kernel_rfl) (by kernel_rfl) ?_
        simp only [List.take_succ_cons, List.take_zero, List.drop_succ_cons, List.drop_zero]
        refine startL ((HO.out.kept (Kept.refl w6).drew).slotN hk hi6 hc6) (fun hS0 => ?_)
        obtain ⟨wd, hwd⟩ : ∃ y : World, y = w6.drew := ⟨_, rfl⟩
        rw [← hwd] at hS0 ⊢
        have kd : Kept w6 wd := hwd ▸ (Kept.refl w6).drew
        have D0 := Lib.hid (HS.out.kept kd)
        have O0 := Lib.hid (HO.out.kept kd)
        clear hwd kd
        refine takeL (i := 0) (v := ?_) rfl (by kernel_rfl) (by kernel_rfl) (by kernel_rfl) (fun _ _ _ h => h) (Or.inl ⟨by rfl, ?_⟩) hS0 ?_
        rotate_left 1
        · (intro w hSw; (try dsimp only at hSw); go_simp; try with_reducible rfl)
        try simp only [Act.put, List.setIfInBounds_toArray, List.set_cons_zero, List.set_cons_succ]
        refine takeL (i := 1) (v := ?_) rfl (by kernel_rfl) (by kernel_rfl) (by kernel_rfl) (fun _ _ _ h => h) (Or.inl ⟨by rfl, ?_⟩) hS0 ?_
        rotate_left 1
        · (intro w hSw; (try dsimp only at hSw); go_simp; try with_reducible rfl)
        try simp only [Act.put, List.setIfInBounds_toArray, List.set_cons_zero, List.set_cons_succ]
        refine takeL (i := 2) (v := ?_) rfl (by kernel_rfl) (by kernel_rfl) (by kernel_rfl) (fun _ _ _ h => h) (Or.inl ⟨by rfl, ?_⟩) hS0 ?_
        rotate_left 1
        · (intro w hSw; (try dsimp only at hSw); go_simp; try with_reducible rfl)
        try simp only [Act.put, List.setIfInBounds_toArray, List.set_cons_zero, List.set_cons_succ]
        refine takeL (i := 3) (v := ?_) rfl (by kernel_rfl) (by kernel_rfl) (by kernel_rfl) (fun _ _ _ h => h) (Or.inl ⟨by rfl, ?_⟩) hS0 ?_
        rotate_left 1
        · (intro w hSw; (try dsimp only at hSw); go_simp; try with_reducible rfl)
        try simp only [Act.put, List.setIfInBounds_toArray, List.set_cons_zero, List.set_cons_succ]
        refine takeL (i := 4) (v := ?_) rfl (by kernel_rfl) (by kernel_rfl) (by kernel_rfl) (fun _ _ _ h => h) (Or.inl ⟨by rfl, ?_⟩) hS0 ?_
        rotate_left 1
        · (intro w hSw; (try dsimp only at hSw); go_simp; try with_reducible rfl)
        try simp only [Act.put, List.setIfInBounds_toArray, List.set_cons_zero, List.set_cons_succ]
        refine takeL (i := 5) (v := ?_) rfl (by kernel_rfl) (by kernel_rfl) (by kernel_rfl) (fun _ _ _ h => h) (Or.inl ⟨by rfl, ?_⟩) hS0 ?_
        rotate_left 1
        · (intro w hSw; (try dsimp only at hSw); go_simp; try with_reducible rfl)
        try simp only [Act.put, List.setIfInBounds_toArray, List.set_cons_zero, List.set_cons_succ]
        refine readyL (rs := [6, 7]) (by kernel_rfl) (by simp) ?_
        refine consL (i := 6) rfl (fun K hK => ?_) (consL (i := 7) rfl (fun K hK => ?_) (allNil))
        ·
          go_simp
          refine (elementNames_any wd).mono ?_
          rintro e wn ⟨rfl, bn, kn⟩
          have DN := Lib.hid (D0.out.kept kn)
          have ON := Lib.hid (O0.out.kept kn)
          have BNN := bn
          have hgnp : p < wd.heap.size := D0.out.cur.lt
          obtain ⟨gx, hgx⟩ : ∃ b : Nat, b = wd.heap.size := ⟨_, rfl⟩
          rw [← hgx] at BNN hgnp ⊢
          have HGX : Hid (∀ b ∈ fp (.slice (some ⟨gq, 0, none⟩) its.length cq) ++ fpL cs, b < gx) := Lib.hid (fun b hb => by have := (O0.out.fps b hb).2; omega)
          have HGY : Hid (w0.heap.size ≤ gx ∧ gx ≠ bb ∧ gx ∉ fp (Value.slice (some ⟨ge, 0, none⟩) x.elems.length ce) ++ fp (Value.slice (some ⟨gl, 0, none⟩) x.limits.length cl) ∧ True) := Lib.hid ⟨by have := D0.out.only.size; omega, by have := D0.out.box.lt; omega, fun hx => by rcases List.mem_append.1 hx with hx | hx <;> first | (have := (own_fp D0.out.elems.1 gx hx).2; omega) | (have := (own_fp D0.out.lims gx hx).2; omega), trivial⟩
          clear bn hgx
          go_wp2_with fail
          refine hK.out _ _ (ON.out.slotN hk hi6 hc6) (fun hS1 => ?_)
          clear hK K hS0
          try simp only [Act.put, List.setIfInBounds_toArray, List.set_cons_zero, List.set_cons_succ]
          refine onlyL (i := 7) rfl (by kernel_rfl) (fun K hK => ?_)
          go_simp
          obtain ⟨wt, hwt⟩ : ∃ x : World, x = wn.alloc (.cells #[.string ⟨#[81, 81]⟩, .string ⟨#[]⟩] 9) := ⟨_, rfl⟩
          rw [← hwt]
          have BT : Box wt wn.heap.size 9 #[.string ⟨#[81, 81]⟩, .string ⟨#[]⟩] := hwt ▸ Box.new wn _ _ _ rfl
          have kwt : Kept wn wt := hwt ▸ (Kept.refl wn).alloc _
          clear hwt
          have DT := Lib.hid (DN.out.kept kwt)
          have OT := Lib.hid (ON.out.kept kwt)
          obtain ⟨gt, hgt⟩ : ∃ b : Nat, b = wn.heap.size := ⟨_, rfl⟩
          rw [← hgt] at BT ⊢
          clear hgt
          replace BNN := BNN.kept kwt
          refine hK.out _ _ (OT.out.slotN hk hi6 hc6) (fun hS2 => ?_)
          clear hK K hS1
          try simp only [Act.put, List.setIfInBounds_toArray, List.set_cons_zero, List.set_cons_succ]
          refine onlyL (i := 8) rfl (by kernel_rfl) (fun K hK => ?_)
          rw [if_pos (wanted_none rfl _)]
          refine wp_append_SX wt _ _ rfl gx (.slice (some ⟨gx, 0, none⟩) 24 24) elN rfl (elN_box BNN gx (Nat.le_refl _)) _ [⟨#[81, 81]⟩, ⟨#[]⟩] rfl (strs_lit [⟨#[81, 81]⟩, ⟨#[]⟩] BT rfl (by decide) (by decide)) (by simp [elN_len]) (Nat.le_of_lt BNN.lt) ?_
          intro v8 w8 o8 on8 f8
          have hgx2 : ∀ b ∈ fp (Value.slice (some ⟨gx, 0, none⟩) 24 24), gx ≤ b := fun b hb => by rw [fp_some, List.mem_singleton] at hb; rw [hb]; exact Nat.le_refl _
          have O8 := Lib.hid (OT.out.only on8 (fun b hb hs => by rw [fp_some, List.mem_singleton] at hs; have hs' : b = gx := hs; have := HGX.out b hb; omega))
          have D8 := Lib.hid (DT.out.apartS on8 (fun b hb => by rw [fp_some, List.mem_singleton] at hb; subst hb; exact HGY.out))
          obtain ⟨zs8, hz8⟩ : ∃ l : List ByteArray, l = elN ++ ([⟨#[81, 81]⟩, ⟨#[]⟩] : List ByteArray) := ⟨_, rfl⟩
          rw [← hz8] at o8
          have OS8 := Lib.hid o8
          have HZ8 := Lib.hid hz8
          have hz80 : 0 < zs8.length := by rw [hz8]; simp
          have hz81 : zs8.length ≤ 1000000 := by rw [hz8]; simp [elN_len]
          clear hgx2 on8 f8 o8 hz8 BNN BT
          refine hK.out _ _ (O8.out.slotN hk hi6 hc6) (fun hS3 => ?_)
          clear hK K hS2
          try simp only [Act.put, List.setIfInBounds_toArray, List.set_cons_zero, List.set_cons_succ]
          refine onlyL (i := 9) rfl (by kernel_rfl) (fun K hK => ?_)
          obtain ⟨A8, c8, rfl, hn8, hm8, _⟩ := own_form OS8.out.1
          have hA8 : ∀ a, A8 = some a → a.block ≠ p := fun a e => by subst e; have := (own_fp OS8.out.1 a.block (by simp [fp_some])).1; have := hgnp; omega
          go_simp
          with_reducible refine (of_any p _ A8 zs8.length c8 zs8 w8 D8.out.cur (by omega) OS8.out.strs rfl hz80 hz81 hA8).mono ?_
          rintro e w7 ⟨x7, rfl, hx7, c7, on7⟩
          have hxs : x7.size ≤ maxLen := by
            unfold maxLen
            rw [HZ8.out] at hx7
            rcases List.mem_append.1 hx7 with q | q
            · have := elN_sz q; omega
            · have := List.all_eq_true.1 (show ([⟨#[81, 81]⟩, ⟨#[]⟩] : List ByteArray).all (fun z => decide (z.size ≤ 1000)) = true by decide) x7 q
              simp at this
              omega
          have O7 := Lib.hid (O8.out.off on7 (HP.out w8))
          have D7 := Lib.hid (D8.out.drawn c7 on7)
          have HXS := Lib.hid hxs
          clear c7 on7 hx7 hxs OS8
          go_wp2_with fail
          refine hK.out _ _ (O7.out.slotN hk hi6 hc6) (fun hS4 => ?_)
          clear hK K hS3
          try simp only [Act.put, List.setIfInBounds_toArray, List.set_cons_zero, List.set_cons_succ]
          refine takeL (i := 10) (v := ?_) rfl (by kernel_rfl) (by kernel_rfl) (by kernel_rfl) (fun _ _ _ h => h) (Or.inl ⟨by rfl, ?_⟩) hS4 ?_
          rotate_left 1
          · (intro w hSw; (try dsimp only at hSw); go_simp; try with_reducible rfl)
          try simp only [Act.put, List.setIfInBounds_toArray, List.set_cons_zero, List.set_cons_succ]
          refine doneL (by kernel_rfl) ?_
          clear hS4
          obtain ⟨zN, _, cN, fN⟩ := ownS_at (O7.out.2.2.1 k _ _ _ hc6 hi6).1 n0
          go_upto_region 21 with (fail)
          clear cN fN
          have OZ := Lib.hid (O7.out.name0 hi6 hc6 HXS.out)
          have SZ := Lib.hid (D7.out.apartS (only_set w7 gn 0 (.string x7)) (HAP.out gn (mem_n hc6)))
          obtain ⟨wz, hwz⟩ : ∃ y : World, y = w7.setCell ⟨gn, 0, none⟩ (.string x7) := ⟨_, rfl⟩
          rw [← hwz] at OZ SZ ⊢
          clear hwz
          obtain ⟨z, hz1, hz2, hsz⟩ : ∃ z : CodeD, z.elems.length = x.elems.length ∧ z.limits.length = x.limits.length ∧ DrSt p bb w0.heap.size (m + 2900) w0 wz z (Value.slice (some ⟨ge, 0, none⟩) x.elems.length ce) (Value.slice (some ⟨gl, 0, none⟩) x.limits.length cl) := ⟨x, rfl, rfl, SZ.out.le (by omega)⟩
          have HZZ := Lib.hid hz1
          have HZY := Lib.hid hz2
          have HSZ := Lib.hid hsz
          clear hz1 hz2 hsz
          have B2 := BR.out.only HSZ.out.only (not_one hrp)
          obtain ⟨xb, yb⟩ := HSZ.out.box.six
          obtain ⟨x2, y2⟩ := B2.six
          go_wp2_with fail
          clear xb yb x2 y2
          obtain ⟨w9, hw9, B9, Q9⟩ := set6 B2 (Value.slice (some ⟨ge, 0, none⟩) x.elems.length ce) (Value.slice (some ⟨gl, 0, none⟩) x.limits.length cl) (.int .i64 z.repeats) (.int .i64 z.bonus) (.int .i64 z.keeps) (.int .i64 z.fall)
          rw [← hw9]
          clear hw9
          obtain ⟨cc, ff⟩ := B9.six
          refine bodyPost_ret (v := .tuple #[.agg #[Value.slice (some ⟨ge, 0, none⟩) x.elems.length ce, Value.slice (some ⟨gl, 0, none⟩) x.limits.length cl, .int .i64 z.repeats, .int .i64 z.bonus, .int .i64 z.keeps, .int .i64 z.fall], .slice (some ⟨gq, 0, none⟩) its.length cq]) (by simp [results, Tryz.results21, go_sem, cc, ff]) rfl ?_
          exact FIN.out _ w9 _ _ z _ _ HSZ.out.own OZ.out HSZ.out.only (HSZ.out.cur.le (by omega)) Q9 (by have h1 := HZZ.out; have h2 := HZY.out; have h3 := HL5.out; omega) (by rw [List.length_set]; omega)
        ·
          go_simp
          obtain ⟨wt, hwt⟩ : ∃ x : World, x = wd.alloc (.cells #[.string ⟨#[81, 81]⟩, .string ⟨#[]⟩] 9) := ⟨_, rfl⟩
          rw [← hwt]
          have BT : Box wt wd.heap.size 9 #[.string ⟨#[81, 81]⟩, .string ⟨#[]⟩] := hwt ▸ Box.new wd _ _ _ rfl
          have kwt : Kept wd wt := hwt ▸ (Kept.refl wd).alloc _
          clear hwt
          have DT := Lib.hid (D0.out.kept kwt)
          have OT := Lib.hid (O0.out.kept kwt)
          obtain ⟨gt, hgt⟩ : ∃ b : Nat, b = wd.heap.size := ⟨_, rfl⟩
          rw [← hgt] at BT ⊢
          clear hgt
          refine hK.out _ _ (OT.out.slotN hk hi6 hc6) (fun hS5 => ?_)
          clear hK K hS0
          try simp only [Act.put, List.setIfInBounds_toArray, List.set_cons_zero, List.set_cons_succ]
          refine onlyL (i := 6) rfl (by kernel_rfl) (fun K hK => ?_)
          go_simp
          refine (elementNames_any wt).mono ?_
          rintro e wn ⟨rfl, bn, kn⟩
          have DN := Lib.hid (DT.out.kept kn)
          have ON := Lib.hid (OT.out.kept kn)
          have BNN := bn
          have hgnp : p < wt.heap.size := DT.out.cur.lt
          obtain ⟨gx, hgx⟩ : ∃ b : Nat, b = wt.heap.size := ⟨_, rfl⟩
          rw [← hgx] at BNN hgnp ⊢
          have HGX : Hid (∀ b ∈ fp (.slice (some ⟨gq, 0, none⟩) its.length cq) ++ fpL cs, b < gx) := Lib.hid (fun b hb => by have := (OT.out.fps b hb).2; omega)
          have HGY : Hid (w0.heap.size ≤ gx ∧ gx ≠ bb ∧ gx ∉ fp (Value.slice (some ⟨ge, 0, none⟩) x.elems.length ce) ++ fp (Value.slice (some ⟨gl, 0, none⟩) x.limits.length cl) ∧ True) := Lib.hid ⟨by have := DT.out.only.size; omega, by have := DT.out.box.lt; omega, fun hx => by rcases List.mem_append.1 hx with hx | hx <;> first | (have := (own_fp DT.out.elems.1 gx hx).2; omega) | (have := (own_fp DT.out.lims gx hx).2; omega), trivial⟩
          clear bn hgx
          go_wp2_with fail
          replace BT := BT.kept kn
          refine hK.out _ _ (ON.out.slotN hk hi6 hc6) (fun hS6 => ?_)
          clear hK K hS5
          try simp only [Act.put, List.setIfInBounds_toArray, List.set_cons_zero, List.set_cons_succ]
          refine onlyL (i := 8) rfl (by kernel_rfl) (fun K hK => ?_)
          rw [if_pos (wanted_none rfl _)]
          refine wp_append_SX wn _ _ rfl gx (.slice (some ⟨gx, 0, none⟩) 24 24) elN rfl (elN_box BNN gx (Nat.le_refl _)) _ [⟨#[81, 81]⟩, ⟨#[]⟩] rfl (strs_lit [⟨#[81, 81]⟩, ⟨#[]⟩] BT rfl (by decide) (by decide)) (by simp [elN_len]) (Nat.le_of_lt BNN.lt) ?_
          intro v8 w8 o8 on8 f8
          have hgx2 : ∀ b ∈ fp (Value.slice (some ⟨gx, 0, none⟩) 24 24), gx ≤ b := fun b hb => by rw [fp_some, List.mem_singleton] at hb; rw [hb]; exact Nat.le_refl _
          have O8 := Lib.hid (ON.out.only on8 (fun b hb hs => by rw [fp_some, List.mem_singleton] at hs; have hs' : b = gx := hs; have := HGX.out b hb; omega))
          have D8 := Lib.hid (DN.out.apartS on8 (fun b hb => by rw [fp_some, List.mem_singleton] at hb; subst hb; exact HGY.out))
          obtain ⟨zs8, hz8⟩ : ∃ l : List ByteArray, l = elN ++ ([⟨#[81, 81]⟩, ⟨#[]⟩] : List ByteArray) := ⟨_, rfl⟩
          rw [← hz8] at o8
          have OS8 := Lib.hid o8
          have HZ8 := Lib.hid hz8
          have hz80 : 0 < zs8.length := by rw [hz8]; simp
          have hz81 : zs8.length ≤ 1000000 := by rw [hz8]; simp [elN_len]
          clear hgx2 on8 f8 o8 hz8 BNN BT
          refine hK.out _ _ (O8.out.slotN hk hi6 hc6) (fun hS7 => ?_)
          clear hK K hS6
          try simp only [Act.put, List.setIfInBounds_toArray, List.set_cons_zero, List.set_cons_succ]
          refine onlyL (i := 9) rfl (by kernel_rfl) (fun K hK => ?_)
          obtain ⟨A8, c8, rfl, hn8, hm8, _⟩ := own_form OS8.out.1
          have hA8 : ∀ a, A8 = some a → a.block ≠ p := fun a e => by subst e; have := (own_fp OS8.out.1 a.block (by simp [fp_some])).1; have := hgnp; omega
          go_simp
          with_reducible refine (of_any p _ A8 zs8.length c8 zs8 w8 D8.out.cur (by omega) OS8.out.strs rfl hz80 hz81 hA8).mono ?_
          rintro e w7 ⟨x7, rfl, hx7, c7, on7⟩
          have hxs : x7.size ≤ maxLen := by
            unfold maxLen
            rw [HZ8.out] at hx7
            rcases List.mem_append.1 hx7 with q | q
            · have := elN_sz q; omega
            · have := List.all_eq_true.1 (show ([⟨#[81, 81]⟩, ⟨#[]⟩] : List ByteArray).all (fun z => decide (z.size ≤ 1000)) = true by decide) x7 q
              simp at this
              omega
          have O7 := Lib.hid (O8.out.off on7 (HP.out w8))
          have D7 := Lib.hid (D8.out.drawn c7 on7)
          have HXS := Lib.hid hxs
          clear c7 on7 hx7 hxs OS8
          go_wp2_with fail
          refine hK.out _ _ (O7.out.slotN hk hi6 hc6) (fun hS8 => ?_)
          clear hK K hS7
          try simp only [Act.put, List.setIfInBounds_toArray, List.set_cons_zero, List.set_cons_succ]
          refine takeL (i := 10) (v := ?_) rfl (by kernel_rfl) (by kernel_rfl) (by kernel_rfl) (fun _ _ _ h => h) (Or.inl ⟨by rfl, ?_⟩) hS8 ?_
          rotate_left 1
          · (intro w hSw; (try dsimp only at hSw); go_simp; try with_reducible rfl)
          try simp only [Act.put, List.setIfInBounds_toArray, List.set_cons_zero, List.set_cons_succ]
          refine doneL (by kernel_rfl) ?_
          clear hS8
          obtain ⟨zN, _, cN, fN⟩ := ownS_at (O7.out.2.2.1 k _ _ _ hc6 hi6).1 n0
          go_upto_region 21 with (fail)
          clear cN fN
          have OZ := Lib.hid (O7.out.name0 hi6 hc6 HXS.out)
          have SZ := Lib.hid (D7.out.apartS (only_set w7 gn 0 (.string x7)) (HAP.out gn (mem_n hc6)))
          obtain ⟨wz, hwz⟩ : ∃ y : World, y = w7.setCell ⟨gn, 0, none⟩ (.string x7) := ⟨_, rfl⟩
          rw [← hwz] at OZ SZ ⊢
          clear hwz
          obtain ⟨z, hz1, hz2, hsz⟩ : ∃ z : CodeD, z.elems.length = x.elems.length ∧ z.limits.length = x.limits.length ∧ DrSt p bb w0.heap.size (m + 2900) w0 wz z (Value.slice (some ⟨ge, 0, none⟩) x.elems.length ce) (Value.slice (some ⟨gl, 0, none⟩) x.limits.length cl) := ⟨x, rfl, rfl, SZ.out.le (by omega)⟩
          have HZZ := Lib.hid hz1
          have HZY := Lib.hid hz2
          have HSZ := Lib.hid hsz
          clear hz1 hz2 hsz
          have B2 := BR.out.only HSZ.out.only (not_one hrp)
          obtain ⟨xb, yb⟩ := HSZ.out.box.six
          obtain ⟨x2, y2⟩ := B2.six
          go_wp2_with fail
          clear xb yb x2 y2
          obtain ⟨w9, hw9, B9, Q9⟩ := set6 B2 (Value.slice (some ⟨ge, 0, none⟩) x.elems.length ce) (Value.slice (some ⟨gl, 0, none⟩) x.limits.length cl) (.int .i64 z.repeats) (.int .i64 z.bonus) (.int .i64 z.keeps) (.int .i64 z.fall)
          rw [← hw9]
          clear hw9
          obtain ⟨cc, ff⟩ := B9.six
          refine bodyPost_ret (v := .tuple #[.agg #[Value.slice (some ⟨ge, 0, none⟩) x.elems.length ce, Value.slice (some ⟨gl, 0, none⟩) x.limits.length cl, .int .i64 z.repeats, .int .i64 z.bonus, .int .i64 z.keeps, .int .i64 z.fall], .slice (some ⟨gq, 0, none⟩) its.length cq]) (by simp [results, Tryz.results21, go_sem, cc, ff]) rfl ?_
          exact FIN.out _ w9 _ _ z _ _ HSZ.out.own OZ.out HSZ.out.only (HSZ.out.cur.le (by omega)) Q9 (by have h1 := HZZ.out; have h2 := HZY.out; have h3 := HL5.out; omega) (by rw [List.length_set]; omega)
      · clear q0 q1 q2 f2
        go_upto_region 15 with (fail)
        refine region_pop (S := fun w' => w'.cell? ⟨bb, 1, none⟩ = some (Value.slice (some ⟨gl, 0, none⟩) x.limits.length cl)) 7 (by kernel_rfl) (by kernel_rfl) ?_
        simp only [List.take_succ_cons, List.take_zero, List.drop_succ_cons, List.drop_zero]
        refine startL ((HS.out.kept (Kept.refl w6).drew).box.cell 1) (fun hS0 => ?_)
        obtain ⟨wd, hwd⟩ : ∃ y : World, y = w6.drew := ⟨_, rfl⟩
        rw [← hwd] at hS0 ⊢
        have kd : Kept w6 wd := hwd ▸ (Kept.refl w6).drew
        have D0 := Lib.hid (HS.out.kept kd)
        have O0 := Lib.hid (HO.out.kept kd)
        clear hwd kd
        refine takeL (i := 0) (v := ?_) rfl (by kernel_rfl) (by kernel_rfl) (by kernel_rfl) (fun _ _ _ h => h) (Or.inl ⟨by rfl, ?_⟩) hS0 ?_
        rotate_left 1
        · (intro w hSw; (try dsimp only at hSw); go_simp; try with_reducible rfl)
        try simp only [Act.put, List.setIfInBounds_toArray, List.set_cons_zero, List.set_cons_succ]
        refine takeL (i := 1) (v := ?_) rfl (by kernel_rfl) (by kernel_rfl) (by kernel_rfl) (fun _ _ _ h => h) (Or.inl ⟨by rfl, ?_⟩) hS0 ?_
        rotate_left 1
        · (intro w hSw; (try dsimp only at hSw); go_simp; try with_reducible rfl)
        try simp only [Act.put, List.setIfInBounds_toArray, List.set_cons_zero, List.set_cons_succ]
        refine takeL (i := 2) (v := ?_) rfl (by kernel_rfl) (by kernel_rfl) (by kernel_rfl) (fun _ _ _ h => h) (Or.inl ⟨by rfl, ?_⟩) hS0 ?_
        rotate_left 1
        · (intro w hSw; (try dsimp only at hSw); go_simp; try with_reducible rfl)
        try simp only [Act.put, List.setIfInBounds_toArray, List.set_cons_zero, List.set_cons_succ]
        refine takeL (i := 4) (v := ?_) rfl (by kernel_rfl) (by kernel_rfl) (by kernel_rfl) (fun _ _ _ h => h) (Or.inl ⟨by rfl, ?_⟩) hS0 ?_
        rotate_left 1
        · (intro w hSw; (try dsimp only at hSw); go_simp; try with_reducible rfl)
        try simp only [Act.put, List.setIfInBounds_toArray, List.set_cons_zero, List.set_cons_succ]
        refine onlyL (i := 3) rfl (by kernel_rfl) (fun K hK => ?_)
        go_simp
        with_reducible refine (pick_any p _ 5 wd D0.out.cur (by omega) (by omega)).mono ?_
        rintro e w7 ⟨x7, rfl, ⟨lo7, hi7⟩, c7, on7⟩
        have hb7 : x7 < 5 := hi7 (by omega)
        have O7 := Lib.hid (O0.out.off on7 (HP.out wd))
        have D7 := Lib.hid (D0.out.drawn c7 on7)
        clear c7 on7 hi7
        go_wp2_with fail
        refine hK.out _ _ (D7.out.box.cell 1) (fun hS1 => ?_)
        clear hK K hS0
        try simp only [Act.put, List.setIfInBounds_toArray, List.set_cons_zero, List.set_cons_succ]
        refine onlyL (i := 5) rfl (by kernel_rfl) (fun K hK => ?_)
        go_simp
        with_reducible refine (pick_any p _ 3 w7 D7.out.cur (by omega) (by omega)).mono ?_
        rintro e w8 ⟨x8, rfl, ⟨lo8, hi8⟩, c7, on7⟩
        have hb8 : x8 < 3 := hi8 (by omega)
        have O8 := Lib.hid (O7.out.off on7 (HP.out w7))
        have D8 := Lib.hid (D7.out.drawn c7 on7)
        clear c7 on7 hi8
        go_wp2_with fail
        refine hK.out _ _ (D8.out.box.cell 1) (fun hS2 => ?_)
        clear hK K hS1
        try simp only [Act.put, List.setIfInBounds_toArray, List.set_cons_zero, List.set_cons_succ]
        obtain ⟨j, rfl⟩ : ∃ j : Nat, x7 = (j : Int) := ⟨x7.toNat, by omega⟩
        have hj5 : (j : Int) < (x.limits.length : Int) := by have := HL5.out; omega
        refine takeL (i := 6) (v := ?_) rfl (by kernel_rfl) (by kernel_rfl) (by kernel_rfl) (fun _ _ _ h => h) (Or.inl ⟨by rfl, ?_⟩) hS2 ?_
        rotate_left 1
        · (intro w hSw; (try dsimp only at hSw); go_simp; try with_reducible rfl)
        try simp only [Act.put, List.setIfInBounds_toArray, List.set_cons_zero, List.set_cons_succ]
        refine doneL (by kernel_rfl) ?_
        clear hS2
        obtain ⟨zL, cL, fL⟩ := ownI_at (k := j) D8.out.lims (by omega)
        go_upto_region 21 with (fail)
        clear cL fL
        have SZ := Lib.hid (D8.out.cellL (k := j) (x := x8) rfl)
        have OZ := Lib.hid (O8.out.only (only_set w8 gl j (.int .i64 x8)) (fun b hb => not_one (by have := HLB.out b hb; have := HRW.out gl (List.mem_append_right _ (by simp [fp_some])); omega)))
        obtain ⟨wz, hwz⟩ : ∃ y : World, y = w8.setCell ⟨gl, j, none⟩ (.int .i64 x8) := ⟨_, rfl⟩
        rw [← hwz] at OZ SZ ⊢
        clear hwz
        obtain ⟨z, hz1, hz2, hsz⟩ : ∃ z : CodeD, z.elems.length = x.elems.length ∧ z.limits.length = x.limits.length ∧ DrSt p bb w0.heap.size (m + 2900) w0 wz z (Value.slice (some ⟨ge, 0, none⟩) x.elems.length ce) (Value.slice (some ⟨gl, 0, none⟩) x.limits.length cl) := ⟨{ x with limits := x.limits.set j x8 }, rfl, (by simp), SZ.out.le (by omega)⟩
        have HZZ := Lib.hid hz1
        have HZY := Lib.hid hz2
        have HSZ := Lib.hid hsz
        clear hz1 hz2 hsz
        have B2 := BR.out.only HSZ.out.only (not_one hrp)
        obtain ⟨xb, yb⟩ := HSZ.out.box.six
        obtain ⟨x2, y2⟩ := B2.six
        go_wp2_with fail
        clear xb yb x2 y2
        obtain ⟨w9, hw9, B9, Q9⟩ := set6 B2 (Value.slice (some ⟨ge, 0, none⟩) x.elems.length ce) (Value.slice (some ⟨gl, 0, none⟩) x.limits.length cl) (.int .i64 z.repeats) (.int .i64 z.bonus) (.int .i64 z.keeps) (.int .i64 z.fall)
        rw [← hw9]
        clear hw9
        obtain ⟨cc, ff⟩ := B9.six
        refine bodyPost_ret (v := .tuple #[.agg #[Value.slice (some ⟨ge, 0, none⟩) x.elems.length ce, Value.slice (some ⟨gl, 0, none⟩) x.limits.length cl, .int .i64 z.repeats, .int .i64 z.bonus, .int .i64 z.keeps, .int .i64 z.fall], .slice (some ⟨gq, 0, none⟩) its.length cq]) (by simp [results, Tryz.results21, go_sem, cc, ff]) rfl ?_
        exact FIN.out _ w9 _ _ z _ _ HSZ.out.own OZ.out HSZ.out.only (HSZ.out.cur.le (by omega)) Q9 (by have h1 := HZZ.out; have h2 := HZY.out; have h3 := HL5.out; omega) (by omega)
      · clear q0 q1 q2 f2
        obtain ⟨xb, yb⟩ := HS.out.box.six
        go_upto_region 18 with (fail)
        clear xb yb
        have S7 := Lib.hid (HS.out.repeats 1)
        have O7 := Lib.hid (HO.out.only (only_set w6 bb 2 (.int .i64 1)) (fun b hb => not_one (by have := HLB.out b hb; omega)))
        obtain ⟨w7, hw7⟩ : ∃ y : World, y = w6.setCell ⟨bb, 2, none⟩ (.int .i64 1) := ⟨_, rfl⟩
        rw [← hw7] at S7 O7 ⊢
        clear hw7
        go_wp2_with fail
        refine (itOwn_any _ its w7 O7.out.items HVA.out (by omega)).mono ?_
        rintro e wA ⟨va, csA, rfl, oa, ka⟩
        have OA := Lib.hid oa
        have KA := Lib.hid ka
        clear oa ka
        go_wp2_with fail
        refine (itOwn_any _ its wA (O7.out.kept KA.out).items HVA.out (by omega)).mono ?_
        rintro e wB ⟨vb, csB, rfl, ob, kb⟩
        obtain ⟨AB, cB, rfl, hcB, hmB, hAB⟩ := own_form ob.2.1
        obtain ⟨gB, rfl⟩ := hAB (by omega)
        unfold maxLen at hmB
        have OB := Lib.hid ob
        have KB := Lib.hid (KA.out.trans kb)
        have OAB := Lib.hid (OA.out.kept kb)
        clear ob kb
        go_wp2_with fail
        obtain ⟨kk, hkk, hkl, hk5⟩ : ∃ n : Nat, min its.length 5 = n ∧ n ≤ its.length ∧ n ≤ 5 := ⟨_, rfl, by omega, by omega⟩
        refine (l1Least_any its.length 5 kk wB hkk).mono ?_
        rintro e wB' ⟨rfl, rfl⟩
        have hkl' : (kk : Int) ≤ (its.length : Int) := by omega
        clear hkk
        obtain ⟨AA, cA, rfl, _, hmA, _⟩ := own_form OA.out.2.1
        have HZA := Lib.hid (OA.out.1)
        have HZB := Lib.hid (OB.out.1)
        have HLZ : Hid ((csA.zip its).length = its.length) := Lib.hid (by rw [List.length_zip, HZA.out]; omega)
        have HLY : Hid ((csB.zip its).length = its.length) := Lib.hid (by rw [List.length_zip, HZB.out]; omega)
        have HLT : Hid (((csB.zip its).take kk).length ≤ 5) := Lib.hid (by rw [List.length_take]; omega)
        go_wp2_with (at_builtin; refine wpList_append_P3 w7.heap.size wB rfl _ _ rfl (.slice AA its.length cA) (csA.zip its) rfl OAB.out.rowP KB.out.size _ ((csB.zip its).take kk) rfl (srcP_to OB.out.rowP.src HLY.out hkl) (OB.out.goodP.take kk) (by have h1 := HLZ.out; have h2 := HLT.out; omega) ?_; intro v9 w9 hR9 on9; have hdA : ∀ b ∈ fp (Value.slice AA its.length cA), w7.heap.size ≤ b ∧ b < wA.heap.size := (fun b hb => OA.out.fps b (List.mem_append_left _ hb)); have K9 := Lib.hid (on9.above KB.out (fun b hb => (hdA b hb).1)); have G9 := (OAB.out.goodO on9 (fun b hb hs => (List.nodup_append.1 OA.out.2.2.2).2.2 b hs b hb rfl)).append ((OB.out.goodO on9 (fun b hb hs => by have h1 := (OB.out.fps b (List.mem_append_right _ hb)).1; have h2 := (hdA b hs).2; omega)).take kk); have I9 := Lib.hid (items_of hR9.src G9); clear hR9 on9 hdA G9)
        have hI9 := I9.out
        rw [itsP_append, itsP_take, itsP_zip HZA.out, itsP_zip HZB.out] at hI9
        have HI9 := Lib.hid hI9
        clear hI9 I9
        have HV9 : Hid ((its ++ its.take kk).all itemB = true) := Lib.hid (by
          have h := HVA.out
          rw [List.all_append, h, Bool.true_and, List.all_eq_true]
          exact fun y hy => List.all_eq_true.1 h y (List.mem_of_mem_take hy))
        have HL9 : Hid ((its ++ its.take kk).length ≤ 14) := Lib.hid (by rw [List.length_append, List.length_take]; omega)
        refine (pgLate_any _ (its ++ its.take kk) w9 HI9.out HV9.out (by have := HL9.out; omega)).mono ?_
        rintro e wt ⟨vt, ct, rfl, ot, kt⟩
        obtain ⟨At, ctt, rfl, _⟩ := own_form ot.2.1
        have KT := Lib.hid (K9.out.trans kt)
        have SZ := Lib.hid (S7.out.kept KT.out)
        have OZ := Lib.hid (OwnC.base ot (show w0.heap.size ≤ w9.heap.size by have h1 := K9.out.size; have h2 := S7.out.only.size; omega))
        clear ot kt
        obtain ⟨z, hz1, hz2, hsz⟩ : ∃ z : CodeD, z.elems.length = x.elems.length ∧ z.limits.length = x.limits.length ∧ DrSt p bb w0.heap.size (m + 2900) w0 wt z (Value.slice (some ⟨ge, 0, none⟩) x.elems.length ce) (Value.slice (some ⟨gl, 0, none⟩) x.limits.length cl) := ⟨{ x with repeats := 1 }, rfl, rfl, SZ.out.le (by omega)⟩
        have HZZ := Lib.hid hz1
        have HZY := Lib.hid hz2
        have HSZ := Lib.hid hsz
        clear hz1 hz2 hsz
        have B2 := BR.out.only HSZ.out.only (not_one hrp)
        obtain ⟨xb, yb⟩ := HSZ.out.box.six
        obtain ⟨x2, y2⟩ := B2.six
        go_wp2_with fail
        clear xb yb x2 y2
        obtain ⟨w9, hw9, B9, Q9⟩ := set6 B2 (Value.slice (some ⟨ge, 0, none⟩) x.elems.length ce) (Value.slice (some ⟨gl, 0, none⟩) x.limits.length cl) (.int .i64 z.repeats) (.int .i64 z.bonus) (.int .i64 z.keeps) (.int .i64 z.fall)
        rw [← hw9]
        clear hw9
        obtain ⟨cc, ff⟩ := B9.six
        refine bodyPost_ret (v := .tuple #[.agg #[Value.slice (some ⟨ge, 0, none⟩) x.elems.length ce, Value.slice (some ⟨gl, 0, none⟩) x.limits.length cl, .int .i64 z.repeats, .int .i64 z.bonus, .int .i64 z.keeps, .int .i64 z.fall], .slice At (lated (its ++ its.take kk)).length ctt]) (by simp [results, Tryz.results21, go_sem, cc, ff]) rfl ?_
        exact FIN.out _ w9 _ _ z _ _ HSZ.out.own OZ.out HSZ.out.only (HSZ.out.cur.le (by omega)) Q9 (by have h1 := HZZ.out; have h2 := HZY.out; have h3 := HL5.out; omega) (by rw [lated_length]; have := HL9.out; omega)
      · clear q0 q1 q2 f2
        go_wp2_with fail
        with_reducible refine (anyItems_any p _ w6 HS.out.cur (by omega)).mono ?_
        rintro e w7 ⟨⟨v7, jts, js, rfl, o7, hj15⟩, c7, on7⟩
        obtain ⟨Bq, dq, rfl, _⟩ := own_form o7.2.1
        have SZ := Lib.hid (HS.out.drawn c7 on7)
        have OZ := Lib.hid (OwnC.base o7 HS.out.only.size)
        have HJ := Lib.hid hj15
        clear o7 c7 on7 hj15
        obtain ⟨z, hz1, hz2, hsz⟩ : ∃ z : CodeD, z.elems.length = x.elems.length ∧ z.limits.length = x.limits.length ∧ DrSt p bb w0.heap.size (m + 2900) w0 w7 z (Value.slice (some ⟨ge, 0, none⟩) x.elems.length ce) (Value.slice (some ⟨gl, 0, none⟩) x.limits.length cl) := ⟨x, rfl, rfl, SZ.out.le (by omega)⟩
        have HZZ := Lib.hid hz1
        have HZY := Lib.hid hz2
        have HSZ := Lib.hid hsz
        clear hz1 hz2 hsz
        have B2 := BR.out.only HSZ.out.only (not_one hrp)
        obtain ⟨xb, yb⟩ := HSZ.out.box.six
        obtain ⟨x2, y2⟩ := B2.six
        go_wp2_with fail
        clear xb yb x2 y2
        obtain ⟨w9, hw9, B9, Q9⟩ := set6 B2 (Value.slice (some ⟨ge, 0, none⟩) x.elems.length ce) (Value.slice (some ⟨gl, 0, none⟩) x.limits.length cl) (.int .i64 z.repeats) (.int .i64 z.bonus) (.int .i64 z.keeps) (.int .i64 z.fall)
        rw [← hw9]
        clear hw9
        obtain ⟨cc, ff⟩ := B9.six
        refine bodyPost_ret (v := .tuple #[.agg #[Value.slice (some ⟨ge, 0, none⟩) x.elems.length ce, Value.slice (some ⟨gl, 0, none⟩) x.limits.length cl, .int .i64 z.repeats, .int .i64 z.bonus, .int .i64 z.keeps, .int .i64 z.fall], .slice Bq jts.length dq]) (by simp [results, Tryz.results21, go_sem, cc, ff]) rfl ?_
        exact FIN.out _ w9 _ _ z _ _ HSZ.out.own OZ.out HSZ.out.only (HSZ.out.cur.le (by omega)) Q9 (by have h1 := HZZ.out; have h2 := HZY.out; have h3 := HL5.out; omega) HJ.out
      · clear q0 q1 q2 f2
        obtain ⟨z, hz1, hz2, hsz⟩ : ∃ z : CodeD, z.elems.length = x.elems.length ∧ z.limits.length = x.limits.length ∧ DrSt p bb w0.heap.size (m + 2900) w0 w6 z (Value.slice (some ⟨ge, 0, none⟩) x.elems.length ce) (Value.slice (some ⟨gl, 0, none⟩) x.limits.length cl) := ⟨x, rfl, rfl, HS.out.le (by omega)⟩
        have HZZ := Lib.hid hz1
        have HZY := Lib.hid hz2
        have HSZ := Lib.hid hsz
        clear hz1 hz2 hsz
        have B2 := BR.out.only HSZ.out.only (not_one hrp)
        obtain ⟨xb, yb⟩ := HSZ.out.box.six
        obtain ⟨x2, y2⟩ := B2.six
        go_wp2_with fail
        clear xb yb x2 y2
        obtain ⟨w9, hw9, B9, Q9⟩ := set6 B2 (Value.slice (some ⟨ge, 0, none⟩) x.elems.length ce) (Value.slice (some ⟨gl, 0, none⟩) x.limits.length cl) (.int .i64 z.repeats) (.int .i64 z.bonus) (.int .i64 z.keeps) (.int .i64 z.fall)
        rw [← hw9]
        clear hw9
        obtain ⟨cc, ff⟩ := B9.six
        refine bodyPost_ret (v := .tuple #[.agg #[Value.slice (some ⟨ge, 0, none⟩) x.elems.length ce, Value.slice (some ⟨gl, 0, none⟩) x.limits.length cl, .int .i64 z.repeats, .int .i64 z.bonus, .int .i64 z.keeps, .int .i64 z.fall], .slice (some ⟨gq, 0, none⟩) its.length cq]) (by simp [results, Tryz.results21, go_sem, cc, ff]) rfl ?_
        exact FIN.out _ w9 _ _ z _ _ HSZ.out.own HO.out HSZ.out.only (HSZ.out.cur.le (by omega)) Q9 (by have h1 := HZZ.out; have h2 := HZY.out; have h3 := HL5.out; omega) (by omega)
end Go.Proofs.YtkekpolfdmmgeaaGreat

/- Draws: a code, a list of items, a number. -/
namespace Go.Proofs.YtkekpolfdmmgeaaGreat
set_option linter.unusedVariables false
set_option linter.unusedSimpArgs false
set_option linter.unnecessarySimpa false
open Go.RowKit Go.Lib

/-- what a draw of a code, a list of items and a number leaves -/
def J3Post (w : World) (e : Ending) (w' : World) : Prop := ∃ cv lv c its cs, ∃ n : Int, e = .returned (.tuple #[cv, lv, .int .i64 n]) ∧ OwnK w' w.heap.size cv c ∧ OwnC w' w.heap.size lv its cs ∧ c.elems.length ≤ 25 ∧ c.limits.length ≤ 6 ∧ its.length ≤ 15
end Go.Proofs.YtkekpolfdmmgeaaGreat
