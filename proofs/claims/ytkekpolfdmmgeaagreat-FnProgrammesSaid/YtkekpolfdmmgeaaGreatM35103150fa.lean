/- Contracts of functions that the proof leans on. No condition. -/
import Derived.Test.YtkekpolfdmmgeaaGreatM478177d6a4
/- append(out, xs...) in a plain region: numbers, strings; only the row's own block turns; where the new row lies. -/
namespace Go.Proofs.YtkekpolfdmmgeaaGreat
set_option linter.unusedVariables false
set_option linter.unusedSimpArgs false
open Go.RowKit

theorem wpList_append_JD (w : World) {ops : Array Oper} {rest : List Oper} {o : Oper} {a : Act} {Q : Exit → Act → World → Prop} (hgd : o.guard = none) (s x : Operand)
    (ho : o.op = .call { callee := .builtin .append, args := #[s, x], argTypes := #[24, 24] })
    (base : Nat) (v : Value) (zs : List Int) (hs : a.eval s = v) (hown : OwnI w base v zs) (u : Value) (ys : List Int) (hx : a.eval x = u) (hr : Ints w u ys)
    (hl : zs.length + ys.length ≤ 16777216) (hbase : base ≤ w.heap.size)
    (h : ∀ v' w', OwnI w' base v' (zs ++ ys) → Only (fp v) w w' → (∀ b ∈ fp v', b ∈ fp v ∨ b = w.heap.size) → wpList Tryz.prog ops Q rest (a.put o.dst v') w') : wpList Tryz.prog ops Q (o :: rest) a w :=
  wpList_plain hgd fun _ hK => wp_append_ID w s x ho base v zs hs hown u ys hx hr hl hbase fun v' w' h2 h3 h4 => hK _ _ (h v' w' h2 h3 h4)
theorem wpList_append_SQ (w : World) {ops : Array Oper} {rest : List Oper} {o : Oper} {a : Act} {Q : Exit → Act → World → Prop} (hgd : o.guard = none) (s x : Operand)
    (ho : o.op = .call { callee := .builtin .append, args := #[s, x], argTypes := #[28, 28] })
    (base : Nat) (v : Value) (zs : List ByteArray) (hs : a.eval s = v) (hown : OwnS w base v zs) (u : Value) (ys : List ByteArray) (hx : a.eval x = u) (hr : Strs w u ys)
    (hl : zs.length + ys.length ≤ 16777216) (hbase : base ≤ w.heap.size)
    (h : ∀ v' w', OwnS w' base v' (zs ++ ys) → Only (fp v) w w' → wpList Tryz.prog ops Q rest (a.put o.dst v') w') : wpList Tryz.prog ops Q (o :: rest) a w := by
  refine wpList_plain hgd fun K hK => ?_
  obtain ⟨i0, hi, hz0, hz1, hz2⟩ := info_parts info_str
  obtain ⟨v', w', hrun, h2, h3, h4⟩ := run_append_locG (P := Tryz.prog) w base 28 o.type 9 i0 _ 1 16 Tryz.underlying28 hi hz0 hz1 hz2 rfl (by omega) v zs.length _ hown.1 u ys.length (ys.map Value.string) hr.1 (by simp) (fun y hy => by obtain ⟨_, _, rfl⟩ := List.mem_map.1 hy; rfl) (by unfold maxLen; omega) (by omega) hbase
  unfold Oper.wp execOp
  simp only [ho, resolve, invoke, builtin, Sem.run_bind, Sem.run_pure, Result.andThen_ok, List.map_toArray, List.map_cons, List.map_nil, hs, hx, hrun]
  refine hK _ _ (h v' w' ?_ (only_of_grown h3))
  refine ⟨by rw [List.length_append, List.map_append]; exact h2, fun e he => ?_⟩
  rcases List.mem_append.1 he with he | he
  · exact hown.2 e he
  · exact hr.2 e he
theorem ownE_cases {w : World} {base : Nat} {v : Value} {es : List ElemD} (h : OwnE w base v es) : (v = .slice none 0 0 ∧ es = []) ∨ ∃ g cap, v = .slice (some ⟨g, 0, none⟩) es.length cap ∧ es.length ≤ cap ∧ cap ≤ maxLen := by
  rcases h.1.2 with ⟨e1, e2⟩ | ⟨g, cap, cur, e1, _, _, e4, e5, _⟩
  · exact .inl ⟨e1, List.eq_nil_of_length_eq_zero e2⟩
  · exact .inr ⟨g, cap, e1, e4, e5⟩
theorem ownI_cases {w : World} {base : Nat} {v : Value} {zs : List Int} (h : OwnI w base v zs) : (v = .slice none 0 0 ∧ zs = []) ∨ ∃ g cap, v = .slice (some ⟨g, 0, none⟩) zs.length cap ∧ zs.length ≤ cap ∧ cap ≤ maxLen := by
  rcases h.2 with ⟨e1, e2⟩ | ⟨g, cap, cur, e1, _, _, e4, e5, _⟩
  · exact .inl ⟨e1, List.eq_nil_of_length_eq_zero e2⟩
  · exact .inr ⟨g, cap, e1, e4, e5⟩
theorem ownS_casesQ {w : World} {base : Nat} {v : Value} {zs : List ByteArray} (h : OwnS w base v zs) : (v = .slice none 0 0 ∧ zs = []) ∨ ∃ g cap, v = .slice (some ⟨g, 0, none⟩) zs.length cap := by
  rcases h.1.2 with ⟨e1, e2⟩ | ⟨g, cap, cur, e1, _, _, e4, e5, _⟩
  · exact .inl ⟨e1, List.eq_nil_of_length_eq_zero e2⟩
  · exact .inr ⟨g, cap, e1⟩
/-- an element's cells, as a store wants them -/
theorem ownE_at {w : World} {base g cap : Nat} {es : List ElemD} (h : OwnE w base (.slice (some ⟨g, 0, none⟩) es.length cap) es) {k : Nat} (hk : k < es.length) :
    ∃ e, es[k]? = some e ∧ (w.cell? ⟨g, k * 4, none⟩ = some (.string e.name) ∧ w.cell? ⟨g, k * 4 + 1, none⟩ = some (.int .i64 e.family) ∧ w.cell? ⟨g, k * 4 + 2, none⟩ = some (.int .i64 e.level) ∧ w.cell? ⟨g, k * 4 + 3, none⟩ = some (.int .i64 e.base)) ∧ e.name.size ≤ maxLen ∧
      (w.frozen? ⟨g, k * 4, none⟩ = false ∧ w.frozen? ⟨g, k * 4 + 1, none⟩ = false ∧ w.frozen? ⟨g, k * 4 + 2, none⟩ = false ∧ w.frozen? ⟨g, k * 4 + 3, none⟩ = false) := by
  obtain ⟨b, o, e, e1, _, h2, q0, q1, q2, q3⟩ := elems_at h.elems.1.addr hk
  cases e1
  rw [Nat.zero_add] at q0 q1 q2 q3
  obtain ⟨cur, hB, _⟩ := own_box h.1
  exact ⟨e, h2, ⟨q0, q1, q2, q3⟩, h.2 e (List.mem_of_getElem? h2), hB.free _, hB.free _, hB.free _, hB.free _⟩
theorem ownI_at {w : World} {base g cap : Nat} {zs : List Int} (h : OwnI w base (.slice (some ⟨g, 0, none⟩) zs.length cap) zs) {k : Nat} (hk : k < zs.length) :
    ∃ z, w.cell? ⟨g, k, none⟩ = some (.int .i64 z) ∧ w.frozen? ⟨g, k, none⟩ = false := by
  obtain ⟨b, o, z, e1, _, _, q⟩ := ints_at h.ints.addr hk
  cases e1
  rw [Nat.zero_add] at q
  obtain ⟨cur, hB, _⟩ := own_box h
  exact ⟨z, q, hB.free _⟩
/-- blocks far from the code have turned -/
theorem DrSt.far_ {p bb B m N : Nat} {w1 wr w' : World} {c : CodeD} {ev lv : Value} {S : List Nat} (H : DrSt p bb B m w1 wr c ev lv) (on : Only S wr w') (hS : ∀ b ∈ S, N ≤ b) (hbb : bb < N) (hr : ∀ b ∈ fp ev ++ fp lv, b < N) (hN : w1.heap.size ≤ N) : DrSt p bb B m w1 w' c ev lv := by
  have h1 := H.hp
  refine ⟨H.box.only on (fun h => by have := hS _ h; omega), H.elems.only on (fun b hb h => by have := hS _ h; have := hr b (List.mem_append_left _ hb); omega), H.lims.only on (fun b hb h => by have := hS _ h; have := hr b (List.mem_append_right _ hb); omega), H.apart, H.cur.far on (fun x hx => by have := hS x hx; omega), H.only.overD on (fun x hx => by have := hS x hx; omega), h1, H.hbb, H.hB, H.ne⟩
/-- a cursor's draw left a code: it goes into a box -/
theorem OwnK.boxed {p B m : Nat} {w0 w1 : World} {c : CodeD} {ev lv : Value} (h1 : OwnE w1 B ev c.elems) (h2 : OwnI w1 B lv c.limits) (hn : (fpA (.agg #[ev, lv, .int .i64 c.repeats, .int .i64 c.bonus, .int .i64 c.keeps, .int .i64 c.fall])).Nodup) (hc : Cur w1 p m) (on : Only [p] w0 w1) (hp : p < w0.heap.size) (hB : w0.heap.size ≤ B) :
    DrSt p w1.heap.size B m w0 (w1.alloc (.cells #[ev, lv, .int .i64 c.repeats, .int .i64 c.bonus, .int .i64 c.keeps, .int .i64 c.fall] 26)) c ev lv := by
  have k : Kept w1 (w1.alloc (.cells #[ev, lv, .int .i64 c.repeats, .int .i64 c.bonus, .int .i64 c.keeps, .int .i64 c.fall] 26)) := (Kept.refl w1).alloc _
  rw [fpA_code, List.nodup_append] at hn
  refine ⟨Box.new w1 _ _ _ rfl, h1.kept k, h2.kept k, fun b hb hb' => hn.2.2 b hb b hb' rfl, hc.kept k, on.trans (k.only _), hp, on.size, hB, fun b hb => ?_⟩
  rcases List.mem_append.1 hb with hb | hb
  · have := own_fp h1.1 b hb; omega
  · have := own_fp h2 b hb; omega
end Go.Proofs.YtkekpolfdmmgeaaGreat
