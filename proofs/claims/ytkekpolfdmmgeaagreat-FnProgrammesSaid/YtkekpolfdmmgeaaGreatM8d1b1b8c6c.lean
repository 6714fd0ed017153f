/- Contracts of functions that the proof leans on. No condition. -/
import Derived.Test.YtkekpolfdmmgeaaGreatM685d499be0
/- Items under construction by a draw: a box with a row of names and a row of marks, beside a cursor. -/
namespace Go.Proofs.YtkekpolfdmmgeaaGreat
set_option linter.unusedVariables false
set_option linter.unusedSimpArgs false
set_option linter.unnecessarySimpa false
open Go.RowKit

/-- append(out, xs...), strings: only the row's own block turns; where the new row lies -/
theorem wp_append_SX (w : World) {o : Oper} {a : Act} {K : Act → World → Prop} {Q : Exit → Act → World → Prop} (s x : Operand)
    (ho : o.op = .call { callee := .builtin .append, args := #[s, x], argTypes := #[28, 28] })
    (base : Nat) (v : Value) (zs : List ByteArray) (hs : a.eval s = v) (hown : OwnS w base v zs) (u : Value) (ys : List ByteArray) (hx : a.eval x = u) (hr : Strs w u ys)
    (hl : zs.length + ys.length ≤ 16777216) (hbase : base ≤ w.heap.size)
    (h : ∀ v' w', OwnS w' base v' (zs ++ ys) → Only (fp v) w w' → (∀ b ∈ fp v', b ∈ fp v ∨ b = w.heap.size) → K (a.put o.dst v') w') : o.wp Tryz.prog a w K Q := by
  obtain ⟨i0, hi, hz0, hz1, hz2⟩ := info_parts info_str
  obtain ⟨v', w', hrun, h2, h3, h4⟩ := run_append_locG (P := Tryz.prog) w base 28 o.type 9 i0 _ 1 16 Tryz.underlying28 hi hz0 hz1 hz2 rfl (by omega) v zs.length _ hown.1 u ys.length (ys.map Value.string) hr.1 (by simp) (fun y hy => by obtain ⟨_, _, rfl⟩ := List.mem_map.1 hy; rfl) (by unfold maxLen; omega) (by omega) hbase
  unfold Oper.wp execOp
  simp only [ho, resolve, invoke, builtin, Sem.run_bind, Sem.run_pure, Result.andThen_ok, List.map_toArray, List.map_cons, List.map_nil, hs, hx, hrun]
  refine h v' w' ⟨by rw [List.length_append, List.map_append]; exact h2, fun e he => ?_⟩ (only_of_grown h3) (fun b hb => ?_)
  · rcases List.mem_append.1 he with he | he
    · exact hown.2 e he
    · exact hr.2 e he
  · have hb' : v'.ownBlock = some b := by simpa [fp] using hb
    rcases h4 with h4 | h4
    · left; rw [h4] at hb'; simpa [fp] using hb'
    · right; rw [h4] at hb'; exact (Option.some.inj hb').symm
theorem wpList_append_SX (w : World) {ops : Array Oper} {rest : List Oper} {o : Oper} {a : Act} {Q : Exit → Act → World → Prop} (hgd : o.guard = none) (s x : Operand)
    (ho : o.op = .call { callee := .builtin .append, args := #[s, x], argTypes := #[28, 28] })
    (base : Nat) (v : Value) (zs : List ByteArray) (hs : a.eval s = v) (hown : OwnS w base v zs) (u : Value) (ys : List ByteArray) (hx : a.eval x = u) (hr : Strs w u ys)
    (hl : zs.length + ys.length ≤ 16777216) (hbase : base ≤ w.heap.size)
    (h : ∀ v' w', OwnS w' base v' (zs ++ ys) → Only (fp v) w w' → (∀ b ∈ fp v', b ∈ fp v ∨ b = w.heap.size) → wpList Tryz.prog ops Q rest (a.put o.dst v') w') : wpList Tryz.prog ops Q (o :: rest) a w :=
  wpList_plain hgd fun _ hK => wp_append_SX w s x ho base v zs hs hown u ys hx hr hl hbase fun v' w' h2 h3 h4 => hK _ _ (h v' w' h2 h3 h4)
/-- an item lies in a box (bb); the cursor at p; w1: the world in which the draw began -/
structure ItSt (p bb B m : Nat) (w1 wr : World) (c : ItemD) (ev lv : Value) : Prop where
  box : Box wr bb 30 #[ev, lv, .bool c.late]
  names : OwnS wr B ev c.names
  marks : OwnI wr B lv c.marks
  apart : ∀ b ∈ fp ev, b ∉ fp lv
  cur : Cur wr p m
  only : Only [p] w1 wr
  hp : p < w1.heap.size
  hbb : w1.heap.size ≤ bb
  hB : w1.heap.size ≤ B
  ne : ∀ b ∈ fp ev ++ fp lv, b ≠ bb
section
variable {p bb B m m' : Nat} {w1 wr w' : World} {c : ItemD} {ev lv : Value}
theorem ItSt.drawn (H : ItSt p bb B m w1 wr c ev lv) (cu : Cur w' p m') (on : Only [p] wr w') : ItSt p bb B m' w1 w' c ev lv := by
  have h1 := H.hp
  have h2 := H.hbb
  have h3 := H.hB
  refine ⟨H.box.only on (not_one (by omega)), H.names.only on (fun b hb => not_one ?_), H.marks.only on (fun b hb => not_one ?_), H.apart, cu, H.only.trans on, h1, h2, h3, H.ne⟩
  · have := own_fp H.names.1 b hb; omega
  · have := own_fp H.marks b hb; omega
theorem ItSt.kept (H : ItSt p bb B m w1 wr c ev lv) (k : Kept wr w') : ItSt p bb B m w1 w' c ev lv := H.drawn (H.cur.kept k) (k.only _)
theorem ItSt.le (H : ItSt p bb B m w1 wr c ev lv) (hm : m ≤ m') : ItSt p bb B m' w1 wr c ev lv := { H with cur := H.cur.le hm }
/-- a field of the item's box is written -/
theorem ItSt.poke (H : ItSt p bb B m w1 wr c ev lv) {c' : ItemD} (on : Only [bb] wr w') (hb : Box w' bb 30 #[ev, lv, .bool c'.late]) (he : c'.names = c.names) (hl : c'.marks = c.marks) : ItSt p bb B m w1 w' c' ev lv := by
  have h1 := H.hp
  have h2 := H.hbb
  refine ⟨hb, ?_, ?_, H.apart, H.cur.far on (fun x hx => ?_), H.only.overD on (fun x hx => ?_), h1, h2, H.hB, H.ne⟩
  · rw [he]; exact H.names.only on (fun b hb => not_one (H.ne b (List.mem_append_left _ hb)))
  · rw [hl]; exact H.marks.only on (fun b hb => not_one (H.ne b (List.mem_append_right _ hb)))
  · rw [List.mem_singleton] at hx; omega
  · rw [List.mem_singleton] at hx; omega
theorem ItSt.late (H : ItSt p bb B m w1 wr c ev lv) (x : Bool) : ItSt p bb B m w1 (wr.setCell ⟨bb, 2, none⟩ (.bool x)) { c with late := x } ev lv := H.poke (only_set _ _ _ _) (H.box.set 2 _) rfl rfl
/-- the row of names has turned in its own block, or lies in a new one; the box not yet written -/
theorem ItSt.midN (H : ItSt p bb B m w1 wr c ev lv) (on : Only (fp ev) wr w') :
    Box w' bb 30 #[ev, lv, .bool c.late] ∧ Cur w' p m ∧ OwnI w' B lv c.marks ∧ Only [p] w1 w' := by
  have h1 := H.hp
  have h3 := H.hB
  have hf := own_fp H.names.1
  exact ⟨H.box.only on (fun hb => H.ne bb (List.mem_append_left _ hb) rfl), H.cur.far on (fun x hx => by have := hf x hx; omega), H.marks.only on (fun b hb hb' => H.apart b hb' hb), H.only.overD on (fun x hx => by have := hf x hx; omega)⟩
theorem ItSt.setN (H : ItSt p bb B m w1 wr c ev lv) {es : List ByteArray} {v' : Value} (on : Only (fp ev) wr w') (o : OwnS w' B v' es) (f : ∀ b ∈ fp v', b ∈ fp ev ∨ b = wr.heap.size) :
    ItSt p bb B m w1 (w'.setCell ⟨bb, 0, none⟩ v') { c with names := es } v' lv := by
  have h1 := H.hp
  have h2 := H.hbb
  have h3 := H.hB
  have hl := H.box.lt
  obtain ⟨b1, c1, l1, n1⟩ := H.midN on
  have on5 := only_set w' bb 0 v'
  have w4 : ∀ b ∈ fp v', b ≠ bb ∧ b ∉ fp lv := fun b hb => by
    rcases f b hb with q | q
    · exact ⟨H.ne b (List.mem_append_left _ q), H.apart b q⟩
    · refine ⟨by omega, fun hx => ?_⟩
      have := own_fp H.marks b hx
      omega
  refine ⟨b1.set 0 v', o.only on5 (fun b hb => not_one (w4 b hb).1), l1.only on5 (fun b hb => not_one (H.ne b (List.mem_append_right _ hb))), fun b hb => (w4 b hb).2, c1.far on5 (fun x hx => ?_), n1.overD on5 (fun x hx => ?_), h1, h2, h3, fun b hb => ?_⟩
  · rw [List.mem_singleton] at hx; omega
  · rw [List.mem_singleton] at hx; omega
  · rcases List.mem_append.1 hb with hb | hb
    · exact (w4 b hb).1
    · exact H.ne b (List.mem_append_right _ hb)
theorem ItSt.midM (H : ItSt p bb B m w1 wr c ev lv) (on : Only (fp lv) wr w') :
    Box w' bb 30 #[ev, lv, .bool c.late] ∧ Cur w' p m ∧ OwnS w' B ev c.names ∧ Only [p] w1 w' := by
  have h1 := H.hp
  have h3 := H.hB
  have hf := own_fp H.marks
  exact ⟨H.box.only on (fun hb => H.ne bb (List.mem_append_right _ hb) rfl), H.cur.far on (fun x hx => by have := hf x hx; omega), H.names.only on (fun b hb hb' => H.apart b hb hb'), H.only.overD on (fun x hx => by have := hf x hx; omega)⟩
theorem ItSt.setM (H : ItSt p bb B m w1 wr c ev lv) {zs : List Int} {v' : Value} (on : Only (fp lv) wr w') (o : OwnI w' B v' zs) (f : ∀ b ∈ fp v', b ∈ fp lv ∨ b = wr.heap.size) :
    ItSt p bb B m w1 (w'.setCell ⟨bb, 1, none⟩ v') { c with marks := zs } ev v' := by
  have h1 := H.hp
  have h2 := H.hbb
  have h3 := H.hB
  have hl := H.box.lt
  obtain ⟨b1, c1, l1, n1⟩ := H.midM on
  have on5 := only_set w' bb 1 v'
  have w4 : ∀ b ∈ fp v', b ≠ bb ∧ b ∉ fp ev := fun b hb => by
    rcases f b hb with q | q
    · exact ⟨H.ne b (List.mem_append_right _ q), fun hx => H.apart b hx q⟩
    · refine ⟨by omega, fun hx => ?_⟩
      have := own_fp H.names.1 b hx
      omega
  refine ⟨b1.set 1 v', l1.only on5 (fun b hb => not_one (H.ne b (List.mem_append_left _ hb))), o.only on5 (fun b hb => not_one (w4 b hb).1), fun b hb hb' => (w4 b hb').2 hb, c1.far on5 (fun x hx => ?_), n1.overD on5 (fun x hx => ?_), h1, h2, h3, fun b hb => ?_⟩
  · rw [List.mem_singleton] at hx; omega
  · rw [List.mem_singleton] at hx; omega
  · rcases List.mem_append.1 hb with hb | hb
    · exact H.ne b (List.mem_append_left _ hb)
    · exact (w4 b hb).1
theorem ItSt.own (H : ItSt p bb B m w1 wr c ev lv) : OwnT wr B (.agg #[ev, lv, .bool c.late]) c := by
  refine ⟨ev, lv, rfl, H.names, H.marks, ?_⟩
  rw [fpA_item, List.nodup_append]
  exact ⟨nodup_one _, nodup_one _, fun x hx y hy e => H.apart x hx (e ▸ hy)⟩
theorem ItSt.cellN (H : ItSt p bb B m w1 wr c ev lv) {g n cap k : Nat} {u : ByteArray} (hv : ev = .slice (some ⟨g, 0, none⟩) n cap) (hs : u.size ≤ maxLen) :
    ItSt p bb B m w1 (wr.setCell ⟨g, k, none⟩ (.string u)) { c with names := c.names.set k u } ev lv := by
  subst hv
  have h1 := H.hp
  have h3 := H.hB
  have on : Only (fp (.slice (some ⟨g, 0, none⟩) n cap)) wr (wr.setCell ⟨g, k, none⟩ (.string u)) := only_set wr g _ _
  obtain ⟨b1, c1, l1, n1⟩ := H.midN on
  refine ⟨b1, ⟨?_, fun x hx => ?_⟩, l1, H.apart, c1, n1, h1, H.hbb, h3, H.ne⟩
  · obtain ⟨A, cc, e1, _⟩ := own_form H.names.1
    have hn : n = c.names.length := by injection e1
    subst hn
    have := own_set (j := k) H.names.1 (.string u)
    show World.ownsRow _ B _ 1 _ (c.names.set k u).length ((c.names.set k u).map Value.string)
    rw [List.length_set, List.map_set]
    exact this
  · rcases List.mem_or_eq_of_mem_set hx with hx | hx
    · exact H.names.2 x hx
    · rw [hx]; exact hs
theorem ItSt.cellM (H : ItSt p bb B m w1 wr c ev lv) {g n cap k : Nat} {x : Int} (hv : lv = .slice (some ⟨g, 0, none⟩) n cap) :
    ItSt p bb B m w1 (wr.setCell ⟨g, k, none⟩ (.int .i64 x)) { c with marks := c.marks.set k x } ev lv := by
  subst hv
  have h1 := H.hp
  have h3 := H.hB
  have on : Only (fp (.slice (some ⟨g, 0, none⟩) n cap)) wr (wr.setCell ⟨g, k, none⟩ (.int .i64 x)) := only_set wr g _ _
  obtain ⟨b1, c1, l1, n1⟩ := H.midM on
  refine ⟨b1, l1, ?_, H.apart, c1, n1, h1, H.hbb, h3, H.ne⟩
  obtain ⟨A, cc, e1, _⟩ := own_form H.marks
  have hn : n = c.marks.length := by injection e1
  subst hn
  have := own_set (j := k) H.marks (.int .i64 x)
  show World.ownsRow _ B _ 1 _ (c.marks.set k x).length ((c.marks.set k x).map (Value.int .i64))
  rw [List.length_set, List.map_set]
  exact this
theorem ItSt.zero (H : ItSt p bb B m w1 wr c ev lv) (hb : Box w' bb 30 #[.slice none 0 0, .slice none 0 0, .bool false]) (on : Only [bb] wr w') : ItSt p bb B m w1 w' ⟨[], [], false⟩ (.slice none 0 0) (.slice none 0 0) := by
  have h1 := H.hp
  have h2 := H.hbb
  exact ⟨hb, ⟨⟨rfl, .inl ⟨rfl, rfl⟩⟩, fun _ h => by cases h⟩, own_nil _ _, (fun b hb => by cases hb), H.cur.far on (fun x hx => by rw [List.mem_singleton] at hx; omega), H.only.overD on (fun x hx => by rw [List.mem_singleton] at hx; omega), h1, h2, H.hB, (fun b hb => by cases hb)⟩
/-- blocks far from the item have turned -/
theorem ItSt.far_ {N : Nat} {S : List Nat} (H : ItSt p bb B m w1 wr c ev lv) (on : Only S wr w') (hS : ∀ b ∈ S, N ≤ b) (hbb : bb < N) (hr : ∀ b ∈ fp ev ++ fp lv, b < N) (hN : w1.heap.size ≤ N) : ItSt p bb B m w1 w' c ev lv := by
  have h1 := H.hp
  refine ⟨H.box.only on (fun h => by have := hS _ h; omega), H.names.only on (fun b hb h => by have := hS _ h; have := hr b (List.mem_append_left _ hb); omega), H.marks.only on (fun b hb h => by have := hS _ h; have := hr b (List.mem_append_right _ hb); omega), H.apart, H.cur.far on (fun x hx => by have := hS x hx; omega), H.only.overD on (fun x hx => by have := hS x hx; omega), h1, H.hbb, H.hB, H.ne⟩
/-- a draw left an item: it goes into a box -/
theorem OwnT.boxed {p B m : Nat} {w0 w1 : World} {c : ItemD} {ev lv : Value} (h1 : OwnS w1 B ev c.names) (h2 : OwnI w1 B lv c.marks) (hn : (fpA (.agg #[ev, lv, .bool c.late])).Nodup) (hc : Cur w1 p m) (on : Only [p] w0 w1) (hp : p < w0.heap.size) (hB : w0.heap.size ≤ B) :
    ItSt p w1.heap.size B m w0 (w1.alloc (.cells #[ev, lv, .bool c.late] 30)) c ev lv := by
  have k : Kept w1 (w1.alloc (.cells #[ev, lv, .bool c.late] 30)) := (Kept.refl w1).alloc _
  rw [fpA_item, List.nodup_append] at hn
  refine ⟨Box.new w1 _ _ _ rfl, h1.kept k, h2.kept k, fun b hb hb' => hn.2.2 b hb b hb' rfl, hc.kept k, on.trans (k.only _), hp, on.size, hB, fun b hb => ?_⟩
  rcases List.mem_append.1 hb with hb | hb
  · have := own_fp h1.1 b hb; omega
  · have := own_fp h2 b hb; omega
end
end Go.Proofs.YtkekpolfdmmgeaaGreat

/- Draws of items: called, any item. -/
namespace Go.Proofs.YtkekpolfdmmgeaaGreat
set_option linter.unusedVariables false
set_option linter.unusedSimpArgs false
set_option linter.unnecessarySimpa false
open Go.RowKit Go.Lib

theorem Strs.off {w w' : World} {A : Option Addr} {n c : Nat} {zs : List ByteArray} {S : List Nat} (h : Strs w (.slice A n c) zs) (on : Only S w w') (hd : ∀ a, A = some a → a.block ∉ S) : Strs w' (.slice A n c) zs := by
  obtain ⟨⟨A', c', e, h1, h2, h3, h4⟩, h5⟩ := h
  have e1 : A = A' := by injection e
  subst e1
  exact ⟨⟨A, c', e, h1, h2, h3, SeqA.only h4 on hd⟩, h5⟩
theorem own_nilS (w : World) (B : Nat) : OwnS w B (.slice none 0 0) [] := ⟨⟨rfl, .inl ⟨rfl, rfl⟩⟩, fun _ h => by cases h⟩
theorem ownS_at {w : World} {base g cap : Nat} {zs : List ByteArray} (h : OwnS w base (.slice (some ⟨g, 0, none⟩) zs.length cap) zs) {k : Nat} (hk : k < zs.length) :
    ∃ z, zs[k]? = some z ∧ w.cell? ⟨g, k, none⟩ = some (.string z) ∧ w.frozen? ⟨g, k, none⟩ = false := by
  obtain ⟨b, o, z, e1, _, hz, q⟩ := strs_at h.strs.1.addr hk
  cases e1
  rw [Nat.zero_add] at q
  obtain ⟨cur, hB, _⟩ := own_box h.1
  exact ⟨z, hz, q, hB.free _⟩
/-- what a draw of an item leaves -/
def ItPost (w : World) (e : Ending) (w' : World) (lo hi : Nat) (same : Prop) : Prop := ∃ v it, e = .returned v ∧ OwnT w' w.heap.size v it ∧ (lo ≤ it.names.length ∧ it.names.length ≤ hi ∧ it.marks.length ≤ hi) ∧ (same → it.marks.length = it.names.length)
set_option maxRecDepth 100000 in
set_option maxHeartbeats 16000000 in
theorem called_any (p m : Nat) (A : Option Addr) (k c : Nat) (zs : List ByteArray) (w : World) (h : Cur w p m) (hm : m ≤ 10000000000) (hz : Strs w (.slice A k c) zs) (hkz : k = zs.length) (hz0 : 0 < zs.length) (hz1 : zs.length ≤ 1000000) (hAp : ∀ a, A = some a → a.block ≠ p) :
    Calls Tryz.prog 56 #[.pointer (some ⟨p, 0, none⟩), .slice A k c] w fun e w' => ItPost w e w' 1 3 True ∧ Cur w' p (m + 40) ∧ Only [p] w w' := by
  subst hkz
  have hpl := h.lt
  have CW := Lib.hid h
  have HZW := Lib.hid hz
  clear h hz
  go_enter Tryz.func56, Tryz.ntmps56
  go_wp2_with fail
  obtain ⟨w0, hw0⟩ : ∃ x : World, x = w.alloc (.cells #[.slice none 0 0, .slice none 0 0, .bool false] 30) := ⟨_, rfl⟩
  rw [← hw0]
  have BR := Lib.hid (show Box w0 w.heap.size 30 #[.slice none 0 0, .slice none 0 0, .bool false] from hw0 ▸ Box.new w _ _ _ rfl)
  have K0 : Hid (Kept w w0) := Lib.hid (hw0 ▸ (Kept.refl w).alloc _)
  have C0 := Lib.hid (CW.out.kept K0.out)
  have sz0 : w.heap.size < w0.heap.size := by rw [hw0]; simp
  have hpl0 : p < w0.heap.size := by omega
  have FIN : Hid (∀ (bb M : Nat) (wr w9 : World) (it : ItemD) (nv mv : Value), ItSt p bb w0.heap.size M w0 wr it nv mv → Only [w.heap.size] wr w9 → M ≤ m + 40 → (1 ≤ it.names.length ∧ it.names.length ≤ 3 ∧ it.marks.length ≤ 3) → (True → it.marks.length = it.names.length) →
      ItPost w (.returned (.agg #[nv, mv, .bool it.late])) w9 1 3 True ∧ Cur w9 p (m + 40) ∧ Only [p] w w9) := Lib.hid (fun bb M wr w9 it nv mv H q h1 h2 h3 => by
    have a1 := H.names.only q (fun b hb => not_one (by have := (own_fp H.names.1 b hb).1; omega))
    have a2 := own_only H.marks q (fun b hb => not_one (by have := (own_fp H.marks b hb).1; omega))
    obtain ⟨_, _, e, _, _, a3⟩ := H.own
    refine ⟨⟨_, it, rfl, ⟨nv, mv, rfl, ⟨own_base a1.1 (by omega), a1.2⟩, own_base a2 (by omega), a3⟩, h2, h3⟩, (H.cur.far q (fun x hx => by rw [List.mem_singleton] at hx; omega)).le h1, ?_⟩
    exact ((K0.out.only _).trans H.only).overD q (fun x hx => by rw [List.mem_singleton] at hx; omega))
  clear hw0 CW
  have HZ := Lib.hid (HZW.out.kept K0.out)
  clear HZW
  with_reducible refine (one_any p _ 3 w0 C0.out (by omega) (by omega)).mono ?_
  rintro e w1 ⟨b1, rfl, c1, on1⟩
  have HD := Lib.hid (OwnT.boxed (c := ⟨[], [], b1⟩) (own_nilS w1 w0.heap.size) (own_nil w1 w0.heap.size) (by simp [fpA, fp, Value.ownBlock]) c1 on1 hpl0 (Nat.le_refl _))
  clear c1 on1 C0
  go_wp2_with fail
  obtain ⟨wb, hwb⟩ : ∃ x : World, x = w1.alloc (.cells #[.slice none 0 0, .slice none 0 0, .bool b1] 30) := ⟨_, rfl⟩
  obtain ⟨bb, hbb⟩ : ∃ b : Nat, b = w1.heap.size := ⟨_, rfl⟩
  rw [← hwb, ← hbb] at HD ⊢
  clear hwb hbb
  with_reducible refine (pick_any p _ 6 wb HD.out.cur (by omega) (by omega)).mono ?_
  rintro e w2 ⟨x2, rfl, ⟨lo2, hi2⟩, c2, on2⟩
  have hx2 : x2 < 6 := hi2 (by omega)
  have HE := Lib.hid (HD.out.drawn c2 on2)
  clear c2 on2 hi2 HD
  obtain ⟨q, hq, hq1⟩ : ∃ q : Nat, x2.tdiv 3 = (q : Int) ∧ q ≤ 1 := ⟨(x2 / 3).toNat, by rw [Int.tdiv_eq_ediv_of_nonneg lo2]; omega, by omega⟩
  have hqe : x2 / 3 = (q : Int) := by rw [← hq, Int.tdiv_eq_ediv_of_nonneg lo2]
  go_wp2_with fail
  clear hq hqe
  go_loopw [6] (fun s6 wr => ∃ (n : Nat) (it : ItemD) (nv mv : Value), s6 = .int .i64 n ∧ it.names.length + n ≤ 2 ∧ 1 ≤ it.names.length + n ∧ it.marks.length ≤ it.names.length ∧ it.names.length ≤ it.marks.length ∧ ItSt p bb w0.heap.size (m + 4 + 4 * it.names.length) w0 wr it nv mv) (fun s6 _ => (RowKit.intOf s6).toNat)
  case atStart => exact ⟨1 + q, ⟨[], [], b1⟩, _, _, by (first | go_num | (congr 1; omega)), by show 0 + _ ≤ 2; omega, by show 1 ≤ 0 + _; omega, Nat.le_refl _, Nat.le_refl _, HE.out.le (by show _ ≤ m + 4 + 4 * 0; omega)⟩
  case round =>
    clear HE
    obtain ⟨n, it, nv, mv, rfl, hn2, hn1, hnm, hmn, hst⟩ := hrel
    obtain ⟨An, cn, rfl, _⟩ := own_form hst.names.1
    obtain ⟨Am, cm, rfl, _⟩ := own_form hst.marks
    have HST := Lib.hid hst
    clear hst
    have HSB : Hid (∀ (w' : World) (v : Value), Box w' bb 30 #[Value.slice An it.names.length cn, v, .bool it.late] → w'.cell? ⟨bb, 0, none⟩ = some (Value.slice An it.names.length cn)) := Lib.hid (fun w' v b => b.cell 0)
    have HSM : Hid (∀ (w' : World) (v : Value), Box w' bb 30 #[v, Value.slice Am it.marks.length cm, .bool it.late] → w'.cell? ⟨bb, 1, none⟩ = some (Value.slice Am it.marks.length cm)) := Lib.hid (fun w' v b => b.cell 1)
    by_cases hn : 0 < n
    · have hn' : (0 : Int) < (n : Int) := by omega
      go_upto_region 5 with (fail)
      refine region_pop (S := fun w' => w'.cell? ⟨bb, 0, none⟩ = some (Value.slice An it.names.length cn)) 8 (by kernel_rfl) (by kernel_rfl) ?_
      simp only [List.take_succ_cons, List.take_zero, List.drop_succ_cons, List.drop_zero]
      refine startL (HSB.out _ _ (HST.out.kept (Kept.refl wr).drew).box) (fun hS0 => ?_)
      obtain ⟨wd, hwd⟩ : ∃ x : World, x = wr.drew := ⟨_, rfl⟩
      rw [← hwd] at hS0 ⊢
      have D0 := Lib.hid (HST.out.kept (hwd ▸ (Kept.refl wr).drew))
      have hpd : wd.heap.size ≠ p := Nat.ne_of_gt D0.out.cur.lt
      clear hwd
      refine takeL (i := 0) (v := ?_) rfl (by kernel_rfl) (by kernel_rfl) (by kernel_rfl) (fun _ _ _ h => h) (Or.inl ⟨by rfl, ?_⟩) hS0 ?_
      rotate_left 1
      · (intro w hSw; (try dsimp only at hSw); go_simp; try with_reducible rfl)
      try simp only [Act.put, List.setIfInBounds_toArray, List.set_cons_zero, List.set_cons_succ]
      refine takeL (i := 1) (v := ?_) rfl (by kernel_rfl) (by kernel_rfl) (by kernel_rfl) (fun _ _ _ h => h) (Or.inl ⟨by rfl, ?_⟩) hS0 ?_
      rotate_left 1
      · (intro w hSw; (try dsimp only at hSw); go_simp; try with_reducible rfl)
      try simp only [Act.put, List.setIfInBounds_toArray, List.set_cons_zero, List.set_cons_succ]
      refine takeL (i := 2) (v := ?_) rfl (by kernel_rfl) (by kernel_rfl) (by kernel_rfl) (fun _ _ _ h => h) (Or.inl ⟨by rfl, ?_⟩) hS0 ?_
      rotate_left 1
      · (intro w hSw; (try dsimp only at hSw); go_simp; try with_reducible rfl)
      try simp only [Act.put, List.setIfInBounds_toArray, List.set_cons_zero, List.set_cons_succ]
      refine takeL (i := 3) (v := ?_) rfl (by kernel_rfl) (by kernel_rfl) (by kernel_rfl) (fun _ _ _ h => h) (Or.inl ⟨by rfl, ?_⟩) hS0 ?_
      rotate_left 1
      · (intro w hSw; (try dsimp only at hSw); go_simp; try with_reducible rfl)
      try simp only [Act.put, List.setIfInBounds_toArray, List.set_cons_zero, List.set_cons_succ]
      refine onlyL (i := 4) rfl (by kernel_rfl) (fun K hK => ?_)
      go_simp
      with_reducible refine (of_any p _ A zs.length c zs wd D0.out.cur (by omega) (HZ.out.off D0.out.only (fun a e => not_one (hAp a e))) rfl hz0 hz1 hAp).mono ?_
      rintro e w2 ⟨x2, rfl, hx2, c2, on2⟩
      have D2 := Lib.hid (D0.out.drawn c2 on2)
      have hxs : x2.size ≤ maxLen := HZ.out.2 x2 hx2
      clear c2 on2 hx2
      go_wp2_with fail
      refine hK.out _ _ (HSB.out _ _ D2.out.box) (fun hS1 => ?_)
      clear hK K hS0
      try simp only [Act.put, List.setIfInBounds_toArray, List.set_cons_zero, List.set_cons_succ]
      refine onlyL (i := 5) rfl (by kernel_rfl) (fun K hK => ?_)
      go_simp
      obtain ⟨w3, hw3⟩ : ∃ x : World, x = w2.alloc (.cells #[.string x2] 9) := ⟨_, rfl⟩
      rw [← hw3]
      have B3 : Box w3 w2.heap.size 9 #[.string x2] := hw3 ▸ Box.new w2 _ _ _ rfl
      have kw3 : Kept w2 w3 := hw3 ▸ (Kept.refl w2).alloc _
      clear hw3
      have D3 := Lib.hid (D2.out.kept kw3)
      have sz3 : w0.heap.size ≤ w3.heap.size := D3.out.only.size
      refine hK.out _ _ (HSB.out _ _ D3.out.box) (fun hS2 => ?_)
      clear hK K hS1
      try simp only [Act.put, List.setIfInBounds_toArray, List.set_cons_zero, List.set_cons_succ]
      refine onlyL (i := 6) rfl (by kernel_rfl) (fun K hK => ?_)
      rw [if_pos (wanted_none rfl _)]
      refine wp_append_SX w3 _ _ rfl w0.heap.size (Value.slice An it.names.length cn) it.names rfl D3.out.names _ [x2] rfl (strs_box1 B3 hxs) (by simp only [List.length_cons, List.length_nil]; omega) sz3 ?_
      intro v4 w4 o4 on4 f4
      have hl4 : (it.names ++ [x2]).length = it.names.length + 1 := by simp
      obtain ⟨A4, c4, rfl, _⟩ := own_form o4.1
      have ST := Lib.hid (D3.out.setN on4 o4 f4)
      have B4 := (D3.out.midN on4).1
      rw [hl4] at ST
      clear hl4 o4 on4 f4
      refine hK.out _ _ (HSB.out _ _ B4) (fun hS3 => ?_)
      clear hK K hS2
      try simp only [Act.put, List.setIfInBounds_toArray, List.set_cons_zero, List.set_cons_succ]
      refine takeL (i := 7) (v := ?_) rfl (by kernel_rfl) (by kernel_rfl) (by kernel_rfl) (fun _ _ _ h => h) (Or.inl ⟨by rfl, ?_⟩) hS3 ?_
      rotate_left 1
      · (intro w hSw; (try dsimp only at hSw); go_simp; try with_reducible rfl)
      try simp only [Act.put, List.setIfInBounds_toArray, List.set_cons_zero, List.set_cons_succ]
      refine doneL (by kernel_rfl) ?_
      clear hS3
      obtain ⟨x4, y4⟩ := B4.three
      go_upto_region 6 with (fail)
      clear x4 y4
      obtain ⟨w9, hw9⟩ : ∃ x : World, x = w4.setCell ⟨bb, 0, none⟩ (.slice A4 (it.names.length + 1) c4) := ⟨_, rfl⟩
      rw [← hw9] at ST ⊢
      clear hw9 B4
      have HST9 : Hid (ItSt p bb w0.heap.size (m + 4 + 4 * it.names.length + 2) w0 w9 { it with names := it.names ++ [x2] } (.slice A4 (it.names.length + 1) c4) (Value.slice Am it.marks.length cm)) := ST
      clear ST HSB HST hxs
      refine region_pop (S := fun w' => w'.cell? ⟨bb, 1, none⟩ = some (Value.slice Am it.marks.length cm)) 8 (by kernel_rfl) (by kernel_rfl) ?_
      simp only [List.take_succ_cons, List.take_zero, List.drop_succ_cons, List.drop_zero]
      refine startL (HSM.out _ _ (HST9.out.kept (Kept.refl w9).drew).box) (fun hS0 => ?_)
      obtain ⟨wd, hwd⟩ : ∃ x : World, x = w9.drew := ⟨_, rfl⟩
      rw [← hwd] at hS0 ⊢
      have E0 := Lib.hid (HST9.out.kept (hwd ▸ (Kept.refl w9).drew))
      have hpd : wd.heap.size ≠ p := Nat.ne_of_gt E0.out.cur.lt
      clear hwd
      refine takeL (i := 0) (v := ?_) rfl (by kernel_rfl) (by kernel_rfl) (by kernel_rfl) (fun _ _ _ h => h) (Or.inl ⟨by rfl, ?_⟩) hS0 ?_
      rotate_left 1
      · (intro w hSw; (try dsimp only at hSw); go_simp; try with_reducible rfl)
      try simp only [Act.put, List.setIfInBounds_toArray, List.set_cons_zero, List.set_cons_succ]
      refine takeL (i := 1) (v := ?_) rfl (by kernel_rfl) (by kernel_rfl) (by kernel_rfl) (fun _ _ _ h => h) (Or.inl ⟨by rfl, ?_⟩) hS0 ?_
      rotate_left 1
      · (intro w hSw; (try dsimp only at hSw); go_simp; try with_reducible rfl)
      try simp only [Act.put, List.setIfInBounds_toArray, List.set_cons_zero, List.set_cons_succ]
      refine takeL (i := 2) (v := ?_) rfl (by kernel_rfl) (by kernel_rfl) (by kernel_rfl) (fun _ _ _ h => h) (Or.inl ⟨by rfl, ?_⟩) hS0 ?_
      rotate_left 1
      · (intro w hSw; (try dsimp only at hSw); go_simp; try with_reducible rfl)
      try simp only [Act.put, List.setIfInBounds_toArray, List.set_cons_zero, List.set_cons_succ]
      refine onlyL (i := 3) rfl (by kernel_rfl) (fun K hK => ?_)
      go_simp
      obtain ⟨wa, hwa⟩ : ∃ x : World, x = wd.alloc (.cells #[.int .i64 0, .int .i64 0, .int .i64 0, .int .i64 1, .int .i64 2, .int .i64 3] 3) := ⟨_, rfl⟩
      rw [← hwa]
      have BL : Box wa wd.heap.size 3 #[.int .i64 0, .int .i64 0, .int .i64 0, .int .i64 1, .int .i64 2, .int .i64 3] := hwa ▸ Box.new wd _ _ _ rfl
      have kwa : Kept wd wa := hwa ▸ (Kept.refl wd).alloc _
      clear hwa
      have Da := Lib.hid (E0.out.kept kwa)
      refine hK.out _ _ (HSM.out _ _ Da.out.box) (fun hS1 => ?_)
      clear hK K hS0
      try simp only [Act.put, List.setIfInBounds_toArray, List.set_cons_zero, List.set_cons_succ]
      refine onlyL (i := 4) rfl (by kernel_rfl) (fun K hK => ?_)
      go_simp
      with_reducible refine (among_lit p _ wd.heap.size 6 [0, 0, 0, 1, 2, 3] wa Da.out.cur (by omega) BL hpd rfl (by omega) (by omega)).mono ?_
      rintro e w2 ⟨y2, rfl, _, c2, on2⟩
      have D2 := Lib.hid (Da.out.drawn c2 on2)
      clear c2 on2 BL
      go_wp2_with fail
      refine hK.out _ _ (HSM.out _ _ D2.out.box) (fun hS2 => ?_)
      clear hK K hS1
      try simp only [Act.put, List.setIfInBounds_toArray, List.set_cons_zero, List.set_cons_succ]
      refine onlyL (i := 5) rfl (by kernel_rfl) (fun K hK => ?_)
      go_simp
      obtain ⟨w3, hw3⟩ : ∃ x : World, x = w2.alloc (.cells #[.int .i64 y2] 3) := ⟨_, rfl⟩
      rw [← hw3]
      have B3 : Box w3 w2.heap.size 3 #[.int .i64 y2] := hw3 ▸ Box.new w2 _ _ _ rfl
      have kw3 : Kept w2 w3 := hw3 ▸ (Kept.refl w2).alloc _
      clear hw3
      have D3 := Lib.hid (D2.out.kept kw3)
      have sz3 : w0.heap.size ≤ w3.heap.size := D3.out.only.size
      refine hK.out _ _ (HSM.out _ _ D3.out.box) (fun hS3 => ?_)
      clear hK K hS2
      try simp only [Act.put, List.setIfInBounds_toArray, List.set_cons_zero, List.set_cons_succ]
      refine onlyL (i := 6) rfl (by kernel_rfl) (fun K hK => ?_)
      rw [if_pos (wanted_none rfl _)]
      refine wp_append_ID w3 _ _ rfl w0.heap.size (Value.slice Am it.marks.length cm) it.marks rfl D3.out.marks _ [y2] rfl (ints_box1 B3) (by simp only [List.length_cons, List.length_nil]; omega) sz3 ?_
      intro v4 w4 o4 on4 f4
      have hl4 : (it.marks ++ [y2]).length = it.marks.length + 1 := by simp
      obtain ⟨A4, c4, rfl, _⟩ := own_form o4
      have ST := Lib.hid (D3.out.setM on4 o4 f4)
      have B4 := (D3.out.midM on4).1
      rw [hl4] at ST
      clear hl4 o4 on4 f4
      refine hK.out _ _ (HSM.out _ _ B4) (fun hS4 => ?_)
      clear hK K hS3
      try simp only [Act.put, List.setIfInBounds_toArray, List.set_cons_zero, List.set_cons_succ]
      refine takeL (i := 7) (v := ?_) rfl (by kernel_rfl) (by kernel_rfl) (by kernel_rfl) (fun _ _ _ h => h) (Or.inl ⟨by rfl, ?_⟩) hS4 ?_
      rotate_left 1
      · (intro w hSw; (try dsimp only at hSw); go_simp; try with_reducible rfl)
      try simp only [Act.put, List.setIfInBounds_toArray, List.set_cons_zero, List.set_cons_succ]
      refine doneL (by kernel_rfl) ?_
      clear hS4
      obtain ⟨x4, y4⟩ := B4.three
      go_wp2_with fail
      go_roundw
      case rel => exact ⟨n - 1, { it with names := it.names ++ [x2], marks := it.marks ++ [y2] }, _, _, by (first | go_num | (congr 1; omega)), by simp; omega, by simp; omega, by simp; omega, by simp; omega, ST.out.le (by simp; omega)⟩
      case measure => simp [RowKit.intOf]; omega
    · obtain rfl : n = 0 := by omega
      have hle : it.names.length ≤ 2 := by omega
      have hl1 : 1 ≤ it.names.length := by omega
      clear hn hn1 hn2
      go_wp2_with fail
      with_reducible refine (one_any p _ 12 wr HST.out.cur (by omega) (by omega)).mono ?_
      rintro e w1 ⟨b1, rfl, c1, on1⟩
      replace HST := Lib.hid (HST.out.drawn c1 on1)
      clear c1 on1
      cases b1 with
      | false =>
        have HZE := HST
        clear HST
        obtain ⟨xb, yb⟩ := HZE.out.box.three
        have B2 := BR.out.only HZE.out.only (not_one (Nat.ne_of_gt hpl))
        obtain ⟨x2, y2⟩ := B2.three
        go_wp2_with fail
        clear xb yb x2 y2
        obtain ⟨w9, hw9, B9, Q9⟩ := set3 B2 (Value.slice An it.names.length cn) (Value.slice Am it.marks.length cm) (.bool (it.late))
        rw [← hw9]
        clear hw9
        obtain ⟨cc, ff⟩ := B9.three
        refine bodyPost_ret (v := .agg #[Value.slice An it.names.length cn, Value.slice Am it.marks.length cm, .bool (it.late)]) (by simp [results, Tryz.results56, go_sem, cc, ff]) rfl ?_
        exact FIN.out _ _ _ _ (it) _ _ HZE.out Q9 (by omega) ⟨by omega, by omega, by omega⟩ (fun _ => by omega)
      | true =>
        go_upto_region 8 with (fail)
        refine region_pop (S := fun w' => w'.cell? ⟨bb, 0, none⟩ = some (Value.slice An it.names.length cn)) 8 (by kernel_rfl) (by kernel_rfl) ?_
        simp only [List.take_succ_cons, List.take_zero, List.drop_succ_cons, List.drop_zero]
        refine startL (HSB.out _ _ (HST.out.kept (Kept.refl w1).drew).box) (fun hS0 => ?_)
        obtain ⟨wd, hwd⟩ : ∃ x : World, x = w1.drew := ⟨_, rfl⟩
        rw [← hwd] at hS0 ⊢
        have D0 := Lib.hid (HST.out.kept (hwd ▸ (Kept.refl w1).drew))
        have hpd : wd.heap.size ≠ p := Nat.ne_of_gt D0.out.cur.lt
        clear hwd
        refine takeL (i := 0) (v := ?_) rfl (by kernel_rfl) (by kernel_rfl) (by kernel_rfl) (fun _ _ _ h => h) (Or.inl ⟨by rfl, ?_⟩) hS0 ?_
        rotate_left 1
        · (intro w hSw; (try dsimp only at hSw); go_simp; try with_reducible rfl)
        try simp only [Act.put, List.setIfInBounds_toArray, List.set_cons_zero, List.set_cons_succ]
        refine takeL (i := 1) (v := ?_) rfl (by kernel_rfl) (by kernel_rfl) (by kernel_rfl) (fun _ _ _ h => h) (Or.inl ⟨by rfl, ?_⟩) hS0 ?_
        rotate_left 1
        · (intro w hSw; (try dsimp only at hSw); go_simp; try with_reducible rfl)
        try simp only [Act.put, List.setIfInBounds_toArray, List.set_cons_zero, List.set_cons_succ]
        refine takeL (i := 2) (v := ?_) rfl (by kernel_rfl) (by kernel_rfl) (by kernel_rfl) (fun _ _ _ h => h) (Or.inl ⟨by rfl, ?_⟩) hS0 ?_
        rotate_left 1
        · (intro w hSw; (try dsimp only at hSw); go_simp; try with_reducible rfl)
        try simp only [Act.put, List.setIfInBounds_toArray, List.set_cons_zero, List.set_cons_succ]
        refine takeL (i := 3) (v := ?_) rfl (by kernel_rfl) (by kernel_rfl) (by kernel_rfl) (fun _ _ _ h => h) (Or.inl ⟨by rfl, ?_⟩) hS0 ?_
        rotate_left 1
        · (intro w hSw; (try dsimp only at hSw); go_simp; try with_reducible rfl)
        try simp only [Act.put, List.setIfInBounds_toArray, List.set_cons_zero, List.set_cons_succ]
        refine onlyL (i := 4) rfl (by kernel_rfl) (fun K hK => ?_)
        go_simp
        with_reducible refine (of_any p _ A zs.length c zs wd D0.out.cur (by omega) (HZ.out.off D0.out.only (fun a e => not_one (hAp a e))) rfl hz0 hz1 hAp).mono ?_
        rintro e w2 ⟨x2, rfl, hx2, c2, on2⟩
        have D2 := Lib.hid (D0.out.drawn c2 on2)
        have hxs : x2.size ≤ maxLen := HZ.out.2 x2 hx2
        clear c2 on2 hx2
        go_wp2_with fail
        refine hK.out _ _ (HSB.out _ _ D2.out.box) (fun hS1 => ?_)
        clear hK K hS0
        try simp only [Act.put, List.setIfInBounds_toArray, List.set_cons_zero, List.set_cons_succ]
        refine onlyL (i := 5) rfl (by kernel_rfl) (fun K hK => ?_)
        go_simp
        obtain ⟨w3, hw3⟩ : ∃ x : World, x = w2.alloc (.cells #[.string x2] 9) := ⟨_, rfl⟩
        rw [← hw3]
        have B3 : Box w3 w2.heap.size 9 #[.string x2] := hw3 ▸ Box.new w2 _ _ _ rfl
        have kw3 : Kept w2 w3 := hw3 ▸ (Kept.refl w2).alloc _
        clear hw3
        have D3 := Lib.hid (D2.out.kept kw3)
        have sz3 : w0.heap.size ≤ w3.heap.size := D3.out.only.size
        refine hK.out _ _ (HSB.out _ _ D3.out.box) (fun hS2 => ?_)
        clear hK K hS1
        try simp only [Act.put, List.setIfInBounds_toArray, List.set_cons_zero, List.set_cons_succ]
        refine onlyL (i := 6) rfl (by kernel_rfl) (fun K hK => ?_)
        rw [if_pos (wanted_none rfl _)]
        refine wp_append_SX w3 _ _ rfl w0.heap.size (Value.slice An it.names.length cn) it.names rfl D3.out.names _ [x2] rfl (strs_box1 B3 hxs) (by simp only [List.length_cons, List.length_nil]; omega) sz3 ?_
        intro v4 w4 o4 on4 f4
        have hl4 : (it.names ++ [x2]).length = it.names.length + 1 := by simp
        obtain ⟨A4, c4, rfl, _⟩ := own_form o4.1
        have ST := Lib.hid (D3.out.setN on4 o4 f4)
        have B4 := (D3.out.midN on4).1
        rw [hl4] at ST
        clear hl4 o4 on4 f4
        refine hK.out _ _ (HSB.out _ _ B4) (fun hS3 => ?_)
        clear hK K hS2
        try simp only [Act.put, List.setIfInBounds_toArray, List.set_cons_zero, List.set_cons_succ]
        refine takeL (i := 7) (v := ?_) rfl (by kernel_rfl) (by kernel_rfl) (by kernel_rfl) (fun _ _ _ h => h) (Or.inl ⟨by rfl, ?_⟩) hS3 ?_
        rotate_left 1
        · (intro w hSw; (try dsimp only at hSw); go_simp; try with_reducible rfl)
        try simp only [Act.put, List.setIfInBounds_toArray, List.set_cons_zero, List.set_cons_succ]
        refine doneL (by kernel_rfl) ?_
        clear hS3
        obtain ⟨x4, y4⟩ := B4.three
        go_upto_region 9 with (fail)
        clear x4 y4
        obtain ⟨w9, hw9⟩ : ∃ x : World, x = w4.setCell ⟨bb, 0, none⟩ (.slice A4 (it.names.length + 1) c4) := ⟨_, rfl⟩
        rw [← hw9] at ST ⊢
        clear hw9 B4
        have HST9 : Hid (ItSt p bb w0.heap.size (m + 4 + 4 * it.names.length + 2 + 2) w0 w9 { it with names := it.names ++ [x2] } (.slice A4 (it.names.length + 1) c4) (Value.slice Am it.marks.length cm)) := ST
        have sz9 : w0.heap.size ≤ w9.heap.size := HST9.out.only.size
        clear ST HSB HSM HST hxs
        obtain ⟨xb, yb⟩ := HST9.out.box.three
        go_upto_region 10 with (at_builtin; refine wpList_append_JD _ rfl _ _ rfl w0.heap.size (Value.slice Am it.marks.length cm) it.marks rfl (HST9.out.marks.kept ((Kept.refl w9).alloc _)) _ [0] rfl (ints_box1 (Box.new _ _ _ _ rfl)) (by simp only [List.length_cons, List.length_nil]; omega) (Nat.le_trans sz9 ((Kept.refl w9).alloc _).size) ?_; intro v5 w5 o5 on5 f5; have D5 := HST9.out.kept ((Kept.refl w9).alloc (.cells #[.int .i64 0] 3)); have ST := Lib.hid (D5.setM on5 o5 f5); obtain ⟨x5, y5⟩ := (D5.midM on5).1.three; have hl5 : (it.marks ++ [0]).length = it.marks.length + 1 := (by simp); obtain ⟨A5, c5, rfl, _⟩ := own_form o5; rw [hl5] at ST ⊢; clear o5 on5 f5 D5 hl5)
        clear xb yb x5 y5
        obtain ⟨wz, hwz⟩ : ∃ x : World, x = w5.setCell ⟨bb, 1, none⟩ (.slice A5 (it.marks.length + 1) c5) := ⟨_, rfl⟩
        rw [← hwz] at ST ⊢
        have HZE := ST
        clear ST HST9 hwz
        obtain ⟨xb, yb⟩ := HZE.out.box.three
        have B2 := BR.out.only HZE.out.only (not_one (Nat.ne_of_gt hpl))
        obtain ⟨x2, y2⟩ := B2.three
        go_wp2_with fail
        clear xb yb x2 y2
        obtain ⟨w9, hw9, B9, Q9⟩ := set3 B2 (Value.slice A4 (it.names.length + 1) c4) (Value.slice A5 (it.marks.length + 1) c5) (.bool (it.late))
        rw [← hw9]
        clear hw9
        obtain ⟨cc, ff⟩ := B9.three
        refine bodyPost_ret (v := .agg #[Value.slice A4 (it.names.length + 1) c4, Value.slice A5 (it.marks.length + 1) c5, .bool (it.late)]) (by simp [results, Tryz.results56, go_sem, cc, ff]) rfl ?_
        exact FIN.out _ _ _ _ ({ it with names := it.names ++ [x2], marks := it.marks ++ [0] }) _ _ HZE.out Q9 (by omega) ⟨by simp, by simp; omega, by simp; omega⟩ (fun _ => by simp; omega)
end Go.Proofs.YtkekpolfdmmgeaaGreat
