/- Contracts of functions that the proof leans on. No condition. -/
import Derived.Test.YtkekpolfdmmgeaaGreatDoorM1ff42e3867
import Derived.Sort.Grow
import Derived.Deep.AppendLies
import Derived.Shelf.Sort.Plain
import Derived.Shelf.Slices.CompactS
import Derived.Test.YtkekpolfdmmgeaaGreatDoorShelf
import Derived.Deep.RegionHeld3
import Derived.Deep.DeepCutAuto
import Derived.StillTailTactics
/- Rows that the library sorts in place; copies with where they lie. -/
namespace Go.Proofs.YtkekpolfdmmgeaaGreatDoor
set_option linter.unusedVariables false
set_option linter.unusedSimpArgs false
open Go.RowKit

theorem own_lt {w : World} {base g cap n : Nat} {e : TypeId} {xs : List Value} (h : w.ownsRow base e 1 (.slice (some ⟨g, 0, none⟩) n cap) n xs) : g < w.heap.size := by
  rcases h.2 with ⟨e1, _⟩ | ⟨g', cap', cur, e1, hb, hg, _⟩
  · cases e1
  · injection e1 with e1
    injection e1 with e1
    injection e1 with e1
    subst e1
    exact (Array.getElem?_eq_some_iff.1 hg).1
theorem holds_own {α : Type} [Inhabited α] {enc : α → Value} {w : World} {base g cap : Nat} {e : TypeId} {zs : List α} (h : w.ownsRow base e 1 (.slice (some ⟨g, 0, none⟩) zs.length cap) zs.length (zs.map enc)) : Go.Sort.Holds enc w g 0 zs.toArray := by
  intro j hj
  have hj' : j < zs.length := by simpa using hj
  rcases h.2 with ⟨e1, _⟩ | ⟨g', cap', cur, e1, hb, hg, _⟩
  · cases e1
  · injection e1 with e1
    injection e1 with e1
    injection e1 with e1
    subst e1
    refine ⟨?_, ?_⟩
    · rw [Nat.zero_add, h.cellAt j (by omega), List.getElem?_map, List.getElem?_eq_getElem hj']
      simp [hj']
    · simp [World.frozen?, hg]
theorem putRow_own {α : Type} [Inhabited α] (enc : α → Value) {w : World} {base g cap n : Nat} {e : TypeId} {xs : List Value} (h : w.ownsRow base e 1 (.slice (some ⟨g, 0, none⟩) n cap) n xs) {ys : List α} (hl : ys.length = n) (m : Nat) (os : Array Obj) :
    (Go.Sort.grow (Go.Sort.putRow enc (Go.Sort.ahead w m) g 0 ys.toArray) os).ownsRow base e 1 (.slice (some ⟨g, 0, none⟩) n cap) n (ys.map enc) ∧ Only [g] w (Go.Sort.grow (Go.Sort.putRow enc (Go.Sort.ahead w m) g 0 ys.toArray) os) := by
  rcases h.2 with ⟨e1, _⟩ | ⟨g', cap', cur, e1, hb, hg, hnc, hcm, hcs, ht⟩
  · cases e1
  · injection e1 with e1 e2 e3
    injection e1 with e1
    injection e1 with e1
    subst e1 e3
    have hlt : g < w.heap.size := (Array.getElem?_eq_some_iff.1 hg).1
    have hnew : (Go.Sort.grow (Go.Sort.putRow enc (Go.Sort.ahead w m) g 0 ys.toArray) os).heap[g]? = some (.cells (Go.Sort.putCells enc 0 ys.toArray cur) e (0, 0)) := by
      rw [Go.Sort.heap_grow_old _ _ (by simpa using hlt)]
      simp [Go.Sort.putRow, Go.Sort.mapBlock, Array.getElem?_modify, hg, Go.Sort.onCells]
    refine ⟨⟨by simp [hl], .inr ⟨g, cap, _, rfl, hb, hnew, hnc, hcm, by simp [Go.Sort.putCells]; simpa using hcs, ?_⟩⟩, ?_⟩
    · apply List.ext_getElem?
      intro j
      rw [List.getElem?_take]
      by_cases hj : j < n
      · rw [if_pos (by omega), Array.getElem?_toList]
        have hjc : j < cur.size := by omega
        simp [Go.Sort.putCells, Array.getElem?_mapIdx, hjc, hl, hj]
      · rw [if_neg (by omega), List.getElem?_eq_none (by simp [hl]; omega)]
    · refine ⟨rfl, rfl, rfl, by simp [Go.Sort.grow, Go.Sort.putRow, Go.Sort.mapBlock], fun i hi hn => ?_⟩
      rw [Go.Sort.heap_grow_old _ _ (by simpa using hi)]
      have hne : g ≠ i := fun e => hn (by simp [e])
      simp [Go.Sort.putRow, Go.Sort.mapBlock, Array.getElem?_modify, hne]
theorem run_append_locG {P : Program} (w : World) (base : Nat) (t ty e : TypeId) (i : TypeInfo) (z : Value) (size bytes : Nat) (ht : P.underlying t = some (.slice e)) (hi : P.info? e = some i) (hz : i.zero = some z)
    (hsize : i.size = size) (hby : i.bytes = bytes) (hzs : z.cells.size = size) (hsz : 0 < size)
    (v : Value) (n : Nat) (xs : List Value) (hown : w.ownsRow base e size v n xs)
    (u : Value) (m : Nat) (news : List Value) (hr : Seq w u m news) (hl : news.length = m * size) (h1 : ∀ y ∈ news, y.oneCell' = true)
    (h63 : n + m ≤ maxLen) (hbytes : (n + m) * bytes ≤ 140737488355328) (hbase : base ≤ w.heap.size) :
    ∃ v' w', (Builtin.append_ #[t, t] ty #[v, u]).run P w = .ok v' w' ∧ w'.ownsRow base e size v' (n + m) (xs ++ news) ∧ w.grownBy w' v.ownBlock ∧ (v'.ownBlock = v.ownBlock ∨ v'.ownBlock = some w.heap.size) := by
  obtain ⟨A, c, rfl, hnc, hcm, hA, hc⟩ := hr
  rcases A with _ | ad
  · obtain rfl := hA rfl
    obtain rfl : m = 0 := by omega
    obtain rfl : news = [] := List.eq_nil_of_length_eq_zero (by simpa using hl)
    exact ⟨v, w, run_append_of_nil w base t ty e i size ht hi v n xs hown 0, by simpa using hown, World.grownBy.refl w _, .inl rfl⟩
  · have hcells : ∀ j y, news[j]? = some y → w.cell? (ad.add j) = some y := by
      intro j y hy
      have hm : 0 < m := by
        rcases Nat.eq_zero_or_pos m with h0 | h0
        · subst h0
          have : news = [] := List.eq_nil_of_length_eq_zero (by simpa using hl)
          subst this
          simp at hy
        · exact h0
      obtain ⟨b, o', e1, hb, hcell⟩ := hc hm
      injection e1 with e1
      subst e1
      have := hcell j y hy
      rwa [show (⟨b, o', none⟩ : Addr).add j = ⟨b, o' + j, none⟩ from by unfold Addr.add; split <;> simp_all]
    obtain ⟨v', w', hrun, h2, h3, _, h5⟩ := run_append_own_at (P := P) w base t ty e i z size bytes ht hi hz hsize hby hzs hsz v n xs hown ad m c news hl hcells h1 h63 hbytes hbase
    exact ⟨v', w', hrun, h2, h3, h5⟩
set_option maxRecDepth 100000 in
theorem wpList_append_IL (w : World) {ops : Array Oper} {rest : List Oper} {o : Oper} {a : Act} {Q : Exit → Act → World → Prop} (hgd : o.guard = none) (s x : Operand)
    (ho : o.op = .call { callee := .builtin .append, args := #[s, x], argTypes := #[24, 24] })
    (base : Nat) (v : Value) (zs : List Int) (hs : a.eval s = v) (hown : OwnI w base v zs) (u : Value) (ys : List Int) (hx : a.eval x = u) (hr : Ints w u ys)
    (hl : zs.length + ys.length ≤ 16777216) (hbase : base ≤ w.heap.size)
    (h : ∀ v' w', OwnI w' base v' (zs ++ ys) → w.grownBy w' v.ownBlock → (v.ownBlock ≠ none → v'.ownBlock ≠ none) → wpList Tryz.prog ops Q rest (a.put o.dst v') w') : wpList Tryz.prog ops Q (o :: rest) a w := by
  refine wpList_plain hgd fun K hK => ?_
  obtain ⟨i0, hi, hz0, hz1, hz2⟩ := info_parts info_int
  obtain ⟨v', w', hrun, h2, h3, h4⟩ := run_append_locG (P := Tryz.prog) w base 24 o.type 3 i0 _ 1 8 Tryz.underlying24 hi hz0 hz1 hz2 rfl (by omega) v zs.length _ hown u ys.length (ys.map (Value.int .i64)) hr (by simp) (fun y hy => by obtain ⟨_, _, rfl⟩ := List.mem_map.1 hy; rfl) (by unfold maxLen; omega) (by omega) hbase
  unfold Oper.wp execOp
  simp only [ho, resolve, invoke, builtin, Sem.run_bind, Sem.run_pure, Result.andThen_ok, List.map_toArray, List.map_cons, List.map_nil, hs, hx, hrun]
  refine hK _ _ (h v' w' ?_ h3 (fun hv => ?_))
  · unfold OwnI; rw [List.length_append, List.map_append]; exact h2
  · rcases h4 with h4 | h4
    · rw [h4]; exact hv
    · rw [h4]; simp
set_option maxHeartbeats 1000000 in
theorem copyIntsL_any (v : Value) (zs : List Int) (w : World) (h : Ints w v zs) (hn : zs.length ≤ 1048576) :
    Calls Tryz.prog 104 #[v] w fun e w' => ∃ g cap, e = .returned (.slice (some ⟨g, 0, none⟩) zs.length cap) ∧ OwnI w' w.heap.size (.slice (some ⟨g, 0, none⟩) zs.length cap) zs ∧ Kept w w' := by
  have H := Lib.hid h
  obtain ⟨A, c, rfl, _, _, _⟩ := h.out
  clear h
  go_enter Tryz.func104, Tryz.ntmps104
  go_wp2_with (at_builtin; refine wpList_append_IL _ rfl _ _ rfl w.heap.size _ [] rfl (own_made _ _ 1 (Nat.le_refl _) (Box.new _ _ _ _ rfl)) _ zs rfl (H.out.kept ((Kept.refl _).alloc _)) (by simp; omega) (by simp) ?_; intro v' w' ho' hg hn')
  have kg := ((Kept.refl w).alloc (.cells #[] 3)).grew (own_made (base := w.heap.size) _ _ 1 (Nat.le_refl _) (Box.new _ _ _ _ rfl)) hg (Nat.le_refl _)
  have hv : v'.ownBlock ≠ none := hn' (fun h => by cases h)
  rw [List.nil_append] at ho'
  obtain ⟨g, cap, e, O⟩ : ∃ g cap, v' = .slice (some ⟨g, 0, none⟩) zs.length cap ∧ Hid (OwnI w' w.heap.size v' zs) := by
    rcases ho'.2 with ⟨rfl, _⟩ | ⟨g, cap, cur, e, _⟩
    · exact absurd rfl hv
    · exact ⟨g, cap, e, Lib.hid ho'⟩
  subst e
  clear ho' hn' hg hv
  go_ret
  exact ⟨g, cap, rfl, O.out, kg⟩
end Go.Proofs.YtkekpolfdmmgeaaGreatDoor

/- Items: slices.Sort and slices.Compact at rows of strings; NamesIn, both sides. -/
namespace Go.Proofs.YtkekpolfdmmgeaaGreatDoor
set_option linter.unusedVariables false
set_option linter.unusedSimpArgs false
open Go.RowKit Go.Lib Go.Sort

theorem ownS_cases {w : World} {base : Nat} {v : Value} {zs : List ByteArray} (h : OwnS w base v zs) : (v = .slice none 0 0 ∧ zs = []) ∨ ∃ g cap, v = .slice (some ⟨g, 0, none⟩) zs.length cap ∧ zs.length ≤ cap ∧ cap ≤ maxLen := by
  rcases h.1.2 with ⟨e1, e2⟩ | ⟨g, cap, cur, e1, _, _, e4, e5, _⟩
  · exact .inl ⟨e1, List.eq_nil_of_length_eq_zero e2⟩
  · exact .inr ⟨g, cap, e1, e4, e5⟩
theorem own_shrink {w : World} {base g cap n m : Nat} {e : TypeId} {xs : List Value} (h : w.ownsRow base e 1 (.slice (some ⟨g, 0, none⟩) n cap) n xs) (hm : m ≤ n) : w.ownsRow base e 1 (.slice (some ⟨g, 0, none⟩) m cap) m (xs.take m) := by
  obtain ⟨hl, h2⟩ := h
  rcases h2 with ⟨e1, _⟩ | ⟨g', cap', cur, e1, hb, hg, hnc, hcm, hcs, ht⟩
  · cases e1
  · injection e1 with e1 e2 e3
    injection e1 with e1
    injection e1 with e1
    subst e1 e3
    refine ⟨by rw [List.length_take, hl]; omega, .inr ⟨g, cap, cur, rfl, hb, hg, by omega, hcm, hcs, ?_⟩⟩
    rw [← ht, List.take_take]
    congr 1
    omega
theorem enc_bl (zs : List ByteArray) : (zs.map bl).map encStr = zs.map Value.string := by
  rw [List.map_map]
  exact List.map_congr_left fun z _ => congrArg Value.string (bs_bl z)
theorem enc_bs (ls : List LB) : ls.map encStr = (ls.map bs).map Value.string := by
  rw [List.map_map]
  rfl
theorem names_len {zs : List LB} : (compact zs).length ≤ zs.length := by
  unfold compact compactUpTo
  rw [List.length_map]
  exact Nat.le_trans (List.length_filter_le _ _) (by simp)
theorem sortS_any (g cap : Nat) (zs : List ByteArray) (w : World) (base : Nat) (h : OwnS w base (.slice (some ⟨g, 0, none⟩) zs.length cap) zs) (hl : zs.length ≤ 1000000) :
    Calls Tryz.prog 84 #[.slice (some ⟨g, 0, none⟩) zs.length cap] w fun e w' => e = .returned (.tuple #[]) ∧ OwnS w' base (.slice (some ⟨g, 0, none⟩) zs.length cap) ((sortL (zs.map bl)).map bs) ∧ Only [g] w w' := by
  have h1 := h.1
  rw [← enc_bl] at h1
  have h2 : w.ownsRow base 9 1 (.slice (some ⟨g, 0, none⟩) (zs.map bl).length cap) (zs.map bl).length ((zs.map bl).map encStr) := by rw [List.length_map]; exact h1
  have c := Tryz.slices_Sort_string g 0 cap (zs.map bl) w (holds_own h2) (own_lt h1) (by rw [List.length_map]; omega)
  rw [List.length_map] at c
  refine c.mono ?_
  rintro e w' ⟨rfl, n, os, rfl⟩
  have q := putRow_own encStr h1 (ys := sortL (zs.map bl)) (by unfold sortL; rw [List.length_mergeSort, List.length_map]) n os
  refine ⟨rfl, ⟨?_, fun z hz => ?_⟩, q.2⟩
  · rw [← enc_bs, List.length_map, show (sortL (zs.map bl)).length = zs.length by unfold sortL; rw [List.length_mergeSort, List.length_map]]
    exact q.1
  · obtain ⟨l, hm, rfl⟩ := List.mem_map.1 hz
    obtain ⟨y, hy, e⟩ := List.mem_map.1 ((List.mergeSort_perm _ _).mem_iff.1 hm)
    subst e
    rw [bs_bl]
    exact h.2 y hy
theorem compactS_any (g cap : Nat) (zs : List ByteArray) (w : World) (base : Nat) (h : OwnS w base (.slice (some ⟨g, 0, none⟩) zs.length cap) ((sortL (zs.map bl)).map bs)) (hl : zs.length ≤ 1000000) (hcap : zs.length ≤ cap) (hsz : ∀ z ∈ zs, z.size ≤ maxLen) :
    Calls Tryz.prog 85 #[.slice (some ⟨g, 0, none⟩) zs.length cap] w fun e w' => ∃ v', e = .returned v' ∧ OwnS w' base v' (namesD zs) ∧ Only [g] w w' := by
  have hlen : (sortL (zs.map bl)).length = zs.length := by unfold sortL; rw [List.length_mergeSort, List.length_map]
  have h1 := h.1
  rw [List.length_map, hlen, ← enc_bs] at h1
  have h2 : w.ownsRow base 9 1 (.slice (some ⟨g, 0, none⟩) (sortL (zs.map bl)).length cap) (sortL (zs.map bl)).length ((sortL (zs.map bl)).map encStr) := by rw [hlen]; exact h1
  have c := Tryz.slices_Compact_string g 0 cap (sortL (zs.map bl)) w (holds_own h2) (by rw [hlen]; omega) (by rw [hlen]; exact hcap)
  have hcl := names_len (zs := sortL (zs.map bl))
  rw [hlen] at c hcl
  refine c.mono ?_
  rintro e w' ⟨rfl, n, rfl⟩
  have q := putRow_own encStr h1 (ys := compact (sortL (zs.map bl)) ++ List.replicate (zs.length - (compact (sortL (zs.map bl))).length) []) (by rw [List.length_append, List.length_replicate]; omega) n #[]
  rw [Go.Sort.grow_empty] at q
  refine ⟨_, rfl, ⟨?_, fun z hz => hsz z (names_mem hz)⟩, q.2⟩
  have s := own_shrink q.1 hcl
  have e1 : (namesD zs).length = (compact (sortL (zs.map bl))).length := by unfold namesD; rw [List.length_map]
  have e2 : ((compact (sortL (zs.map bl)) ++ List.replicate (zs.length - (compact (sortL (zs.map bl))).length) []).map encStr).take (compact (sortL (zs.map bl))).length = (namesD zs).map Value.string := by
    rw [← List.map_take, List.take_left, enc_bs]
    rfl
  rw [e2] at s
  rw [e1]
  exact s
theorem ret_vbN {v : Value} {b b' : Bool} (h : b = b') : Ending.returned (.tuple #[v, .bool b]) = .returned (.tuple #[v, .bool b']) := by rw [h]
theorem nilS (w : World) (base : Nat) : OwnS w base (.slice none 0 0) [] := ⟨⟨by simp, .inl ⟨rfl, rfl⟩⟩, fun _ h => by cases h⟩
theorem OwnS.base {w : World} {base base' : Nat} {v : Value} {zs : List ByteArray} (h : OwnS w base v zs) (hb : base' ≤ base) : OwnS w base' v zs := ⟨own_base h.1 hb, h.2⟩
theorem Only.above' {g : Nat} {a0 a b : World} (h : Only [g] a b) (k : Kept a0 a) (hg : a0.heap.size ≤ g) : Kept a0 b :=
  h.above k (fun x hx => by rw [List.mem_singleton] at hx; subst hx; exact hg)
set_option maxRecDepth 100000 in
theorem wpList_append_SL (w : World) {ops : Array Oper} {rest : List Oper} {o : Oper} {a : Act} {Q : Exit → Act → World → Prop} (hgd : o.guard = none) (s x : Operand)
    (ho : o.op = .call { callee := .builtin .append, args := #[s, x], argTypes := #[57, 57] })
    (base : Nat) (v : Value) (zs : List ByteArray) (hs : a.eval s = v) (hown : OwnS w base v zs) (u : Value) (ys : List ByteArray) (hx : a.eval x = u) (hr : Strs w u ys)
    (hl : zs.length + ys.length ≤ 16777216) (hbase : base ≤ w.heap.size)
    (h : ∀ v' w', OwnS w' base v' (zs ++ ys) → w.grownBy w' v.ownBlock → (v.ownBlock ≠ none → v'.ownBlock ≠ none) → wpList Tryz.prog ops Q rest (a.put o.dst v') w') : wpList Tryz.prog ops Q (o :: rest) a w := by
  refine wpList_plain hgd fun K hK => ?_
  obtain ⟨i0, hi, hz0, hz1, hz2⟩ := info_parts info_str
  obtain ⟨v', w', hrun, h2, h3, h4⟩ := run_append_locG (P := Tryz.prog) w base 57 o.type 9 i0 _ 1 16 Tryz.underlying57 hi hz0 hz1 hz2 rfl (by omega) v zs.length _ hown.1 u ys.length (ys.map Value.string) hr.1 (by simp) (fun y hy => by obtain ⟨_, _, rfl⟩ := List.mem_map.1 hy; rfl) (by unfold maxLen; omega) (by omega) hbase
  unfold Oper.wp execOp
  simp only [ho, resolve, invoke, builtin, Sem.run_bind, Sem.run_pure, Result.andThen_ok, List.map_toArray, List.map_cons, List.map_nil, hs, hx, hrun]
  refine hK _ _ (h v' w' ?_ h3 (fun hv => ?_))
  · refine ⟨by rw [List.length_append, List.map_append]; exact h2, fun e he => ?_⟩
    rcases List.mem_append.1 he with he | he
    · exact hown.2 e he
    · exact hr.2 e he
  · rcases h4 with h4 | h4
    · rw [h4]; exact hv
    · rw [h4]; simp
end Go.Proofs.YtkekpolfdmmgeaaGreatDoor

/- Texts: numerals read, a text split: the reference's and the program's. -/
namespace Go.Proofs.YtkekpolfdmmgeaaGreatDoor
set_option linter.unusedVariables false
set_option linter.unusedSimpArgs false
set_option linter.unnecessarySimpa false
open Go.RowKit Go.Lib

theorem dval_lt' (l : List UInt8) (h : l.all isDg = true) : dval l < 10 ^ l.length := by
  induction l using snocInd with
  | h0 => decide
  | h1 l b ih =>
    rw [List.all_append] at h
    simp at h
    have hb := (isDg_iff b).1 h.2
    have := ih (by simpa using h.1)
    rw [dval_snoc, List.length_append, List.length_singleton, Nat.pow_succ]
    omega
theorem dval_take {s : ByteArray} {k m : Nat} (hk : k ≤ m) (hm : m ≤ 12) (h : (s.data.toList.take k).all isDg = true) : dval (s.data.toList.take k) < 1000000000000 := by
  have h1 := dval_lt' _ h
  have h2 : (s.data.toList.take k).length ≤ 12 := by rw [List.length_take]; omega
  exact Nat.lt_of_lt_of_le h1 (Nat.pow_le_pow_right (by decide) h2)
def ntB (k : Nat) (s : ByteArray) : Bool := (readNum k s.data.toList).isSome
def ntV (k : Nat) (s : ByteArray) : Int := ((readNum k s.data.toList).getD 0 : Nat)
theorem nt_none {k : Nat} {s : ByteArray} (h : readNum k s.data.toList = none) : (0 : Int) = ntV k s ∧ false = ntB k s := by unfold ntV ntB; rw [h]; exact ⟨rfl, rfl⟩
theorem nt_some {k : Nat} {s : ByteArray} {n : Nat} (h : readNum k s.data.toList = some n) : (n : Int) = ntV k s ∧ true = ntB k s := by unfold ntV ntB; rw [h]; exact ⟨rfl, rfl⟩
theorem rn_big {k : Nat} {l : List UInt8} (h : l.length = 0 ∨ k < l.length) : readNum k l = none := by
  unfold readNum
  rw [if_pos]
  rcases h with h | h
  · exact .inl h
  · exact .inr (.inl h)
theorem rn_zero {k : Nat} {l : List UInt8} (h : 1 < l.length) (h0 : l[0]? = some 48) : readNum k l = none := by
  unfold readNum
  rw [if_pos]
  exact .inr (.inr (.inl ⟨h, by rw [List.head?_eq_getElem?, h0]⟩))
theorem rn_bad {k j : Nat} {l : List UInt8} {b : UInt8} (h : l[j]? = some b) (hb : isDg b = false) : readNum k l = none := by
  unfold readNum
  rw [if_pos]
  refine .inr (.inr (.inr ?_))
  rw [Bool.eq_false_iff]
  intro ha
  have := List.all_eq_true.1 ha b (List.mem_of_getElem? h)
  rw [hb] at this
  cases this
theorem rn_ok {k : Nat} {l : List UInt8} (h1 : 0 < l.length) (h2 : l.length ≤ k) (h3 : 1 < l.length → l[0]? ≠ some 48) (h4 : l.all isDg = true) : readNum k l = some (dval l) := by
  unfold readNum
  rw [if_neg]
  rintro (h | h | ⟨a, b⟩ | h)
  · omega
  · omega
  · rw [List.head?_eq_getElem?] at b; exact h3 a b
  · rw [h4] at h; cases h
theorem dg_of {b : UInt8} (h1 : 48 ≤ b.toNat) (h2 : b.toNat ≤ 57) : isDg b = true := (isDg_iff b).2 ⟨h1, h2⟩
theorem dg_not {b : UInt8} (h : b.toNat < 48 ∨ 57 < b.toNat) : isDg b = false := by
  rw [Bool.eq_false_iff]
  intro hb
  have := (isDg_iff b).1 hb
  omega
theorem dv_snoc {l : List UInt8} {k : Nat} {b : UInt8} (h : l[k]? = some b) : dval (l.take (k + 1)) = 10 * dval (l.take k) + (b.toNat - 48) := by
  rw [take_snoc h, dval_snoc]
theorem ret_ibT {a a' : Int} {b b' : Bool} (h : a = a' ∧ b = b') : Ending.returned (.tuple #[.int .i64 a, .bool b]) = .returned (.tuple #[.int .i64 a', .bool b']) := by rw [h.1, h.2]
theorem ret_i {a a' : Int} (h : a = a') : Ending.returned (.int .i64 a) = .returned (.int .i64 a') := by rw [h]
theorem byte3 (c : Nat) : c < 48 ∨ 57 < c ∨ (48 ≤ c ∧ c ≤ 57) := by omega
theorem ne_zero {s : ByteArray} (h : s ≠ ⟨#[]⟩) : 0 < s.size := by
  rcases Nat.eq_zero_or_pos s.size with h0 | h0
  · exact absurd (ByteArray.ext (Array.eq_empty_of_size_eq_zero h0)) h
  · exact h0
/-- what a reading of at most k digits gives: the number, or -1 -/
def rdV (k : Nat) (s : ByteArray) : Int := match readNum k s.data.toList with | none => -1 | some n => (n : Int)
theorem rd_none {k : Nat} {s : ByteArray} (h : readNum k s.data.toList = none) : (-1 : Int) = rdV k s := by unfold rdV; rw [h]
theorem rd_some {k : Nat} {s : ByteArray} {n : Nat} (h : readNum k s.data.toList = some n) : (n : Int) = rdV k s := by unfold rdV; rw [h]
set_option maxHeartbeats 4000000 in
theorem natural_any (s : ByteArray) (w : World) (hs : s.size ≤ maxLen) :
    Calls Tryz.prog 151 #[.string s] w fun e w' => e = .returned (.tuple #[.int .i64 (ntV 12 s), .bool (ntB 12 s)]) ∧ w = w' := by
  unfold maxLen at hs
  have hlen : s.data.toList.length = s.size := by rw [size_eq]
  have HL := Lib.hid hlen
  clear hlen
  by_cases h0 : s = ⟨#[]⟩
  · subst h0
    go_enter Tryz.func151, Tryz.ntmps151
    go_wp2
    go_ret2
    exact ⟨ret_ibT <| nt_none (rn_big (.inl rfl)), rfl⟩
  have hp := ne_zero h0
  have he : s.toList.isEmpty = false := by
    rw [toList_data]
    cases hq : s.data.toList with
    | nil => have := HL.out; rw [hq] at this; simp at this; omega
    | cons _ _ => rfl
  by_cases hk : 12 < s.size
  · go_enter Tryz.func151, Tryz.ntmps151
    go_wp2
    go_ret2
    exact ⟨ret_ibT <| nt_none (rn_big (.inr (by rw [HL.out]; exact hk))), rfl⟩
  have HZ0 := Lib.hid (byte_get s 0 hp)
  by_cases h1 : 1 < s.size ∧ s[0].toNat = 48
  · obtain ⟨h1, h2⟩ := h1
    have hq : ((s[0].toNat : Int) == 48) = true := (by rw [beq_iff_eq]; omega)
    go_enter Tryz.func151, Tryz.ntmps151
    go_wp2
    go_ret2
    exact ⟨ret_ibT <| nt_none (rn_zero (by rw [HL.out]; exact h1) (by rw [HZ0.out]; exact congrArg some (UInt8.toNat_inj.1 h2))), rfl⟩
  have H3 : Hid (1 < s.data.toList.length → s.data.toList[0]? ≠ some 48) := Lib.hid (fun a b => h1 ⟨by rw [← HL.out]; exact a, by rw [HZ0.out] at b; rw [Option.some.inj b]; rfl⟩)
  have hcase : (s.size < 2 ∧ s[0].toNat < 48) ∨ (s.size < 2 ∧ s[0].toNat = 48) ∨ (s.size < 2 ∧ 48 < s[0].toNat) ∨ (1 < s.size ∧ s[0].toNat < 48) ∨ (1 < s.size ∧ 48 < s[0].toNat) := by omega
  clear h1
  rcases hcase with ⟨h1, h2⟩ | ⟨h1, h2⟩ | ⟨h1, h2⟩ | ⟨h1, h2⟩ | ⟨h1, h2⟩
  all_goals
    first
      | have hq : ((s[0].toNat : Int) == 48) = false := (by rw [beq_eq_false_iff_ne]; omega)
      | have hq : ((s[0].toNat : Int) == 48) = true := (by rw [beq_iff_eq]; omega)
    go_enter Tryz.func151, Tryz.ntmps151
    go_wp2
    go_loop [4, 5] (fun n i => ∃ k : Nat, k ≤ s.size ∧ i = .int .i64 k ∧ n = .int .i64 (dval (s.data.toList.take k) : Nat) ∧ (s.data.toList.take k).all isDg = true) (fun _ i => s.size - (RowKit.intOf i).toNat)
    case atStart => exact ⟨0, Nat.zero_le _, rfl, rfl, rfl⟩
    case round =>
      obtain ⟨k, hk2, rfl, rfl, ha⟩ := hrel
      have hv := dval_take hk2 (by omega) ha
      have HA := Lib.hid ha
      clear ha
      by_cases hlt : k < s.size
      · have HZ := Lib.hid (byte_get s k hlt)
        have HD := Lib.hid (dv_snoc HZ.out)
        have hlt' : (k : Int) < (s.size : Int) := by omega
        rcases byte3 s[k].toNat with hc | hc | hc
        · generalize dval (s.data.toList.take k) = v at *
          go_wp2
          go_ret2
          exact ⟨ret_ibT <| nt_none (rn_bad HZ.out (dg_not (.inl hc))), rfl⟩
        · generalize dval (s.data.toList.take k) = v at *
          go_wp2
          go_ret2
          exact ⟨ret_ibT <| nt_none (rn_bad HZ.out (dg_not (.inr hc))), rfl⟩
        · generalize dval (s.data.toList.take k) = v at *
          go_wp2
          go_round
          case rel => exact ⟨k + 1, by omega, by go_num, by rw [HD.out]; go_num, all_snoc HZ.out HA.out (dg_of hc.1 hc.2)⟩
          case measure => simp [RowKit.intOf]; omega
      · obtain rfl : k = s.size := by omega
        have e : s.data.toList.take s.size = s.data.toList := List.take_of_length_le (by rw [HL.out]; exact Nat.le_refl _)
        rw [e] at HA hv ⊢
        have HE := Lib.hid (rn_ok (k := 12) (by rw [HL.out]; omega) (by rw [HL.out]; omega) H3.out HA.out)
        generalize dval s.data.toList = v at *
        go_wp2
        go_ret2
        exact ⟨ret_ibT <| nt_some HE.out, rfl⟩
set_option maxHeartbeats 4000000 in
theorem l1Read_any (s : ByteArray) (w : World) (hs : s.size ≤ maxLen) :
    Calls Tryz.prog 109 #[.string s] w fun e w' => e = .returned (.int .i64 (rdV 6 s)) ∧ w = w' := by
  unfold maxLen at hs
  have hlen : s.data.toList.length = s.size := by rw [size_eq]
  have HL := Lib.hid hlen
  clear hlen
  by_cases h0 : s = ⟨#[]⟩
  · subst h0
    have HI : Hid (inB 0 1 6 = false) := Lib.hid rfl
    go_enter Tryz.func109, Tryz.ntmps109
    go_wp2_with (go_at_call 100; refine (l1In_any _ _ _ _).mono ?_; rintro e w' ⟨rfl, rfl⟩; rw [HI.out])
    go_ret
    exact ⟨ret_i <| rd_none (rn_big (.inl rfl)), rfl⟩
  have hp := ne_zero h0
  have he : s.toList.isEmpty = false := by
    rw [toList_data]
    cases hq : s.data.toList with
    | nil => have := HL.out; rw [hq] at this; simp at this; omega
    | cons _ _ => rfl
  by_cases hk : 6 < s.size
  · have HI : Hid (inB (s.size : Int) 1 6 = false) := Lib.hid (by unfold inB; simp; omega)
    go_enter Tryz.func109, Tryz.ntmps109
    go_wp2_with (go_at_call 100; refine (l1In_any _ _ _ _).mono ?_; rintro e w' ⟨rfl, rfl⟩; rw [HI.out])
    go_ret
    exact ⟨ret_i <| rd_none (rn_big (.inr (by rw [HL.out]; exact hk))), rfl⟩
  have HI : Hid (inB (s.size : Int) 1 6 = true) := Lib.hid (by unfold inB; simp; omega)
  have HZ0 := Lib.hid (byte_get s 0 hp)
  by_cases h1 : 1 < s.size ∧ s[0].toNat = 48
  · obtain ⟨h1, h2⟩ := h1
    have hq : ((s[0].toNat : Int) == 48) = true := (by rw [beq_iff_eq]; omega)
    go_enter Tryz.func109, Tryz.ntmps109
    go_wp2_with (go_at_call 100; refine (l1In_any _ _ _ _).mono ?_; rintro e w' ⟨rfl, rfl⟩; rw [HI.out])
    go_ret
    exact ⟨ret_i <| rd_none (rn_zero (by rw [HL.out]; exact h1) (by rw [HZ0.out]; exact congrArg some (UInt8.toNat_inj.1 h2))), rfl⟩
  have H3 : Hid (1 < s.data.toList.length → s.data.toList[0]? ≠ some 48) := Lib.hid (fun a b => h1 ⟨by rw [← HL.out]; exact a, by rw [HZ0.out] at b; rw [Option.some.inj b]; rfl⟩)
  have hcase : (s.size < 2 ∧ s[0].toNat < 48) ∨ (s.size < 2 ∧ s[0].toNat = 48) ∨ (s.size < 2 ∧ 48 < s[0].toNat) ∨ (1 < s.size ∧ s[0].toNat < 48) ∨ (1 < s.size ∧ 48 < s[0].toNat) := by omega
  clear h1
  rcases hcase with ⟨h1, h2⟩ | ⟨h1, h2⟩ | ⟨h1, h2⟩ | ⟨h1, h2⟩ | ⟨h1, h2⟩
  all_goals
    first
      | have hq : ((s[0].toNat : Int) == 48) = false := (by rw [beq_eq_false_iff_ne]; omega)
      | have hq : ((s[0].toNat : Int) == 48) = true := (by rw [beq_iff_eq]; omega)
    go_enter Tryz.func109, Tryz.ntmps109
    go_wp2_with (go_at_call 100; refine (l1In_any _ _ _ _).mono ?_; rintro e w' ⟨rfl, rfl⟩; rw [HI.out])
    go_loop [3, 4] (fun n i => ∃ k : Nat, k ≤ s.size ∧ i = .int .i64 k ∧ n = .int .i64 (dval (s.data.toList.take k) : Nat) ∧ (s.data.toList.take k).all isDg = true) (fun _ i => s.size - (RowKit.intOf i).toNat)
    case atStart => exact ⟨0, Nat.zero_le _, rfl, rfl, rfl⟩
    case round =>
      obtain ⟨k, hk2, rfl, rfl, ha⟩ := hrel
      have hv := dval_take hk2 (by omega) ha
      have HA := Lib.hid ha
      clear ha
      by_cases hlt : k < s.size
      · have HZ := Lib.hid (byte_get s k hlt)
        have HD := Lib.hid (dv_snoc HZ.out)
        have hlt' : (k : Int) < (s.size : Int) := by omega
        rcases byte3 s[k].toNat with hc | hc | hc
        · generalize dval (s.data.toList.take k) = v at *
          go_wp2
          go_ret
          exact ⟨ret_i <| rd_none (rn_bad HZ.out (dg_not (.inl hc))), rfl⟩
        · generalize dval (s.data.toList.take k) = v at *
          go_wp2
          go_ret
          exact ⟨ret_i <| rd_none (rn_bad HZ.out (dg_not (.inr hc))), rfl⟩
        · generalize dval (s.data.toList.take k) = v at *
          go_wp2
          go_round
          case rel => exact ⟨k + 1, by omega, by go_num, by rw [HD.out]; go_num, all_snoc HZ.out HA.out (dg_of hc.1 hc.2)⟩
          case measure => simp [RowKit.intOf]; omega
      · obtain rfl : k = s.size := by omega
        have e : s.data.toList.take s.size = s.data.toList := List.take_of_length_le (by rw [HL.out]; exact Nat.le_refl _)
        rw [e] at HA hv ⊢
        have HE := Lib.hid (rn_ok (k := 6) (by rw [HL.out]; omega) (by rw [HL.out]; omega) H3.out HA.out)
        generalize dval s.data.toList = v at *
        go_wp2
        go_ret
        exact ⟨ret_i <| rd_some HE.out, rfl⟩
end Go.Proofs.YtkekpolfdmmgeaaGreatDoor

/- Texts: a text split at a byte, the reference's way. -/
namespace Go.Proofs.YtkekpolfdmmgeaaGreatDoor
set_option linter.unusedVariables false
set_option linter.unusedSimpArgs false
set_option linter.unnecessarySimpa false
open Go.RowKit Go.Lib

theorem splitOn_snoc_ne {b c : UInt8} (hc : c ≠ b) : ∀ {p : List UInt8} {L : List (List UInt8)} {x : List UInt8}, splitOn b p = L ++ [x] → splitOn b (p ++ [c]) = L ++ [x ++ [c]]
  | [], L, x, h => by
    have e : ([[]] : List (List UInt8)) = L ++ [x] := h
    cases L with
    | nil => simp at e; subst e; simp [splitOn, hc]
    | cons y L => simp at e
  | d :: p, L, x, h => by
    by_cases hd : d = b
    · subst hd
      rw [splitOn_cons_eq] at h
      cases L with
      | nil => simp at h; exact absurd h.2 (splitOn_ne _ _)
      | cons y L =>
        simp only [List.cons_append, List.cons.injEq] at h
        obtain ⟨h1, h2⟩ := h
        subst h1
        rw [List.cons_append, splitOn_cons_eq, splitOn_snoc_ne hc h2]
        rfl
    · rw [splitOn_cons_ne hd] at h
      cases hs : splitOn b p with
      | nil => exact absurd hs (splitOn_ne _ _)
      | cons y t =>
        rw [hs, prep] at h
        cases L with
        | nil =>
          simp at h
          obtain ⟨h1, h2⟩ := h
          subst h1 h2
          rw [List.cons_append, splitOn_cons_ne hd, splitOn_snoc_ne (L := []) (x := y) hc (by rw [hs]; rfl)]
          rfl
        | cons z L =>
          simp at h
          obtain ⟨h1, h2⟩ := h
          subst h1 h2
          rw [List.cons_append, splitOn_cons_ne hd, splitOn_snoc_ne (L := y :: L) (x := x) hc (by rw [hs]; rfl)]
          rfl
/-- the piece from a to b -/
def pc (s : ByteArray) (a b : Nat) : List UInt8 := (s.data.toList.take b).drop a
theorem pc_ext (s : ByteArray) (a b : Nat) : s.extract a b = tx (pc s a b) := by
  apply ByteArray.ext
  apply Array.ext'
  unfold pc tx
  simp [List.extract_eq_take_drop, List.drop_take]
theorem pc_size (s : ByteArray) (a b : Nat) (h : b ≤ s.size) : (pc s a b).length = b - a := by
  unfold pc
  rw [List.length_drop, List.length_take, ← size_eq, Nat.min_eq_left h]
theorem pc_snoc {s : ByteArray} {a k : Nat} {c : UInt8} (h : s.data.toList[k]? = some c) (hk : k ≤ s.size) (ha : a ≤ k) : pc s a (k + 1) = pc s a k ++ [c] := by
  unfold pc
  rw [take_snoc h, List.drop_append_of_le_length (by rw [List.length_take, ← size_eq]; omega)]
theorem pc_none (s : ByteArray) (k : Nat) : pc s k k = [] := by
  unfold pc
  exact List.drop_of_length_le (by rw [List.length_take]; omega)
theorem pc_all (s : ByteArray) (a : Nat) : pc s a s.size = s.data.toList.drop a := by
  unfold pc
  rw [List.take_of_length_le (by rw [size_eq]; exact Nat.le_refl _)]
def spB (b : UInt8) (s : ByteArray) : List ByteArray := (splitOn b s.data.toList).map tx
set_option maxRecDepth 100000 in
set_option maxHeartbeats 8000000 in
theorem l1Split_any (s : ByteArray) (b : UInt8) (w : World) (hs : s.size ≤ 1048576) :
    Calls Tryz.prog 70 #[.string s, .int .u8 b.toNat] w fun e w' => ∃ v', e = .returned v' ∧ OwnS w' w.heap.size v' (spB b s) ∧ Kept w w' := by
  have HS := Lib.hid hs
  go_enter Tryz.func70, Tryz.ntmps70
  go_wp2_with fail
  go_loopw [5, 6, 7] (fun s5 s6 s7 wr => ∃ (k a : Nat) (L : List (List UInt8)), k ≤ s.size ∧ a ≤ k ∧ s7 = .int .i64 k ∧ s6 = .int .i64 a ∧ splitOn b (s.data.toList.take k) = L ++ [pc s a k] ∧ OwnS wr w.heap.size s5 (L.map tx) ∧ Kept w wr) (fun _ _ i _ => s.size - (RowKit.intOf i).toNat)
  case atStart => exact ⟨0, 0, [], Nat.zero_le _, Nat.le_refl _, rfl, rfl, rfl, nilS _ _, Kept.refl _⟩
  case round =>
    obtain ⟨k, a, L, hk, ha, rfl, rfl, hsp, ho, hkept⟩ := hrel
    have hll : L.length ≤ k := by
      have h1 := splitOn_length_le b (s.data.toList.take k)
      rw [hsp, List.length_append, List.length_singleton, List.length_take, ← size_eq] at h1
      omega
    have HO := Lib.hid ho
    have HSP := Lib.hid hsp
    have hps : (tx (pc s a k)).size ≤ maxLen := by rw [tx_size, pc_size s a k hk]; unfold maxLen; omega
    have HPS := Lib.hid hps
    clear ho hsp hps
    by_cases hlt : k < s.size
    · have HZ := Lib.hid (byte_get s k hlt)
      have hlt' : (k : Int) < (s.size : Int) := by omega
      by_cases hc : s[k] = b
      · have hcb : s[k].toNat = b.toNat := by rw [hc]
        have HSN : Hid (splitOn b (s.data.toList.take (k + 1)) = (L ++ [pc s a k]) ++ [pc s (k + 1) (k + 1)]) := Lib.hid (by rw [take_snoc HZ.out, hc, splitOn_snoc, HSP.out, pc_none])
        have HC := Lib.hid hc
        have HE := Lib.hid (pc_ext s a k)
        have ha' : (a : Int) ≤ (k : Int) := by omega
        clear hc
        go_wp2_with (at_builtin; refine wpList_append_SL _ rfl _ _ rfl w.heap.size _ (L.map tx) rfl (HO.out.kept ((Kept.refl _).alloc _)) _ [tx (pc s a k)] rfl (by first | (rw [HE.out]; exact strs_box1 (Box.new _ _ _ _ rfl) HPS.out) | exact strs_box1 (HE.out ▸ Box.new _ _ _ _ rfl) HPS.out) (by rw [List.length_map]; simp only [List.length_cons, List.length_nil]; omega) (by have := hkept.size; simp; omega) ?_; intro v3 w3 o3 g3 n3)
        have k3 := (hkept.alloc (.cells #[.string (s.extract a k)] 9)).grew (HO.out.kept ((Kept.refl _).alloc _)).1 g3 (Nat.le_refl _)
        have O3 : Hid (OwnS w3 w.heap.size v3 ((L ++ [pc s a k]).map tx)) := Lib.hid (by rw [List.map_append]; exact o3)
        clear o3 n3 g3
        go_wp2_with fail
        go_roundw
        case rel => exact ⟨k + 1, k + 1, _, by omega, Nat.le_refl _, by go_num, by go_num, HSN.out, O3.out, k3⟩
        case measure => simp [RowKit.intOf]; omega
      · have hcb : ¬ s[k].toNat = b.toNat := fun e => hc (UInt8.toNat_inj.1 e)
        have HSN : Hid (splitOn b (s.data.toList.take (k + 1)) = L ++ [pc s a (k + 1)]) := Lib.hid (by rw [take_snoc HZ.out, splitOn_snoc_ne hc HSP.out, pc_snoc HZ.out hk ha])
        clear hc
        go_wp2_with fail
        go_roundw
        case rel => exact ⟨k + 1, a, L, by omega, by omega, by go_num, rfl, HSN.out, HO.out, hkept⟩
        case measure => simp [RowKit.intOf]; omega
    · obtain rfl : k = s.size := by omega
      have HE := Lib.hid (pc_ext s a s.size)
      have ha' : (a : Int) ≤ (s.size : Int) := by omega
      have HF : Hid ((L.map tx) ++ [tx (pc s a s.size)] = spB b s) := Lib.hid (by
        unfold spB
        have e : s.data.toList.take s.size = s.data.toList := List.take_of_length_le (by rw [size_eq]; exact Nat.le_refl _)
        have h1 := HSP.out
        rw [e] at h1
        rw [h1, List.map_append]
        rfl)
      go_wp2_with (at_builtin; refine wpList_append_SL _ rfl _ _ rfl w.heap.size _ (L.map tx) rfl (HO.out.kept ((Kept.refl _).alloc _)) _ [tx (pc s a s.size)] rfl (by first | (rw [HE.out]; exact strs_box1 (Box.new _ _ _ _ rfl) HPS.out) | exact strs_box1 (HE.out ▸ Box.new _ _ _ _ rfl) HPS.out) (by rw [List.length_map]; simp only [List.length_cons, List.length_nil]; omega) (by have := hkept.size; simp; omega) ?_; intro v3 w3 o3 g3 n3)
      have k3 := (hkept.alloc (.cells #[.string (s.extract a s.size)] 9)).grew (HO.out.kept ((Kept.refl _).alloc _)).1 g3 (Nat.le_refl _)
      rw [HF.out] at o3
      have O3 := Lib.hid o3
      clear o3 n3 g3
      go_wp2_with fail
      go_ret
      exact ⟨_, rfl, O3.out, k3⟩
end Go.Proofs.YtkekpolfdmmgeaaGreatDoor

/- Points: reading their text: plain laws; the reference's side. -/
namespace Go.Proofs.YtkekpolfdmmgeaaGreatDoor
set_option linter.unusedVariables false
set_option linter.unusedSimpArgs false
set_option linter.unnecessarySimpa false
open Go.RowKit Go.Lib

theorem tp_hit {l : List UInt8} (h : l[0]? = some 45) : trimPrefix l [45] = l.drop 1 ∧ hasPrefix l [45] = true := by
  cases l with
  | nil => cases h
  | cons c r =>
    have hc : c = 45 := by simpa using h
    subst hc
    unfold trimPrefix hasPrefix
    simp [List.isPrefixOf]
theorem tp_miss {l : List UInt8} (h : l[0]? ≠ some 45) : trimPrefix l [45] = l ∧ hasPrefix l [45] = false := by
  cases l with
  | nil => exact ⟨rfl, rfl⟩
  | cons c r =>
    have hc : c ≠ 45 := by simpa using h
    have hne : (45 == c) = false := beq_eq_false_iff_ne.2 (Ne.symm hc)
    unfold trimPrefix hasPrefix
    simp [List.isPrefixOf, hne]
def dg2 (p q : UInt8) : Nat := 10 * (p.toNat - 48) + (q.toNat - 48)
theorem pt_shape {l : List UInt8} {n : Int} (hg : ptGood n) (h : ptxt n = l) :
    ∃ u : Nat, u ≤ 1000000 ∧ splitOn 46 (trimPrefix l [45]) = [decDigits (u / 100), [UInt8.ofNat (48 + u / 10 % 10), UInt8.ofNat (48 + u % 10)]] ∧ hasPrefix l [45] = decide (n < 0) ∧ n = if hasPrefix l [45] then -(u : Int) else (u : Int) := by
  subst h
  obtain ⟨h1, h2⟩ := ptxt_sign n
  unfold ptGood at hg
  refine ⟨n.natAbs, by omega, by rw [h1, ptN_split, two_digits], h2, ?_⟩
  rw [h2]
  by_cases hn : n < 0
  · rw [decide_eq_true hn]; simp; omega
  · rw [decide_eq_false hn]; simp; omega
/-- where one of the steps fails, there is no number with the text -/
theorem rd_no {l : List UInt8} (h : ∀ p c d a, splitOn 46 (trimPrefix l [45]) = [p, [c, d]] → readNum 6 p = some a → isDg c = true → isDg d = true → False) : IsRead l 0 false := by
  refine .inr ⟨rfl, rfl, fun n hg e => ?_⟩
  obtain ⟨u, hu, hs, _, _⟩ := pt_shape hg e
  exact h _ _ _ (u / 100) hs (readNum_dec (k := 5) (by omega)) (isDg_of (Nat.mod_lt _ (by decide))) (isDg_of (Nat.mod_lt _ (by decide)))
/-- what the steps compute is the only candidate -/
theorem rd_only {l p : List UInt8} {c d : UInt8} {a : Nat} {n : Int} (hs : splitOn 46 (trimPrefix l [45]) = [p, [c, d]]) (ha : readNum 6 p = some a) (hg : ptGood n) (e : ptxt n = l) :
    n = if hasPrefix l [45] then -((100 * a + dg2 c d : Nat) : Int) else ((100 * a + dg2 c d : Nat) : Int) := by
  obtain ⟨u, hu, hs', _, hn⟩ := pt_shape hg e
  rw [hs] at hs'
  simp only [List.cons.injEq, and_true] at hs'
  obtain ⟨rfl, rfl, rfl⟩ := hs'
  rw [readNum_dec (k := 5) (by omega)] at ha
  have ha := Option.some.inj ha
  have hd : 100 * a + dg2 (UInt8.ofNat (48 + u / 10 % 10)) (UInt8.ofNat (48 + u % 10)) = u := by
    unfold dg2
    rw [toNat_of (Nat.mod_lt _ (by decide)), toNat_of (Nat.mod_lt _ (by decide))]
    omega
  rw [hd]
  exact hn
theorem rd_yes {l p : List UInt8} {c d : UInt8} {a : Nat} {v : Int} (hs : splitOn 46 (trimPrefix l [45]) = [p, [c, d]]) (ha : readNum 6 p = some a)
    (hv : v = if hasPrefix l [45] then -((100 * a + dg2 c d : Nat) : Int) else ((100 * a + dg2 c d : Nat) : Int)) :
    (ptGood v ∧ ptxt v = l → IsRead l v true) ∧ (¬ (ptGood v ∧ ptxt v = l) → IsRead l 0 false) := by
  refine ⟨fun h => .inl ⟨rfl, h.1, h.2⟩, fun h => .inr ⟨rfl, rfl, fun n hg e => ?_⟩⟩
  have := rd_only hs ha hg e
  rw [← hv] at this
  subst this
  exact h ⟨hg, e⟩
theorem rdV_neg {k : Nat} {s : ByteArray} : rdV k s < 0 ↔ readNum k s.data.toList = none := by
  unfold rdV
  cases readNum k s.data.toList with
  | none => simp
  | some n => simp
end Go.Proofs.YtkekpolfdmmgeaaGreatDoor

/- Items in memory. -/
namespace Go.Proofs.YtkekpolfdmmgeaaGreatDoor
set_option linter.unusedVariables false
set_option linter.unusedSimpArgs false
open Go.RowKit

structure ItemD where
  names : List ByteArray
  marks : List Int
  late : Bool
def ItemAt (w : World) (v : Value) (it : ItemD) : Prop := ∃ nv mv, v = .agg #[nv, mv, .bool it.late] ∧ Strs w nv it.names ∧ Ints w mv it.marks
theorem fpA_item (a b : Value) (c : Bool) : fpA (.agg #[a, b, .bool c]) = fp a ++ fp b := by
  simp [fpA, fp, Value.ownBlock]
def OwnT (w : World) (base : Nat) (v : Value) (it : ItemD) : Prop :=
  ∃ nv mv, v = .agg #[nv, mv, .bool it.late] ∧ OwnS w base nv it.names ∧ OwnI w base mv it.marks ∧ (fpA v).Nodup
theorem ItemAt.kept {w w' : World} {v : Value} {it : ItemD} (h : ItemAt w v it) (hk : Kept w w') : ItemAt w' v it := by
  obtain ⟨nv, mv, e, h1, h2⟩ := h
  exact ⟨nv, mv, e, h1.kept hk, h2.kept hk⟩
theorem OwnT.item {w : World} {base : Nat} {v : Value} {it : ItemD} (h : OwnT w base v it) : ItemAt w v it := by
  obtain ⟨nv, mv, e, h1, h2, _⟩ := h
  exact ⟨nv, mv, e, h1.strs, h2.ints⟩
theorem info_item : (Tryz.prog.info? 64).map (fun i => (i.zero, i.size, i.bytes)) = some (some (.agg #[.slice none 0 0, .slice none 0 0, .bool false]), 3, 56) := by kernel_rfl

/-- the three cells of an item -/
def row3 (p : (Value × Value) × ItemD) : List Value := [p.1.1, p.1.2, .bool p.2.late]
def ItemsA (w : World) (A : Option Addr) (its : List ItemD) (cs : List (Value × Value)) : Prop :=
  cs.length = its.length ∧ SeqA w A its.length ((cs.zip its).flatMap row3) ∧ ∀ (k : Nat) (nv mv : Value) (it : ItemD), cs[k]? = some (nv, mv) → its[k]? = some it → Strs w nv it.names ∧ Ints w mv it.marks
def ItemsAt (w : World) (v : Value) (its : List ItemD) : Prop :=
  ∃ cs : List (Value × Value), cs.length = its.length ∧ Seq w v its.length ((cs.zip its).flatMap row3) ∧ ∀ (k : Nat) (nv mv : Value) (it : ItemD), cs[k]? = some (nv, mv) → its[k]? = some it → Strs w nv it.names ∧ Ints w mv it.marks
theorem ItemsAt.kept {w w' : World} {v : Value} {its : List ItemD} (h : ItemsAt w v its) (hk : Kept w w') : ItemsAt w' v its := by
  obtain ⟨cs, e, h1, h2⟩ := h
  exact ⟨cs, e, h1.kept hk, fun k nv mv it q1 q2 => ⟨(h2 k nv mv it q1 q2).1.kept hk, (h2 k nv mv it q1 q2).2.kept hk⟩⟩
theorem ItemsA.kept {w w' : World} {A : Option Addr} {its : List ItemD} {cs : List (Value × Value)} (h : ItemsA w A its cs) (hk : Kept w w') : ItemsA w' A its cs :=
  ⟨h.1, h.2.1.kept hk, fun k nv mv it q1 q2 => ⟨(h.2.2 k nv mv it q1 q2).1.kept hk, (h.2.2 k nv mv it q1 q2).2.kept hk⟩⟩
theorem ItemsAt.out {w : World} {v : Value} {its : List ItemD} (h : ItemsAt w v its) : ∃ A c cs, v = .slice A its.length c ∧ its.length ≤ c ∧ c ≤ maxLen ∧ ItemsA w A its cs := by
  obtain ⟨cs, e, h1, h2⟩ := h
  obtain ⟨A, c, rfl, hnc, hcm, hsa⟩ := h1.out
  exact ⟨A, c, cs, rfl, hnc, hcm, e, hsa, h2⟩
/-- an item of a list, its three cells -/
theorem items_at {w : World} {A : Option Addr} {its : List ItemD} {cs : List (Value × Value)} (hA : ItemsA w A its cs) {k : Nat} (hk : k < its.length) :
    ∃ b o A1 c1 A2 c2 it, A = some ⟨b, o, none⟩ ∧ b < w.heap.size ∧ its[k]? = some it ∧ cs[k]? = some (.slice A1 it.names.length c1, .slice A2 it.marks.length c2) ∧ ItemAt w (.agg #[.slice A1 it.names.length c1, .slice A2 it.marks.length c2, .bool it.late]) it ∧
      w.cell? ⟨b, o + k * 3, none⟩ = some (.slice A1 it.names.length c1) ∧ w.cell? ⟨b, o + k * 3 + 1, none⟩ = some (.slice A2 it.marks.length c2) ∧ w.cell? ⟨b, o + k * 3 + 2, none⟩ = some (.bool it.late) := by
  obtain ⟨hl, h, hc⟩ := hA
  obtain ⟨b, o, e, hb, hcell⟩ := h (by omega)
  have h1 : its[k]? = some its[k] := List.getElem?_eq_getElem hk
  obtain ⟨nv, mv, h2⟩ : ∃ nv mv, cs[k]? = some (nv, mv) := ⟨_, _, List.getElem?_eq_getElem (by omega)⟩
  have h3 := hc k nv mv its[k] h2 h1
  have hz : (cs.zip its)[k]? = some ((nv, mv), its[k]) := by rw [List.getElem?_zip_eq_some]; exact ⟨h2, h1⟩
  have hf := flat_get row3 3 (fun _ => rfl) (cs.zip its) k
  have q0 := hcell (k * 3) nv (by have := hf 0 (by omega); rw [Nat.add_zero, hz] at this; exact this)
  have q1 := hcell (k * 3 + 1) mv (by have := hf 1 (by omega); rw [hz] at this; exact this)
  have q2 := hcell (k * 3 + 2) (.bool its[k].late) (by have := hf 2 (by omega); rw [hz] at this; exact this)
  rw [← Nat.add_assoc] at q1 q2
  have hit : ItemAt w (.agg #[nv, mv, .bool its[k].late]) its[k] := ⟨_, _, rfl, h3.1, h3.2⟩
  obtain ⟨A1, c1, rfl, _⟩ := h3.1.1.out
  obtain ⟨A2, c2, rfl, _⟩ := h3.2.out
  exact ⟨b, o, A1, c1, A2, c2, its[k], e, hb, h1, h2, hit, q0, q1, q2⟩


/-! ### sizes -/
def strsSize (zs : List ByteArray) : Nat := zs.length + (zs.map ByteArray.size).sum
def ItemD.size (it : ItemD) : Nat := strsSize it.names + it.marks.length
def itemsSize (its : List ItemD) : Nat := its.length + (its.map ItemD.size).sum
theorem item_size_le {its : List ItemD} {k : Nat} {it : ItemD} (h : its[k]? = some it) : it.size ≤ itemsSize its := by
  have := mem_le_sum (its.map ItemD.size) it.size (List.mem_map_of_mem (List.mem_of_getElem? h))
  unfold itemsSize
  omega
theorem item_parts (it : ItemD) : it.names.length ≤ it.size ∧ it.marks.length ≤ it.size := by
  unfold ItemD.size strsSize
  omega
/-! ### lists of items that the call owns -/
theorem OwnS.far {w w' : World} {base base' : Nat} {v : Value} {zs : List ByteArray} {S : List Nat} (h : OwnS w base v zs) (ho : Only S w w') (hS : ∀ b ∈ S, b < base) (hb : base' ≤ base) : OwnS w' base' v zs := ⟨own_far h.1 ho hS hb, h.2⟩
def fpL (cs : List (Value × Value)) : List Nat := cs.flatMap fun p => fp p.1 ++ fp p.2
theorem fpL_snoc (cs : List (Value × Value)) (a b : Value) : fpL (cs ++ [(a, b)]) = fpL cs ++ (fp a ++ fp b) := by simp [fpL]
def OwnL (w : World) (base : Nat) (v : Value) (its : List ItemD) (S : List Nat) : Prop :=
  ∃ cs : List (Value × Value), cs.length = its.length ∧ w.ownsRow base 64 3 v its.length ((cs.zip its).flatMap row3) ∧
    (∀ (k : Nat) (nv mv : Value) (it : ItemD), cs[k]? = some (nv, mv) → its[k]? = some it → OwnS w base nv it.names ∧ OwnI w base mv it.marks) ∧ S = fp v ++ fpL cs ∧ S.Nodup ∧ ∀ b ∈ S, base ≤ b ∧ b < w.heap.size
theorem OwnL.items {w : World} {base : Nat} {v : Value} {its : List ItemD} {S : List Nat} (h : OwnL w base v its S) : ItemsAt w v its := by
  obtain ⟨cs, h1, h2, h3, _⟩ := h
  exact ⟨cs, h1, Seq.of_own h2, fun k nv mv it q1 q2 => ⟨(h3 k nv mv it q1 q2).1.strs, (h3 k nv mv it q1 q2).2.ints⟩⟩
theorem mem_fpL {cs : List (Value × Value)} {k : Nat} {nv mv : Value} (h : cs[k]? = some (nv, mv)) {b : Nat} (hb : b ∈ fp nv ∨ b ∈ fp mv) : b ∈ fpL cs := by
  unfold fpL
  rw [List.mem_flatMap]
  exact ⟨(nv, mv), List.mem_of_getElem? h, by simpa using hb⟩
theorem OwnL.only {w w' : World} {base : Nat} {v : Value} {its : List ItemD} {S T : List Nat} (h : OwnL w base v its S) (ho : Only T w w') (hd : ∀ b ∈ S, b ∉ T) : OwnL w' base v its S := by
  obtain ⟨cs, h1, h2, h3, rfl, h5, h6⟩ := h
  refine ⟨cs, h1, own_only h2 ho (fun b hb => hd b (List.mem_append_left _ hb)), fun k nv mv it q1 q2 => ⟨(h3 k nv mv it q1 q2).1.only ho (fun b hb => hd b (List.mem_append_right _ (mem_fpL q1 (.inl hb)))), (h3 k nv mv it q1 q2).2.only ho (fun b hb => hd b (List.mem_append_right _ (mem_fpL q1 (.inr hb))))⟩, rfl, h5, fun b hb => ⟨(h6 b hb).1, Nat.lt_of_lt_of_le (h6 b hb).2 ho.size⟩⟩
theorem OwnL.kept {w w' : World} {base : Nat} {v : Value} {its : List ItemD} {S : List Nat} (h : OwnL w base v its S) (hk : Kept w w') : OwnL w' base v its S := h.only (hk.only []) (fun _ _ => List.not_mem_nil)
theorem set3_take {xs ys : List Value} {k n : Nat} {a b c : Value} (hl : xs.length = n * 3) (hk : k < n) (ht : xs.take (k * 3) = ys) :
    (((xs.set (k * 3) a).set (k * 3 + 1) b).set (k * 3 + 2) c).take ((k + 1) * 3) = ys ++ [a, b, c] := by
  have h1 : k * 3 + 2 < xs.length := by omega
  rw [show (k + 1) * 3 = k * 3 + 2 + 1 from by omega]
  rw [take_snoc (x := c) (by rw [List.getElem?_set_self (by simp; omega)]), List.take_set_of_le (Nat.le_refl _)]
  rw [take_snoc (x := b) (by rw [List.getElem?_set_self (by simp; omega)]), List.take_set_of_le (Nat.le_refl _)]
  rw [take_snoc (x := a) (by rw [List.getElem?_set_self (by omega)]), List.take_set_of_le (Nat.le_refl _), ht]
  simp
theorem zip_snoc {cs : List (Value × Value)} {its : List ItemD} {p : Value × Value} {it : ItemD} (h : its[cs.length]? = some it) : (cs ++ [p]).zip its = cs.zip its ++ [(p, it)] := by
  induction cs generalizing its with
  | nil =>
    cases its with
    | nil => simp at h
    | cons x l => simp at h; simp [h]
  | cons q cs ih =>
    cases its with
    | nil => simp at h
    | cons x l =>
      simp at h
      simp [ih h]
theorem getElem?_snoc {α : Type} {l : List α} {x y : α} {k : Nat} (h : (l ++ [x])[k]? = some y) : (l[k]? = some y) ∨ (k = l.length ∧ x = y) := by
  rcases Nat.lt_trichotomy k l.length with h1 | h1 | h1
  · rw [List.getElem?_append_left h1] at h
    exact .inl h
  · subst h1
    simp at h
    exact .inr ⟨rfl, h⟩
  · rw [List.getElem?_eq_none (by simp; omega)] at h
    cases h
end Go.Proofs.YtkekpolfdmmgeaaGreatDoor

/- Lists of items compared; which items are valid. -/
namespace Go.Proofs.YtkekpolfdmmgeaaGreatDoor
set_option linter.unusedVariables false
set_option linter.unusedSimpArgs false
open Go.RowKit

/-! ### which items are valid -/
def itemB (it : ItemD) : Bool := it.names.all nameB && inB it.names.length 1 3 && (it.marks.length == it.names.length) && it.marks.all (inB · 0 3)
def itemsB (its : List ItemD) : Bool := its.all itemB && decide (its.length ≤ 14)
set_option maxHeartbeats 1000000 in
theorem isItem_any (v : Value) (it : ItemD) (w : World) (h : ItemAt w v it) :
    Calls Tryz.prog 40 #[v] w fun e w' => e = .returned (.bool (itemB it)) ∧ Kept w w' := by
  obtain ⟨nv, mv, rfl, q1, q2⟩ := h
  obtain ⟨A, c, rfl, hnc, hcm, hl⟩ := q1.1.out
  obtain ⟨A2, c2, rfl, hnc2, hcm2, _⟩ := q2.out
  unfold maxLen at hcm hcm2
  have HL := Lib.hid hl
  have HS := Lib.hid q1.2
  have H2 := Lib.hid q2
  clear q1 q2 hl
  go_enter Tryz.func40, Tryz.ntmps40
  go_wp2_with fail
  go_loop [8] (fun i => ∃ k : Nat, k ≤ it.names.length ∧ i = .int .i64 k ∧ (it.names.take k).all nameB = true) (fun i => it.names.length - (intOf i).toNat)
  case atStart => exact ⟨0, Nat.zero_le _, rfl, rfl⟩
  case round =>
    obtain ⟨k, hk, rfl, ha⟩ := hrel
    have HA := Lib.hid ha
    clear ha
    by_cases hlt : k < it.names.length
    · obtain ⟨b, o, z, rfl, hb, hz, hc⟩ := strs_at (HL.out.kept ((Kept.refl w).alloc (.cells #[.slice A it.names.length c, .slice A2 it.marks.length c2, .bool it.late] 64))) hlt
      have hzs := HS.out z (List.mem_of_getElem? hz)
      have HZ := Lib.hid hz
      clear hz
      by_cases hn : nameB z = true
      · go_wp2_with (go_at_call 45; refine (isName_any _ _ hzs).mono ?_; rintro e w' ⟨rfl, rfl⟩)
        go_round
        case rel => exact ⟨k + 1, by omega, by go_num, all_snoc HZ.out HA.out hn⟩
        case measure => simp [intOf]; omega
      · simp only [Bool.not_eq_true] at hn
        go_wp2_with (go_at_call 45; refine (isName_any _ _ hzs).mono ?_; rintro e w' ⟨rfl, rfl⟩)
        go_ret
        exact ⟨ret_bool (by unfold itemB; rw [all_not HZ.out hn]; rfl), (Kept.refl _).alloc _⟩
    · have hall := all_full (p := nameB) (by omega) HA.out
      have HALL := Lib.hid hall
      clear hall
      by_cases h3 : inB it.names.length 1 3 = true <;> by_cases h4 : it.marks.length = it.names.length
      all_goals
        try simp only [Bool.not_eq_true] at h3
        have H4 := Lib.hid h4
        first
          | (have h5 : ((it.marks.length : Int) == (it.names.length : Int)) = true := by simp [h4])
          | (have h5 : ((it.marks.length : Int) == (it.names.length : Int)) = false := beq_eq_false_iff_ne.2 (by omega))
        clear h4
        go_wp2_with (first | (go_at_call 68; refine (within_any _ _ _ _).mono ?_; rintro e w' ⟨rfl, rfl⟩) | (go_at_call 73; refine (allWithin_any _ _ _ _ _ (H2.out.kept ((Kept.refl w).alloc _))).mono ?_; rintro e w' ⟨rfl, rfl⟩))
        go_ret
        exact ⟨ret_bool (by unfold itemB; rw [HALL.out, h3]; simp [H4.out]), (Kept.refl _).alloc _⟩
set_option maxHeartbeats 1000000 in
theorem itGood_any (v : Value) (it : ItemD) (w : World) (h : ItemAt w v it) :
    Calls Tryz.prog 88 #[v] w fun e w' => e = .returned (.bool (itemB it)) ∧ Kept w w' := by
  obtain ⟨nv, mv, rfl, q1, q2⟩ := h
  obtain ⟨A, c, rfl, hnc, hcm, hl⟩ := q1.1.out
  obtain ⟨A2, c2, rfl, hnc2, hcm2, _⟩ := q2.out
  unfold maxLen at hcm hcm2
  have HL := Lib.hid hl
  have HS := Lib.hid q1.2
  have H2 := Lib.hid q2
  clear q1 q2 hl
  go_enter Tryz.func88, Tryz.ntmps88
  go_wp2_with fail
  go_loop [8] (fun i => ∃ k : Nat, k ≤ it.names.length ∧ i = .int .i64 k ∧ (it.names.take k).all nameB = true) (fun i => it.names.length - (intOf i).toNat)
  case atStart => exact ⟨0, Nat.zero_le _, rfl, rfl⟩
  case round =>
    obtain ⟨k, hk, rfl, ha⟩ := hrel
    have HA := Lib.hid ha
    clear ha
    by_cases hlt : k < it.names.length
    · obtain ⟨b, o, z, rfl, hb, hz, hc⟩ := strs_at (HL.out.kept ((Kept.refl w).alloc (.cells #[.slice A it.names.length c, .slice A2 it.marks.length c2, .bool it.late] 64))) hlt
      have hzs := HS.out z (List.mem_of_getElem? hz)
      have HZ := Lib.hid hz
      clear hz
      by_cases hn : nameB z = true
      · go_wp2_with (go_at_call 95; refine (itName_any _ _ hzs).mono ?_; rintro e w' ⟨rfl, rfl⟩)
        go_round
        case rel => exact ⟨k + 1, by omega, by go_num, all_snoc HZ.out HA.out hn⟩
        case measure => simp [intOf]; omega
      · simp only [Bool.not_eq_true] at hn
        go_wp2_with (go_at_call 95; refine (itName_any _ _ hzs).mono ?_; rintro e w' ⟨rfl, rfl⟩)
        go_ret
        exact ⟨ret_bool (by unfold itemB; rw [all_not HZ.out hn]; rfl), (Kept.refl _).alloc _⟩
    · have hall := all_full (p := nameB) (by omega) HA.out
      have HALL := Lib.hid hall
      clear hall
      by_cases h3 : inB it.names.length 1 3 = true <;> by_cases h4 : it.marks.length = it.names.length
      all_goals
        try simp only [Bool.not_eq_true] at h3
        have H4 := Lib.hid h4
        first
          | (have h5 : ((it.marks.length : Int) == (it.names.length : Int)) = true := by simp [h4])
          | (have h5 : ((it.marks.length : Int) == (it.names.length : Int)) = false := beq_eq_false_iff_ne.2 (by omega))
        clear h4
        go_wp2_with (first | (go_at_call 100; refine (l1In_any _ _ _ _).mono ?_; rintro e w' ⟨rfl, rfl⟩) | (go_at_call 101; refine (l1All_any _ _ _ _ _ (H2.out.kept ((Kept.refl w).alloc _))).mono ?_; rintro e w' ⟨rfl, rfl⟩))
        go_ret
        exact ⟨ret_bool (by unfold itemB; rw [HALL.out, h3]; simp [H4.out]), (Kept.refl _).alloc _⟩
set_option maxHeartbeats 1000000 in
theorem areItems_any (v : Value) (its : List ItemD) (w : World) (h : ItemsAt w v its) :
    Calls Tryz.prog 25 #[v] w fun e w' => e = .returned (.bool (itemsB its)) ∧ Kept w w' := by
  obtain ⟨A, c, cs, rfl, hnc, hcm, hA⟩ := h.out
  unfold maxLen at hcm
  have HA := Lib.hid hA
  clear hA h
  go_enter Tryz.func25, Tryz.ntmps25
  go_wp2_with fail
  go_loopw [7] (fun i wr => ∃ k : Nat, k ≤ its.length ∧ i = .int .i64 k ∧ (its.take k).all itemB = true ∧ Kept w wr) (fun i _ => its.length - (intOf i).toNat)
  case atStart => exact ⟨0, Nat.zero_le _, rfl, rfl, Kept.refl _⟩
  case round =>
    obtain ⟨k, hk, rfl, ha, hkept⟩ := hrel
    have HB := Lib.hid ha
    clear ha
    by_cases hlt : k < its.length
    · obtain ⟨b, o, A1, c1, A2, c2, it, rfl, hb, h2, h3, hit, q0, q1, q2⟩ := items_at (HA.out.kept hkept) hlt
      have HI := Lib.hid hit
      have HZ := Lib.hid h2
      clear h2 h3 hit
      by_cases hn : itemB it = true
      · go_wp2_with (go_at_call 40; refine (isItem_any _ it _ (HI.out.kept ((Kept.refl wr).alloc _))).mono ?_; rintro e w1 ⟨rfl, k1⟩)
        go_roundw
        case rel => exact ⟨k + 1, by omega, by go_num, all_snoc HZ.out HB.out hn, (hkept.alloc _).trans k1⟩
        case measure => simp [intOf]; omega
      · simp only [Bool.not_eq_true] at hn
        go_wp2_with (go_at_call 40; refine (isItem_any _ it _ (HI.out.kept ((Kept.refl wr).alloc _))).mono ?_; rintro e w1 ⟨rfl, k1⟩)
        go_ret
        exact ⟨ret_bool (by unfold itemsB; rw [all_not HZ.out hn]; rfl), (hkept.alloc _).trans k1⟩
    · have HALL := Lib.hid (all_full (p := itemB) (by omega) HB.out)
      go_wp2_with fail
      go_ret
      exact ⟨ret_bool (by unfold itemsB; rw [HALL.out, Bool.true_and]; exact decide_eq_decide.2 (by omega)), hkept⟩
set_option maxHeartbeats 1000000 in
theorem itList_any (v : Value) (its : List ItemD) (w : World) (h : ItemsAt w v its) :
    Calls Tryz.prog 79 #[v] w fun e w' => e = .returned (.bool (itemsB its)) ∧ Kept w w' := by
  obtain ⟨A, c, cs, rfl, hnc, hcm, hA⟩ := h.out
  unfold maxLen at hcm
  have HA := Lib.hid hA
  clear hA h
  go_enter Tryz.func79, Tryz.ntmps79
  go_wp2_with fail
  go_loopw [7] (fun i wr => ∃ k : Nat, k ≤ its.length ∧ i = .int .i64 k ∧ (its.take k).all itemB = true ∧ Kept w wr) (fun i _ => its.length - (intOf i).toNat)
  case atStart => exact ⟨0, Nat.zero_le _, rfl, rfl, Kept.refl _⟩
  case round =>
    obtain ⟨k, hk, rfl, ha, hkept⟩ := hrel
    have HB := Lib.hid ha
    clear ha
    by_cases hlt : k < its.length
    · obtain ⟨b, o, A1, c1, A2, c2, it, rfl, hb, h2, h3, hit, q0, q1, q2⟩ := items_at (HA.out.kept hkept) hlt
      have HI := Lib.hid hit
      have HZ := Lib.hid h2
      clear h2 h3 hit
      by_cases hn : itemB it = true
      · go_wp2_with (go_at_call 88; refine (itGood_any _ it _ (HI.out.kept ((Kept.refl wr).alloc _))).mono ?_; rintro e w1 ⟨rfl, k1⟩)
        go_roundw
        case rel => exact ⟨k + 1, by omega, by go_num, all_snoc HZ.out HB.out hn, (hkept.alloc _).trans k1⟩
        case measure => simp [intOf]; omega
      · simp only [Bool.not_eq_true] at hn
        go_wp2_with (go_at_call 88; refine (itGood_any _ it _ (HI.out.kept ((Kept.refl wr).alloc _))).mono ?_; rintro e w1 ⟨rfl, k1⟩)
        go_ret
        exact ⟨ret_bool (by unfold itemsB; rw [all_not HZ.out hn]; rfl), (hkept.alloc _).trans k1⟩
    · have HALL := Lib.hid (all_full (p := itemB) (by omega) HB.out)
      go_wp2_with fail
      go_ret
      exact ⟨ret_bool (by unfold itemsB; rw [HALL.out, Bool.true_and]; exact decide_eq_decide.2 (by omega)), hkept⟩
end Go.Proofs.YtkekpolfdmmgeaaGreatDoor
