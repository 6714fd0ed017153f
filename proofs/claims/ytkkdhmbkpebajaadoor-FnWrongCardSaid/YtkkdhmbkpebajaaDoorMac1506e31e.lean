/- Contracts of functions that the proof leans on. No condition. -/
import Derived.Test.YtkkdhmbkpebajaaDoorMbf190c4133
import Derived.Laws.IdiomCopy
import Derived.Laws.Externs
import Derived.Lib.Overlaps
import Derived.Lib.AppendZerosOnto
import Derived.Lib.SliceRun
import Derived.Deep.RegionLaw
import Derived.Sort.Grow
import Derived.Deep.AppendLies
import Derived.Shelf.Sort.Plain
import Derived.Shelf.Slices.CompactS
import Derived.Test.YtkkdhmbkpebajaaDoorShelf
import Derived.Deep.RegionHeld3
import Derived.Deep.DeepCutAuto
/- append(out, xs...) to rows of the call's own, in the words of the readings. -/
namespace Go.Proofs.YtkkdhmbkpebajaaDoor
set_option linter.unusedVariables false
set_option linter.unusedSimpArgs false
open Go.RowKit

theorem wp_append_S (w : World) {o : Oper} {a : Act} {K : Act → World → Prop} {Q : Exit → Act → World → Prop} (s x : Operand)
    (ho : o.op = .call { callee := .builtin .append, args := #[s, x], argTypes := #[31, 31] })
    (base : Nat) (v : Value) (zs : List ByteArray) (hs : a.eval s = v) (hown : OwnS w base v zs) (u : Value) (ys : List ByteArray) (hx : a.eval x = u) (hr : Strs w u ys)
    (hl : zs.length + ys.length ≤ 16777216) (hbase : base ≤ w.heap.size)
    (h : ∀ v' w', OwnS w' base v' (zs ++ ys) → w.grownBy w' v.ownBlock → K (a.put o.dst v') w') : o.wp Tryd.prog a w K Q := by
  obtain ⟨i0, hi, hz0, hz1, hz2⟩ := info_parts info_str
  refine wp_append_seq w s x 31 ho base 9 i0 _ 1 16 Tryd.underlying31 hi hz0 hz1 hz2 rfl (by omega) v zs.length _ hs hown.1 u ys.length _ hx hr.1 (by simp) ?_ (by unfold maxLen; omega) (by omega) hbase (fun v' w' q1 q2 => h v' w' ?_ q2)
  · intro y hy
    obtain ⟨_, _, rfl⟩ := List.mem_map.1 hy; rfl
  · refine ⟨?_, ?_⟩
    · rw [List.length_append, List.map_append]
      exact q1
    · intro e he
      rcases List.mem_append.1 he with he | he
      · exact hown.2 e he
      · exact hr.2 e he
theorem wpList_append_S (w : World) {ops : Array Oper} {rest : List Oper} {o : Oper} {a : Act} {Q : Exit → Act → World → Prop} (hgd : o.guard = none) (s x : Operand)
    (ho : o.op = .call { callee := .builtin .append, args := #[s, x], argTypes := #[31, 31] })
    (base : Nat) (v : Value) (zs : List ByteArray) (hs : a.eval s = v) (hown : OwnS w base v zs) (u : Value) (ys : List ByteArray) (hx : a.eval x = u) (hr : Strs w u ys)
    (hl : zs.length + ys.length ≤ 16777216) (hbase : base ≤ w.heap.size)
    (h : ∀ v' w', OwnS w' base v' (zs ++ ys) → w.grownBy w' v.ownBlock → wpList Tryd.prog ops Q rest (a.put o.dst v') w') : wpList Tryd.prog ops Q (o :: rest) a w :=
  wpList_plain hgd fun _ hK => wp_append_S w s x ho base v zs hs hown u ys hx hr hl hbase fun v' w' h2 h3 => hK _ _ (h v' w' h2 h3)
theorem step_append_S (w : World) {ops : Array Oper} {o : Oper} {a : Act} {K : Act → World → Prop} {Q : Exit → Act → World → Prop} {E : Prop} (hgd : o.guard = none) (s x : Operand)
    (ho : o.op = .call { callee := .builtin .append, args := #[s, x], argTypes := #[31, 31] })
    (base : Nat) (v : Value) (zs : List ByteArray) (hs : a.eval s = v) (hown : OwnS w base v zs) (u : Value) (ys : List ByteArray) (hx : a.eval x = u) (hr : Strs w u ys)
    (hl : zs.length + ys.length ≤ 16777216) (hbase : base ≤ w.heap.size)
    (h : ∀ v' w', OwnS w' base v' (zs ++ ys) → w.grownBy w' v.ownBlock → K (a.put o.dst v') w') :
    if Region.wanted o (yielded ops a.tmps) = true then Oper.wp Tryd.prog o a w K Q else E := by
  have hw : Region.wanted o (yielded ops a.tmps) = true := by simp [Region.wanted, hgd]
  rw [if_pos hw]
  exact wp_append_S w s x ho base v zs hs hown u ys hx hr hl hbase h
end Go.Proofs.YtkkdhmbkpebajaaDoor

/- Rows of elements of several cells: what copy, clear and the library's Delete and Insert do to a block that is known whole. -/
namespace Go.Proofs.YtkkdhmbkpebajaaDoor
set_option linter.unusedVariables false
set_option linter.unusedSimpArgs false
open Go.RowKit

/-- cells written one after the other -/
def sets : Array Value → Nat → List Value → Array Value
  | cs, _, [] => cs
  | cs, o, v :: r => sets (cs.setIfInBounds o v) (o + 1) r
theorem Box.sets {b : Nat} {t : TypeId} : ∀ (vs : List Value) (o : Nat) (w : World) (cs : Array Value), Box w b t cs → Box (w.setCells b o vs) b t (sets cs o vs)
  | [], _, _, _, h => h
  | v :: r, o, w, cs, h => Box.sets r (o + 1) _ _ (h.set o v)
theorem only_sets (b : Nat) : ∀ (vs : List Value) (o : Nat) (w : World), Only [b] w (w.setCells b o vs)
  | [], _, w => Only.refl _ w
  | v :: r, o, w => (Only.setCell (Only.refl [b] w) (p := ⟨b, o, none⟩) (by simp) v).trans (only_sets b r (o + 1) _)
theorem sets_size : ∀ (vs : List Value) (o : Nat) (cs : Array Value), (sets cs o vs).size = cs.size
  | [], _, _ => rfl
  | v :: r, o, cs => by rw [sets, sets_size r]; simp
theorem sets_toList : ∀ (vs : List Value) (o : Nat) (cs : Array Value), o + vs.length ≤ cs.size → (sets cs o vs).toList = cs.toList.take o ++ vs ++ cs.toList.drop (o + vs.length)
  | [], o, cs, h => by simp [sets]
  | v :: r, o, cs, h => by
    have hlt : o < cs.toList.length := by simp at h ⊢; omega
    rw [sets, sets_toList r (o + 1) _ (by simp at h ⊢; omega)]
    simp only [Array.toList_setIfInBounds]
    rw [List.take_set, List.take_succ_eq_append_getElem hlt, List.set_append_right _ _ (by rw [List.length_take]; omega), List.length_take_of_le (by omega), Nat.sub_self]
    rw [List.drop_set_of_lt (by omega)]
    simp only [List.set_cons_zero, List.append_assoc, List.cons_append, List.nil_append, List.length_cons]
    rw [show o + 1 + r.length = o + (r.length + 1) from by omega]
theorem sets_take {cs : Array Value} {o m : Nat} {vs : List Value} (h : o + vs.length ≤ cs.size) (hm : m ≤ o) : (sets cs o vs).toList.take m = cs.toList.take m := by
  have hl : cs.toList.length = cs.size := by simp
  rw [sets_toList _ _ _ h, List.append_assoc, List.take_append_of_le_length (by rw [List.length_take]; omega), List.take_take, Nat.min_eq_left hm]
theorem sets_full {cs : Array Value} {o m : Nat} {vs : List Value} (h : o + vs.length ≤ cs.size) (hm : m = o + vs.length) : (sets cs o vs).toList.take m = cs.toList.take o ++ vs := by
  have hl : cs.toList.length = cs.size := by simp
  rw [sets_toList _ _ _ h, List.take_left' (by rw [List.length_append, List.length_take]; omega)]
theorem sets_drop {cs : Array Value} {o : Nat} {vs : List Value} (h : o + vs.length ≤ cs.size) : (sets cs o vs).toList.drop o = vs ++ cs.toList.drop (o + vs.length) := by
  have hl : cs.toList.length = cs.size := by simp
  rw [sets_toList _ _ _ h, List.append_assoc, List.drop_left' (by rw [List.length_take]; omega)]
theorem only_drew_sets (b : Nat) (vs : List Value) (o : Nat) (w : World) : Only [b] w (w.drew.setCells b o vs) := (Only.drewN (Only.refl [b] w) 1).trans (only_sets b vs o w.drew)
theorem own_box {w : World} {base : Nat} {e : TypeId} {size n cap g : Nat} {xs : List Value} (h : w.ownsRow base e size (.slice (some ⟨g, 0, none⟩) n cap) n xs) :
    ∃ cur, Box w g e cur ∧ n ≤ cap ∧ cap ≤ maxLen ∧ cur.size = cap * size ∧ cur.toList.take (n * size) = xs := by
  rcases h.2 with ⟨h, _⟩ | ⟨g', cap', cur, e1, _, hb, h1, h2, h3, h4⟩
  · cases h
  · injection e1 with e1 e2 e3
    injection e1 with e1
    injection e1 with e1
    subst e1 e3
    exact ⟨cur, hb, h1, h2, h3, h4⟩
theorem own_of_box {w : World} {base : Nat} {e : TypeId} {size n cap g : Nat} {xs : List Value} {cur : Array Value} (hb : Box w g e cur) (hg : base ≤ g) (h1 : n ≤ cap) (h2 : cap ≤ maxLen) (h3 : cur.size = cap * size) (h4 : cur.toList.take (n * size) = xs) :
    w.ownsRow base e size (.slice (some ⟨g, 0, none⟩) n cap) n xs := by
  refine ⟨?_, .inr ⟨g, cap, cur, rfl, hg, hb, h1, h2, h3, h4⟩⟩
  rw [← h4, List.length_take]
  have : cur.toList.length = cap * size := by simpa using h3
  rw [this, Nat.min_eq_left (Nat.mul_le_mul_right _ h1)]
theorem Box.some {w : World} {b : Nat} {t : TypeId} {cs : Array Value} (h : Box w b t cs) {j : Nat} (hj : j < cs.size) : (w.cell? ⟨b, j, none⟩).isSome = true := by
  rw [h.cell j, Array.getElem?_eq_getElem hj]
  rfl
theorem Box.at_ {w : World} {b : Nat} {t : TypeId} {cs : Array Value} (h : Box w b t cs) {j : Nat} {v : Value} (hj : cs.toList[j]? = Option.some v) : w.cell? ⟨b, j, none⟩ = Option.some v := by
  rw [h.cell j, ← Array.getElem?_toList]
  exact hj
theorem add_lit (b o j : Nat) : (⟨b, o, none⟩ : Addr).add j = ⟨b, o + j, none⟩ := by unfold Addr.add; split <;> simp_all

/-- copy(d, s), elements of several cells -/
theorem run_copyN {P : Program} (w : World) (dT sT ty elem : TypeId) (size : Nat) (b o dLen dCap : Nat) (a : Addr) (sLen sCap m : Nat) (cs : List Value)
    (hu : P.underlying dT = some (.slice elem)) (hs : (P.info? elem).map (·.size) = some size) (hm : Nat.min sLen dLen = m) (hn : cs.length = m * size)
    (hsrc : ∀ j v, cs[j]? = some v → w.cell? (a.add j) = some v) (hc : ∀ j, j < cs.length → (w.cell? ⟨b, o + j, none⟩).isSome = true) (hf : ∀ j, j < cs.length → w.frozen? ⟨b, o + j, none⟩ = false) (h1 : ∀ v ∈ cs, v.oneCell' = true) :
    (Builtin.copy_ #[dT, sT] ty #[.slice (some ⟨b, o, none⟩) dLen dCap, .slice (some a) sLen sCap]).run P w = .ok (goInt m) (w.setCells b o cs) := by
  have hl := run_loadCells_list (P := P) w a cs hsrc
  have hst := run_storeCells_cells (P := P) b o cs 0 w (by simpa using hc) (by simpa using hf) h1
  cases hq : P.info? elem with
  | none => simp [hq] at hs
  | some i =>
    have hi : i.size = size := by simpa [hq] using hs
    simp [Builtin.copy_, run_underlying hu, Builtin.lenOf, Builtin.firstCells, sizeOf, typeInfo, hq, hi, hm, ← hn, hl, hst]
theorem wp_copy_run {P : Program} (w : World) {o : Oper} {a : Act} {K : Act → World → Prop} {Q : Exit → Act → World → Prop} (d s : Operand) (t t' : TypeId)
    (ho : o.op = .call { callee := .builtin .copy, args := #[d, s], argTypes := #[t, t'] }) (v u : Value) (hd : a.eval d = v) (hs : a.eval s = u) {v' : Value} {w' : World}
    (hr : (Builtin.copy_ #[t, t'] o.type #[v, u]).run P w = .ok v' w') (h : K (a.put o.dst v') w') : o.wp P a w K Q := by
  unfold Oper.wp execOp
  simp only [ho, resolve, invoke, builtin, Sem.run_bind, Sem.run_pure, Result.andThen_ok, List.map_toArray, List.map_cons, List.map_nil, hd, hs, hr]
  exact h
theorem wpList_copy_run {P : Program} (w : World) {ops : Array Oper} {rest : List Oper} {o : Oper} {a : Act} {Q : Exit → Act → World → Prop} (hgd : o.guard = none) (d s : Operand) (t t' : TypeId)
    (ho : o.op = .call { callee := .builtin .copy, args := #[d, s], argTypes := #[t, t'] }) (v u : Value) (hd : a.eval d = v) (hs : a.eval s = u) {v' : Value} {w' : World}
    (hr : (Builtin.copy_ #[t, t'] o.type #[v, u]).run P w = .ok v' w') (h : wpList P ops Q rest (a.put o.dst v') w') : wpList P ops Q (o :: rest) a w :=
  wpList_plain hgd fun _ hK => wp_copy_run w d s t t' ho v u hd hs hr (hK _ _ h)
theorem step_copy_run {P : Program} {ops : Array Oper} {o : Oper} {a : Act} {w : World} {K : Act → World → Prop} {Q : Exit → Act → World → Prop} {E : Prop}
    (hg : o.guard = none) (d x : Operand) (dT sT : TypeId) (hop : o.op = Op.call { callee := Callee.builtin Builtin.copy, args := #[d, x], argTypes := #[dT, sT] })
    (v u : Value) (hd : a.eval d = v) (hx : a.eval x = u) {v' : Value} {w' : World} (hr : (Builtin.copy_ #[dT, sT] o.type #[v, u]).run P w = .ok v' w') (hK : K (a.put o.dst v') w') :
    if Region.wanted o (yielded ops a.tmps) = true then Oper.wp P o a w K Q else E := by
  have hw : Region.wanted o (yielded ops a.tmps) = true := by simp [Region.wanted, hg]
  rw [if_pos hw]
  exact wp_copy_run w d x dT sT hop v u hd hx hr hK
/-- clear(s), one element of several cells -/
theorem run_clear1 {P : Program} (w : World) (t e ty : TypeId) (z : Value) (ht : P.underlying t = some (.slice e)) (hv : ∀ w, (zeroValue e).run P w = .ok z w) (b o c : Nat) (hz : (Builtin.zeroCells z.cells 1).toList = z.cells.toList) (h1 : ∀ v ∈ z.cells.toList, v.oneCell' = true)
    (hc : ∀ j, j < z.cells.toList.length → (w.cell? ⟨b, o + j, none⟩).isSome = true) (hf : ∀ j, j < z.cells.toList.length → w.frozen? ⟨b, o + j, none⟩ = false) :
    (Builtin.clear_ #[t] ty #[.slice (some ⟨b, o, none⟩) 1 c]).run P w = .ok (.tuple #[]) (w.setCells b o z.cells.toList) := by
  have hst := run_storeCells_cells (P := P) b o z.cells.toList 0 w (by simpa using hc) (by simpa using hf) h1
  simp only [Nat.add_zero] at hst
  simp [Builtin.clear_, run_underlying ht, hv, hz, hst]
end Go.Proofs.YtkkdhmbkpebajaaDoor

/- Rows of numbers and of strings: the words for 'append(append(append([]T{}, l[:k]...), x), l[k:]...)'. -/
namespace Go.Proofs.YtkkdhmbkpebajaaDoor
set_option linter.unusedVariables false
set_option linter.unusedSimpArgs false
open Go.RowKit

theorem seq_to {w : World} {A : Option Addr} {n c : Nat} {xs : List Value} (h : Seq w (.slice A n c) n xs) {i : Nat} (hi : i ≤ n) : Seq w (.slice A i c) i (xs.take i) := by
  obtain ⟨A', c', e, h1, h2, h3, h4⟩ := h
  injection e with e1 e2 e3
  subst e1 e3
  refine ⟨A, c, rfl, by omega, h2, h3, fun hp => ?_⟩
  obtain ⟨b, o, e1, hb, hc⟩ := h4 (by omega)
  refine ⟨b, o, e1, hb, fun j u hu => hc j u ?_⟩
  rw [List.getElem?_take] at hu
  split at hu
  · exact hu
  · cases hu
theorem seq_from {w : World} {b o n c : Nat} {xs : List Value} (h : Seq w (.slice (some ⟨b, o, none⟩) n c) n xs) {k : Nat} (hk : k ≤ n) : Seq w (.slice (some ⟨b, o + k, none⟩) (n - k) (c - k)) (n - k) (xs.drop k) := by
  obtain ⟨A', c', e, h1, h2, h3, h4⟩ := h
  injection e with e1 e2 e3
  subst e1 e3
  refine ⟨_, c - k, rfl, by omega, by unfold maxLen at *; omega, (fun h => by cases h), fun hp => ?_⟩
  obtain ⟨b', o', e1, hb, hc⟩ := h4 (by omega)
  injection e1 with e1
  injection e1 with e1 e2
  subst e1 e2
  refine ⟨b, o + k, rfl, hb, fun j u hu => ?_⟩
  rw [List.getElem?_drop] at hu
  rw [Nat.add_assoc]
  exact hc _ u hu
theorem seq_none {w : World} {A : Option Addr} {xs : List Value} {k : Nat} (hk : xs.length ≤ k) : Seq w (.slice A 0 0) 0 (xs.drop k) := by
  rw [List.drop_of_length_le hk]
  exact ⟨A, 0, rfl, Nat.le_refl _, Nat.zero_le _, fun _ => rfl, fun h => absurd h (by simp)⟩
theorem seq_one {w : World} {g : Nat} {t : TypeId} {u : Value} (h : Box w g t #[u]) : Seq w (.slice (some ⟨g, 0, none⟩) 1 1) 1 [u] := by
  refine ⟨_, 1, rfl, Nat.le_refl _, by unfold maxLen; omega, (fun h => by cases h), fun _ => ⟨g, 0, rfl, h.lt, fun j v hv => ?_⟩⟩
  cases j with
  | zero =>
    have e : v = u := by simpa using hv.symm
    subst e
    exact h.cell 0
  | succ j => simp at hv
theorem ints_to {w : World} {A : Option Addr} {n c : Nat} {zs : List Int} (h : Ints w (.slice A n c) zs) (hn : zs.length = n) {i : Nat} (hi : i ≤ n) : Ints w (.slice A i c) (zs.take i) := by
  unfold Ints
  rw [List.length_take, hn, Nat.min_eq_left hi, List.map_take]
  unfold Ints at h
  rw [hn] at h
  exact seq_to h hi
theorem ints_from {w : World} {b o n c : Nat} {zs : List Int} (h : Ints w (.slice (some ⟨b, o, none⟩) n c) zs) (hn : zs.length = n) {k : Nat} (hk : k ≤ n) : Ints w (.slice (some ⟨b, o + k, none⟩) (n - k) (c - k)) (zs.drop k) := by
  unfold Ints
  rw [List.length_drop, hn, List.map_drop]
  unfold Ints at h
  rw [hn] at h
  exact seq_from h hk
theorem ints_none {w : World} {A : Option Addr} {zs : List Int} {k : Nat} (hk : zs.length ≤ k) : Ints w (.slice A 0 0) (zs.drop k) := by
  unfold Ints
  rw [List.length_drop, Nat.sub_eq_zero_of_le hk, List.map_drop]
  exact seq_none (by simpa using hk)
theorem ints_box1 {w : World} {g : Nat} {z : Int} (h : Box w g 3 #[.int .i64 z]) : Ints w (.slice (some ⟨g, 0, none⟩) 1 1) [z] := seq_one h
theorem step_put_I (a0 w : World) {ops : Array Oper} {o : Oper} {a : Act} {K : Act → World → Prop} {Q : Exit → Act → World → Prop} {E : Prop} (hgd : o.guard = none) (s x : Operand)
    (ho : o.op = .call { callee := .builtin .append, args := #[s, x], argTypes := #[32, 32] })
    (v : Value) (zs : List Int) (hs : a.eval s = v) (hown : OwnI w a0.heap.size v zs) (hk : Kept a0 w) (u : Value) (ys : List Int) (hx : a.eval x = u) (hr : Ints w u ys)
    (hl : zs.length + ys.length ≤ 16777216)
    (h : ∀ v' w', OwnI w' a0.heap.size v' (zs ++ ys) → Kept a0 w' → Only (fp v) w w' → K (a.put o.dst v') w') :
    if Region.wanted o (yielded ops a.tmps) = true then Oper.wp Tryd.prog o a w K Q else E :=
  step_append_I w hgd s x ho a0.heap.size v zs hs hown u ys hx hr hl hk.size fun v' w' h2 h3 =>
    h v' w' h2 ((only_of_grown h3).above hk (fun b hb => (own_fp hown b hb).1)) (only_of_grown h3)
theorem own0_I {w : World} {base g : Nat} (hg : base ≤ g) (h : Box w g 3 #[]) : OwnI w base (.slice (some ⟨g, 0, none⟩) 0 0) [] := own_made _ _ _ hg h
theorem strs_to {w : World} {A : Option Addr} {n c : Nat} {zs : List ByteArray} (h : Strs w (.slice A n c) zs) (hn : zs.length = n) {i : Nat} (hi : i ≤ n) : Strs w (.slice A i c) (zs.take i) := by
  refine ⟨?_, fun z hz => h.2 z (List.mem_of_mem_take hz)⟩
  rw [List.length_take, hn, Nat.min_eq_left hi, List.map_take]
  have h1 := h.1
  rw [hn] at h1
  exact seq_to h1 hi
theorem strs_from {w : World} {b o n c : Nat} {zs : List ByteArray} (h : Strs w (.slice (some ⟨b, o, none⟩) n c) zs) (hn : zs.length = n) {k : Nat} (hk : k ≤ n) : Strs w (.slice (some ⟨b, o + k, none⟩) (n - k) (c - k)) (zs.drop k) := by
  refine ⟨?_, fun z hz => h.2 z (List.mem_of_mem_drop hz)⟩
  rw [List.length_drop, hn, List.map_drop]
  have h1 := h.1
  rw [hn] at h1
  exact seq_from h1 hk
theorem strs_none {w : World} {A : Option Addr} {zs : List ByteArray} {k : Nat} (hk : zs.length ≤ k) : Strs w (.slice A 0 0) (zs.drop k) := by
  refine ⟨?_, fun z hz => by rw [List.drop_of_length_le hk] at hz; cases hz⟩
  rw [List.length_drop, Nat.sub_eq_zero_of_le hk, List.map_drop]
  exact seq_none (by simpa using hk)
theorem strs_box1 {w : World} {g : Nat} {z : ByteArray} (h : Box w g 9 #[.string z]) (hz : z.size ≤ maxLen) : Strs w (.slice (some ⟨g, 0, none⟩) 1 1) [z] := ⟨seq_one h, fun y hy => by rw [List.mem_singleton] at hy; subst hy; exact hz⟩
theorem step_put_S (a0 w : World) {ops : Array Oper} {o : Oper} {a : Act} {K : Act → World → Prop} {Q : Exit → Act → World → Prop} {E : Prop} (hgd : o.guard = none) (s x : Operand)
    (ho : o.op = .call { callee := .builtin .append, args := #[s, x], argTypes := #[31, 31] })
    (v : Value) (zs : List ByteArray) (hs : a.eval s = v) (hown : OwnS w a0.heap.size v zs) (hk : Kept a0 w) (u : Value) (ys : List ByteArray) (hx : a.eval x = u) (hr : Strs w u ys)
    (hl : zs.length + ys.length ≤ 16777216)
    (h : ∀ v' w', OwnS w' a0.heap.size v' (zs ++ ys) → Kept a0 w' → Only (fp v) w w' → K (a.put o.dst v') w') :
    if Region.wanted o (yielded ops a.tmps) = true then Oper.wp Tryd.prog o a w K Q else E :=
  step_append_S w hgd s x ho a0.heap.size v zs hs hown u ys hx hr hl hk.size fun v' w' h2 h3 =>
    h v' w' h2 ((only_of_grown h3).above hk (fun b hb => (own_fp hown.1 b hb).1)) (only_of_grown h3)
theorem own0_S {w : World} {base g : Nat} (hg : base ≤ g) (h : Box w g 9 #[]) : OwnS w base (.slice (some ⟨g, 0, none⟩) 0 0) [] := ⟨own_made _ _ _ hg h, fun _ h => by cases h⟩
end Go.Proofs.YtkkdhmbkpebajaaDoor

/- Rows that the library sorts in place; copies with where they lie. -/
namespace Go.Proofs.YtkkdhmbkpebajaaDoor
set_option linter.unusedVariables false
set_option linter.unusedSimpArgs false
open Go.RowKit

theorem own_lt {w : World} {base g cap n : Nat} {e : TypeId} {xs : List Value} (h : w.ownsRow base e 1 (.slice (some ⟨g, 0, none⟩) n cap) n xs) : g < w.heap.size := by
  rcases h.2 with ⟨e1, _⟩ | ⟨g', cap', cur, e1, hb, hg, _⟩
  · cases e1
  · injection e1 with e1
    injection e1 with e1
    injection e1 with e1
    subst e1
    exact (Array.getElem?_eq_some_iff.1 hg).1
theorem holds_own {α : Type} [Inhabited α] {enc : α → Value} {w : World} {base g cap : Nat} {e : TypeId} {zs : List α} (h : w.ownsRow base e 1 (.slice (some ⟨g, 0, none⟩) zs.length cap) zs.length (zs.map enc)) : Go.Sort.Holds enc w g 0 zs.toArray := by
  intro j hj
  have hj' : j < zs.length := by simpa using hj
  rcases h.2 with ⟨e1, _⟩ | ⟨g', cap', cur, e1, hb, hg, _⟩
  · cases e1
  · injection e1 with e1
    injection e1 with e1
    injection e1 with e1
    subst e1
    refine ⟨?_, ?_⟩
    · rw [Nat.zero_add, h.cellAt j (by omega), List.getElem?_map, List.getElem?_eq_getElem hj']
      simp [hj']
    · simp [World.frozen?, hg]
theorem putRow_own {α : Type} [Inhabited α] (enc : α → Value) {w : World} {base g cap n : Nat} {e : TypeId} {xs : List Value} (h : w.ownsRow base e 1 (.slice (some ⟨g, 0, none⟩) n cap) n xs) {ys : List α} (hl : ys.length = n) (m : Nat) (os : Array Obj) :
    (Go.Sort.grow (Go.Sort.putRow enc (Go.Sort.ahead w m) g 0 ys.toArray) os).ownsRow base e 1 (.slice (some ⟨g, 0, none⟩) n cap) n (ys.map enc) ∧ Only [g] w (Go.Sort.grow (Go.Sort.putRow enc (Go.Sort.ahead w m) g 0 ys.toArray) os) := by
  rcases h.2 with ⟨e1, _⟩ | ⟨g', cap', cur, e1, hb, hg, hnc, hcm, hcs, ht⟩
  · cases e1
  · injection e1 with e1 e2 e3
    injection e1 with e1
    injection e1 with e1
    subst e1 e3
    have hlt : g < w.heap.size := (Array.getElem?_eq_some_iff.1 hg).1
    have hnew : (Go.Sort.grow (Go.Sort.putRow enc (Go.Sort.ahead w m) g 0 ys.toArray) os).heap[g]? = some (.cells (Go.Sort.putCells enc 0 ys.toArray cur) e (0, 0)) := by
      rw [Go.Sort.heap_grow_old _ _ (by simpa using hlt)]
      simp [Go.Sort.putRow, Go.Sort.mapBlock, Array.getElem?_modify, hg, Go.Sort.onCells]
    refine ⟨⟨by simp [hl], .inr ⟨g, cap, _, rfl, hb, hnew, hnc, hcm, by simp [Go.Sort.putCells]; simpa using hcs, ?_⟩⟩, ?_⟩
    · apply List.ext_getElem?
      intro j
      rw [List.getElem?_take]
      by_cases hj : j < n
      · rw [if_pos (by omega), Array.getElem?_toList]
        have hjc : j < cur.size := by omega
        simp [Go.Sort.putCells, Array.getElem?_mapIdx, hjc, hl, hj]
      · rw [if_neg (by omega), List.getElem?_eq_none (by simp [hl]; omega)]
    · refine ⟨rfl, rfl, rfl, by simp [Go.Sort.grow, Go.Sort.putRow, Go.Sort.mapBlock], fun i hi hn => ?_⟩
      rw [Go.Sort.heap_grow_old _ _ (by simpa using hi)]
      have hne : g ≠ i := fun e => hn (by simp [e])
      simp [Go.Sort.putRow, Go.Sort.mapBlock, Array.getElem?_modify, hne]
theorem run_append_locG {P : Program} (w : World) (base : Nat) (t ty e : TypeId) (i : TypeInfo) (z : Value) (size bytes : Nat) (ht : P.underlying t = some (.slice e)) (hi : P.info? e = some i) (hz : i.zero = some z)
    (hsize : i.size = size) (hby : i.bytes = bytes) (hzs : z.cells.size = size) (hsz : 0 < size)
    (v : Value) (n : Nat) (xs : List Value) (hown : w.ownsRow base e size v n xs)
    (u : Value) (m : Nat) (news : List Value) (hr : Seq w u m news) (hl : news.length = m * size) (h1 : ∀ y ∈ news, y.oneCell' = true)
    (h63 : n + m ≤ maxLen) (hbytes : (n + m) * bytes ≤ 140737488355328) (hbase : base ≤ w.heap.size) :
    ∃ v' w', (Builtin.append_ #[t, t] ty #[v, u]).run P w = .ok v' w' ∧ w'.ownsRow base e size v' (n + m) (xs ++ news) ∧ w.grownBy w' v.ownBlock ∧ (v'.ownBlock = v.ownBlock ∨ v'.ownBlock = some w.heap.size) := by
  obtain ⟨A, c, rfl, hnc, hcm, hA, hc⟩ := hr
  rcases A with _ | ad
  · obtain rfl := hA rfl
    obtain rfl : m = 0 := by omega
    obtain rfl : news = [] := List.eq_nil_of_length_eq_zero (by simpa using hl)
    exact ⟨v, w, run_append_of_nil w base t ty e i size ht hi v n xs hown 0, by simpa using hown, World.grownBy.refl w _, .inl rfl⟩
  · have hcells : ∀ j y, news[j]? = some y → w.cell? (ad.add j) = some y := by
      intro j y hy
      have hm : 0 < m := by
        rcases Nat.eq_zero_or_pos m with h0 | h0
        · subst h0
          have : news = [] := List.eq_nil_of_length_eq_zero (by simpa using hl)
          subst this
          simp at hy
        · exact h0
      obtain ⟨b, o', e1, hb, hcell⟩ := hc hm
      injection e1 with e1
      subst e1
      have := hcell j y hy
      rwa [show (⟨b, o', none⟩ : Addr).add j = ⟨b, o' + j, none⟩ from by unfold Addr.add; split <;> simp_all]
    obtain ⟨v', w', hrun, h2, h3, _, h5⟩ := run_append_own_at (P := P) w base t ty e i z size bytes ht hi hz hsize hby hzs hsz v n xs hown ad m c news hl hcells h1 h63 hbytes hbase
    exact ⟨v', w', hrun, h2, h3, h5⟩
end Go.Proofs.YtkkdhmbkpebajaaDoor

/- Items: slices.Sort and slices.Compact at rows of strings; NamesIn, both sides. -/
namespace Go.Proofs.YtkkdhmbkpebajaaDoor
set_option linter.unusedVariables false
set_option linter.unusedSimpArgs false
open Go.RowKit Go.Lib Go.Sort

theorem ownS_cases {w : World} {base : Nat} {v : Value} {zs : List ByteArray} (h : OwnS w base v zs) : (v = .slice none 0 0 ∧ zs = []) ∨ ∃ g cap, v = .slice (some ⟨g, 0, none⟩) zs.length cap ∧ zs.length ≤ cap ∧ cap ≤ maxLen := by
  rcases h.1.2 with ⟨e1, e2⟩ | ⟨g, cap, cur, e1, _, _, e4, e5, _⟩
  · exact .inl ⟨e1, List.eq_nil_of_length_eq_zero e2⟩
  · exact .inr ⟨g, cap, e1, e4, e5⟩
theorem own_shrink {w : World} {base g cap n m : Nat} {e : TypeId} {xs : List Value} (h : w.ownsRow base e 1 (.slice (some ⟨g, 0, none⟩) n cap) n xs) (hm : m ≤ n) : w.ownsRow base e 1 (.slice (some ⟨g, 0, none⟩) m cap) m (xs.take m) := by
  obtain ⟨hl, h2⟩ := h
  rcases h2 with ⟨e1, _⟩ | ⟨g', cap', cur, e1, hb, hg, hnc, hcm, hcs, ht⟩
  · cases e1
  · injection e1 with e1 e2 e3
    injection e1 with e1
    injection e1 with e1
    subst e1 e3
    refine ⟨by rw [List.length_take, hl]; omega, .inr ⟨g, cap, cur, rfl, hb, hg, by omega, hcm, hcs, ?_⟩⟩
    rw [← ht, List.take_take]
    congr 1
    omega
theorem enc_bl (zs : List ByteArray) : (zs.map bl).map encStr = zs.map Value.string := by
  rw [List.map_map]
  exact List.map_congr_left fun z _ => congrArg Value.string (bs_bl z)
theorem enc_bs (ls : List LB) : ls.map encStr = (ls.map bs).map Value.string := by
  rw [List.map_map]
  rfl
theorem names_len {zs : List LB} : (compact zs).length ≤ zs.length := by
  unfold compact compactUpTo
  rw [List.length_map]
  exact Nat.le_trans (List.length_filter_le _ _) (by simp)
theorem ret_vbN {v : Value} {b b' : Bool} (h : b = b') : Ending.returned (.tuple #[v, .bool b]) = .returned (.tuple #[v, .bool b']) := by rw [h]
theorem nilS (w : World) (base : Nat) : OwnS w base (.slice none 0 0) [] := ⟨⟨by simp, .inl ⟨rfl, rfl⟩⟩, fun _ h => by cases h⟩
theorem OwnS.base {w : World} {base base' : Nat} {v : Value} {zs : List ByteArray} (h : OwnS w base v zs) (hb : base' ≤ base) : OwnS w base' v zs := ⟨own_base h.1 hb, h.2⟩
theorem Only.above' {g : Nat} {a0 a b : World} (h : Only [g] a b) (k : Kept a0 a) (hg : a0.heap.size ≤ g) : Kept a0 b :=
  h.above k (fun x hx => by rw [List.mem_singleton] at hx; subst hx; exact hg)
set_option maxRecDepth 100000 in
theorem wpList_append_SL (w : World) {ops : Array Oper} {rest : List Oper} {o : Oper} {a : Act} {Q : Exit → Act → World → Prop} (hgd : o.guard = none) (s x : Operand)
    (ho : o.op = .call { callee := .builtin .append, args := #[s, x], argTypes := #[31, 31] })
    (base : Nat) (v : Value) (zs : List ByteArray) (hs : a.eval s = v) (hown : OwnS w base v zs) (u : Value) (ys : List ByteArray) (hx : a.eval x = u) (hr : Strs w u ys)
    (hl : zs.length + ys.length ≤ 16777216) (hbase : base ≤ w.heap.size)
    (h : ∀ v' w', OwnS w' base v' (zs ++ ys) → w.grownBy w' v.ownBlock → (v.ownBlock ≠ none → v'.ownBlock ≠ none) → wpList Tryd.prog ops Q rest (a.put o.dst v') w') : wpList Tryd.prog ops Q (o :: rest) a w := by
  refine wpList_plain hgd fun K hK => ?_
  obtain ⟨i0, hi, hz0, hz1, hz2⟩ := info_parts info_str
  obtain ⟨v', w', hrun, h2, h3, h4⟩ := run_append_locG (P := Tryd.prog) w base 31 o.type 9 i0 _ 1 16 Tryd.underlying31 hi hz0 hz1 hz2 rfl (by omega) v zs.length _ hown.1 u ys.length (ys.map Value.string) hr.1 (by simp) (fun y hy => by obtain ⟨_, _, rfl⟩ := List.mem_map.1 hy; rfl) (by unfold maxLen; omega) (by omega) hbase
  unfold Oper.wp execOp
  simp only [ho, resolve, invoke, builtin, Sem.run_bind, Sem.run_pure, Result.andThen_ok, List.map_toArray, List.map_cons, List.map_nil, hs, hx, hrun]
  refine hK _ _ (h v' w' ?_ h3 (fun hv => ?_))
  · refine ⟨by rw [List.length_append, List.map_append]; exact h2, fun e he => ?_⟩
    rcases List.mem_append.1 he with he | he
    · exact hown.2 e he
    · exact hr.2 e he
  · rcases h4 with h4 | h4
    · rw [h4]; exact hv
    · rw [h4]; simp
end Go.Proofs.YtkkdhmbkpebajaaDoor

/- Texts: numerals read, a text split: the reference's and the program's. -/
namespace Go.Proofs.YtkkdhmbkpebajaaDoor
set_option linter.unusedVariables false
set_option linter.unusedSimpArgs false
set_option linter.unnecessarySimpa false
open Go.RowKit Go.Lib

theorem dval_lt' (l : List UInt8) (h : l.all isDg = true) : dval l < 10 ^ l.length := by
  induction l using snocInd with
  | h0 => decide
  | h1 l b ih =>
    rw [List.all_append] at h
    simp at h
    have hb := (isDg_iff b).1 h.2
    have := ih (by simpa using h.1)
    rw [dval_snoc, List.length_append, List.length_singleton, Nat.pow_succ]
    omega
theorem dval_take {s : ByteArray} {k m : Nat} (hk : k ≤ m) (hm : m ≤ 12) (h : (s.data.toList.take k).all isDg = true) : dval (s.data.toList.take k) < 1000000000000 := by
  have h1 := dval_lt' _ h
  have h2 : (s.data.toList.take k).length ≤ 12 := by rw [List.length_take]; omega
  exact Nat.lt_of_lt_of_le h1 (Nat.pow_le_pow_right (by decide) h2)
def ntB (k : Nat) (s : ByteArray) : Bool := (readNum k s.data.toList).isSome
def ntV (k : Nat) (s : ByteArray) : Int := ((readNum k s.data.toList).getD 0 : Nat)
theorem nt_none {k : Nat} {s : ByteArray} (h : readNum k s.data.toList = none) : (0 : Int) = ntV k s ∧ false = ntB k s := by unfold ntV ntB; rw [h]; exact ⟨rfl, rfl⟩
theorem nt_some {k : Nat} {s : ByteArray} {n : Nat} (h : readNum k s.data.toList = some n) : (n : Int) = ntV k s ∧ true = ntB k s := by unfold ntV ntB; rw [h]; exact ⟨rfl, rfl⟩
theorem rn_big {k : Nat} {l : List UInt8} (h : l.length = 0 ∨ k < l.length) : readNum k l = none := by
  unfold readNum
  rw [if_pos]
  rcases h with h | h
  · exact .inl h
  · exact .inr (.inl h)
theorem rn_zero {k : Nat} {l : List UInt8} (h : 1 < l.length) (h0 : l[0]? = some 48) : readNum k l = none := by
  unfold readNum
  rw [if_pos]
  exact .inr (.inr (.inl ⟨h, by rw [List.head?_eq_getElem?, h0]⟩))
theorem rn_bad {k j : Nat} {l : List UInt8} {b : UInt8} (h : l[j]? = some b) (hb : isDg b = false) : readNum k l = none := by
  unfold readNum
  rw [if_pos]
  refine .inr (.inr (.inr ?_))
  rw [Bool.eq_false_iff]
  intro ha
  have := List.all_eq_true.1 ha b (List.mem_of_getElem? h)
  rw [hb] at this
  cases this
theorem rn_ok {k : Nat} {l : List UInt8} (h1 : 0 < l.length) (h2 : l.length ≤ k) (h3 : 1 < l.length → l[0]? ≠ some 48) (h4 : l.all isDg = true) : readNum k l = some (dval l) := by
  unfold readNum
  rw [if_neg]
  rintro (h | h | ⟨a, b⟩ | h)
  · omega
  · omega
  · rw [List.head?_eq_getElem?] at b; exact h3 a b
  · rw [h4] at h; cases h
theorem dg_of {b : UInt8} (h1 : 48 ≤ b.toNat) (h2 : b.toNat ≤ 57) : isDg b = true := (isDg_iff b).2 ⟨h1, h2⟩
theorem dg_not {b : UInt8} (h : b.toNat < 48 ∨ 57 < b.toNat) : isDg b = false := by
  rw [Bool.eq_false_iff]
  intro hb
  have := (isDg_iff b).1 hb
  omega
theorem dv_snoc {l : List UInt8} {k : Nat} {b : UInt8} (h : l[k]? = some b) : dval (l.take (k + 1)) = 10 * dval (l.take k) + (b.toNat - 48) := by
  rw [take_snoc h, dval_snoc]
theorem ret_ibT {a a' : Int} {b b' : Bool} (h : a = a' ∧ b = b') : Ending.returned (.tuple #[.int .i64 a, .bool b]) = .returned (.tuple #[.int .i64 a', .bool b']) := by rw [h.1, h.2]
theorem ret_i {a a' : Int} (h : a = a') : Ending.returned (.int .i64 a) = .returned (.int .i64 a') := by rw [h]
theorem byte3 (c : Nat) : c < 48 ∨ 57 < c ∨ (48 ≤ c ∧ c ≤ 57) := by omega
theorem ne_zero {s : ByteArray} (h : s ≠ ⟨#[]⟩) : 0 < s.size := by
  rcases Nat.eq_zero_or_pos s.size with h0 | h0
  · exact absurd (ByteArray.ext (Array.eq_empty_of_size_eq_zero h0)) h
  · exact h0
/-- what a reading of at most k digits gives: the number, or -1 -/
def rdV (k : Nat) (s : ByteArray) : Int := match readNum k s.data.toList with | none => -1 | some n => (n : Int)
theorem rd_none {k : Nat} {s : ByteArray} (h : readNum k s.data.toList = none) : (-1 : Int) = rdV k s := by unfold rdV; rw [h]
theorem rd_some {k : Nat} {s : ByteArray} {n : Nat} (h : readNum k s.data.toList = some n) : (n : Int) = rdV k s := by unfold rdV; rw [h]
set_option maxHeartbeats 4000000 in
theorem natural_any (s : ByteArray) (w : World) (hs : s.size ≤ maxLen) :
    Calls Tryd.prog 84 #[.string s] w fun e w' => e = .returned (.tuple #[.int .i64 (ntV 12 s), .bool (ntB 12 s)]) ∧ w = w' := by
  unfold maxLen at hs
  have hlen : s.data.toList.length = s.size := by rw [size_eq]
  have HL := Lib.hid hlen
  clear hlen
  by_cases h0 : s = ⟨#[]⟩
  · subst h0
    go_enter Tryd.func84, Tryd.ntmps84
    go_wp2
    go_ret2
    exact ⟨ret_ibT <| nt_none (rn_big (.inl rfl)), rfl⟩
  have hp := ne_zero h0
  have he : s.toList.isEmpty = false := by
    rw [toList_data]
    cases hq : s.data.toList with
    | nil => have := HL.out; rw [hq] at this; simp at this; omega
    | cons _ _ => rfl
  by_cases hk : 12 < s.size
  · go_enter Tryd.func84, Tryd.ntmps84
    go_wp2
    go_ret2
    exact ⟨ret_ibT <| nt_none (rn_big (.inr (by rw [HL.out]; exact hk))), rfl⟩
  have HZ0 := Lib.hid (byte_get s 0 hp)
  by_cases h1 : 1 < s.size ∧ s[0].toNat = 48
  · obtain ⟨h1, h2⟩ := h1
    have hq : ((s[0].toNat : Int) == 48) = true := (by rw [beq_iff_eq]; omega)
    go_enter Tryd.func84, Tryd.ntmps84
    go_wp2
    go_ret2
    exact ⟨ret_ibT <| nt_none (rn_zero (by rw [HL.out]; exact h1) (by rw [HZ0.out]; exact congrArg some (UInt8.toNat_inj.1 h2))), rfl⟩
  have H3 : Hid (1 < s.data.toList.length → s.data.toList[0]? ≠ some 48) := Lib.hid (fun a b => h1 ⟨by rw [← HL.out]; exact a, by rw [HZ0.out] at b; rw [Option.some.inj b]; rfl⟩)
  have hcase : (s.size < 2 ∧ s[0].toNat < 48) ∨ (s.size < 2 ∧ s[0].toNat = 48) ∨ (s.size < 2 ∧ 48 < s[0].toNat) ∨ (1 < s.size ∧ s[0].toNat < 48) ∨ (1 < s.size ∧ 48 < s[0].toNat) := by omega
  clear h1
  rcases hcase with ⟨h1, h2⟩ | ⟨h1, h2⟩ | ⟨h1, h2⟩ | ⟨h1, h2⟩ | ⟨h1, h2⟩
  all_goals
    first
      | have hq : ((s[0].toNat : Int) == 48) = false := (by rw [beq_eq_false_iff_ne]; omega)
      | have hq : ((s[0].toNat : Int) == 48) = true := (by rw [beq_iff_eq]; omega)
    go_enter Tryd.func84, Tryd.ntmps84
    go_wp2
    go_loop [4, 5] (fun n i => ∃ k : Nat, k ≤ s.size ∧ i = .int .i64 k ∧ n = .int .i64 (dval (s.data.toList.take k) : Nat) ∧ (s.data.toList.take k).all isDg = true) (fun _ i => s.size - (RowKit.intOf i).toNat)
    case atStart => exact ⟨0, Nat.zero_le _, rfl, rfl, rfl⟩
    case round =>
      obtain ⟨k, hk2, rfl, rfl, ha⟩ := hrel
      have hv := dval_take hk2 (by omega) ha
      have HA := Lib.hid ha
      clear ha
      by_cases hlt : k < s.size
      · have HZ := Lib.hid (byte_get s k hlt)
        have HD := Lib.hid (dv_snoc HZ.out)
        have hlt' : (k : Int) < (s.size : Int) := by omega
        rcases byte3 s[k].toNat with hc | hc | hc
        · generalize dval (s.data.toList.take k) = v at *
          go_wp2
          go_ret2
          exact ⟨ret_ibT <| nt_none (rn_bad HZ.out (dg_not (.inl hc))), rfl⟩
        · generalize dval (s.data.toList.take k) = v at *
          go_wp2
          go_ret2
          exact ⟨ret_ibT <| nt_none (rn_bad HZ.out (dg_not (.inr hc))), rfl⟩
        · generalize dval (s.data.toList.take k) = v at *
          go_wp2
          go_round
          case rel => exact ⟨k + 1, by omega, by go_num, by rw [HD.out]; go_num, all_snoc HZ.out HA.out (dg_of hc.1 hc.2)⟩
          case measure => simp [RowKit.intOf]; omega
      · obtain rfl : k = s.size := by omega
        have e : s.data.toList.take s.size = s.data.toList := List.take_of_length_le (by rw [HL.out]; exact Nat.le_refl _)
        rw [e] at HA hv ⊢
        have HE := Lib.hid (rn_ok (k := 12) (by rw [HL.out]; omega) (by rw [HL.out]; omega) H3.out HA.out)
        generalize dval s.data.toList = v at *
        go_wp2
        go_ret2
        exact ⟨ret_ibT <| nt_some HE.out, rfl⟩
set_option maxHeartbeats 4000000 in
theorem l1Read_any (s : ByteArray) (w : World) (hs : s.size ≤ maxLen) :
    Calls Tryd.prog 64 #[.string s] w fun e w' => e = .returned (.int .i64 (rdV 6 s)) ∧ w = w' := by
  unfold maxLen at hs
  have hlen : s.data.toList.length = s.size := by rw [size_eq]
  have HL := Lib.hid hlen
  clear hlen
  by_cases h0 : s = ⟨#[]⟩
  · subst h0
    have HI : Hid (inB 0 1 6 = false) := Lib.hid rfl
    go_enter Tryd.func64, Tryd.ntmps64
    go_wp2_with (go_at_call 58; refine (l1In_any _ _ _ _).mono ?_; rintro e w' ⟨rfl, rfl⟩; rw [HI.out])
    go_ret
    exact ⟨ret_i <| rd_none (rn_big (.inl rfl)), rfl⟩
  have hp := ne_zero h0
  have he : s.toList.isEmpty = false := by
    rw [toList_data]
    cases hq : s.data.toList with
    | nil => have := HL.out; rw [hq] at this; simp at this; omega
    | cons _ _ => rfl
  by_cases hk : 6 < s.size
  · have HI : Hid (inB (s.size : Int) 1 6 = false) := Lib.hid (by unfold inB; simp; omega)
    go_enter Tryd.func64, Tryd.ntmps64
    go_wp2_with (go_at_call 58; refine (l1In_any _ _ _ _).mono ?_; rintro e w' ⟨rfl, rfl⟩; rw [HI.out])
    go_ret
    exact ⟨ret_i <| rd_none (rn_big (.inr (by rw [HL.out]; exact hk))), rfl⟩
  have HI : Hid (inB (s.size : Int) 1 6 = true) := Lib.hid (by unfold inB; simp; omega)
  have HZ0 := Lib.hid (byte_get s 0 hp)
  by_cases h1 : 1 < s.size ∧ s[0].toNat = 48
  · obtain ⟨h1, h2⟩ := h1
    have hq : ((s[0].toNat : Int) == 48) = true := (by rw [beq_iff_eq]; omega)
    go_enter Tryd.func64, Tryd.ntmps64
    go_wp2_with (go_at_call 58; refine (l1In_any _ _ _ _).mono ?_; rintro e w' ⟨rfl, rfl⟩; rw [HI.out])
    go_ret
    exact ⟨ret_i <| rd_none (rn_zero (by rw [HL.out]; exact h1) (by rw [HZ0.out]; exact congrArg some (UInt8.toNat_inj.1 h2))), rfl⟩
  have H3 : Hid (1 < s.data.toList.length → s.data.toList[0]? ≠ some 48) := Lib.hid (fun a b => h1 ⟨by rw [← HL.out]; exact a, by rw [HZ0.out] at b; rw [Option.some.inj b]; rfl⟩)
  have hcase : (s.size < 2 ∧ s[0].toNat < 48) ∨ (s.size < 2 ∧ s[0].toNat = 48) ∨ (s.size < 2 ∧ 48 < s[0].toNat) ∨ (1 < s.size ∧ s[0].toNat < 48) ∨ (1 < s.size ∧ 48 < s[0].toNat) := by omega
  clear h1
  rcases hcase with ⟨h1, h2⟩ | ⟨h1, h2⟩ | ⟨h1, h2⟩ | ⟨h1, h2⟩ | ⟨h1, h2⟩
  all_goals
    first
      | have hq : ((s[0].toNat : Int) == 48) = false := (by rw [beq_eq_false_iff_ne]; omega)
      | have hq : ((s[0].toNat : Int) == 48) = true := (by rw [beq_iff_eq]; omega)
    go_enter Tryd.func64, Tryd.ntmps64
    go_wp2_with (go_at_call 58; refine (l1In_any _ _ _ _).mono ?_; rintro e w' ⟨rfl, rfl⟩; rw [HI.out])
    go_loop [3, 4] (fun n i => ∃ k : Nat, k ≤ s.size ∧ i = .int .i64 k ∧ n = .int .i64 (dval (s.data.toList.take k) : Nat) ∧ (s.data.toList.take k).all isDg = true) (fun _ i => s.size - (RowKit.intOf i).toNat)
    case atStart => exact ⟨0, Nat.zero_le _, rfl, rfl, rfl⟩
    case round =>
      obtain ⟨k, hk2, rfl, rfl, ha⟩ := hrel
      have hv := dval_take hk2 (by omega) ha
      have HA := Lib.hid ha
      clear ha
      by_cases hlt : k < s.size
      · have HZ := Lib.hid (byte_get s k hlt)
        have HD := Lib.hid (dv_snoc HZ.out)
        have hlt' : (k : Int) < (s.size : Int) := by omega
        rcases byte3 s[k].toNat with hc | hc | hc
        · generalize dval (s.data.toList.take k) = v at *
          go_wp2
          go_ret
          exact ⟨ret_i <| rd_none (rn_bad HZ.out (dg_not (.inl hc))), rfl⟩
        · generalize dval (s.data.toList.take k) = v at *
          go_wp2
          go_ret
          exact ⟨ret_i <| rd_none (rn_bad HZ.out (dg_not (.inr hc))), rfl⟩
        · generalize dval (s.data.toList.take k) = v at *
          go_wp2
          go_round
          case rel => exact ⟨k + 1, by omega, by go_num, by rw [HD.out]; go_num, all_snoc HZ.out HA.out (dg_of hc.1 hc.2)⟩
          case measure => simp [RowKit.intOf]; omega
      · obtain rfl : k = s.size := by omega
        have e : s.data.toList.take s.size = s.data.toList := List.take_of_length_le (by rw [HL.out]; exact Nat.le_refl _)
        rw [e] at HA hv ⊢
        have HE := Lib.hid (rn_ok (k := 6) (by rw [HL.out]; omega) (by rw [HL.out]; omega) H3.out HA.out)
        generalize dval s.data.toList = v at *
        go_wp2
        go_ret
        exact ⟨ret_i <| rd_some HE.out, rfl⟩
end Go.Proofs.YtkkdhmbkpebajaaDoor

/- Texts: a text split at a byte, the reference's way. -/
namespace Go.Proofs.YtkkdhmbkpebajaaDoor
set_option linter.unusedVariables false
set_option linter.unusedSimpArgs false
set_option linter.unnecessarySimpa false
open Go.RowKit Go.Lib

theorem splitOn_snoc_ne {b c : UInt8} (hc : c ≠ b) : ∀ {p : List UInt8} {L : List (List UInt8)} {x : List UInt8}, splitOn b p = L ++ [x] → splitOn b (p ++ [c]) = L ++ [x ++ [c]]
  | [], L, x, h => by
    have e : ([[]] : List (List UInt8)) = L ++ [x] := h
    cases L with
    | nil => simp at e; subst e; simp [splitOn, hc]
    | cons y L => simp at e
  | d :: p, L, x, h => by
    by_cases hd : d = b
    · subst hd
      rw [splitOn_cons_eq] at h
      cases L with
      | nil => simp at h; exact absurd h.2 (splitOn_ne _ _)
      | cons y L =>
        simp only [List.cons_append, List.cons.injEq] at h
        obtain ⟨h1, h2⟩ := h
        subst h1
        rw [List.cons_append, splitOn_cons_eq, splitOn_snoc_ne hc h2]
        rfl
    · rw [splitOn_cons_ne hd] at h
      cases hs : splitOn b p with
      | nil => exact absurd hs (splitOn_ne _ _)
      | cons y t =>
        rw [hs, prep] at h
        cases L with
        | nil =>
          simp at h
          obtain ⟨h1, h2⟩ := h
          subst h1 h2
          rw [List.cons_append, splitOn_cons_ne hd, splitOn_snoc_ne (L := []) (x := y) hc (by rw [hs]; rfl)]
          rfl
        | cons z L =>
          simp at h
          obtain ⟨h1, h2⟩ := h
          subst h1 h2
          rw [List.cons_append, splitOn_cons_ne hd, splitOn_snoc_ne (L := y :: L) (x := x) hc (by rw [hs]; rfl)]
          rfl
/-- the piece from a to b -/
def pc (s : ByteArray) (a b : Nat) : List UInt8 := (s.data.toList.take b).drop a
theorem pc_ext (s : ByteArray) (a b : Nat) : s.extract a b = tx (pc s a b) := by
  apply ByteArray.ext
  apply Array.ext'
  unfold pc tx
  simp [List.extract_eq_take_drop, List.drop_take]
theorem pc_size (s : ByteArray) (a b : Nat) (h : b ≤ s.size) : (pc s a b).length = b - a := by
  unfold pc
  rw [List.length_drop, List.length_take, ← size_eq, Nat.min_eq_left h]
theorem pc_snoc {s : ByteArray} {a k : Nat} {c : UInt8} (h : s.data.toList[k]? = some c) (hk : k ≤ s.size) (ha : a ≤ k) : pc s a (k + 1) = pc s a k ++ [c] := by
  unfold pc
  rw [take_snoc h, List.drop_append_of_le_length (by rw [List.length_take, ← size_eq]; omega)]
theorem pc_none (s : ByteArray) (k : Nat) : pc s k k = [] := by
  unfold pc
  exact List.drop_of_length_le (by rw [List.length_take]; omega)
theorem pc_all (s : ByteArray) (a : Nat) : pc s a s.size = s.data.toList.drop a := by
  unfold pc
  rw [List.take_of_length_le (by rw [size_eq]; exact Nat.le_refl _)]
def spB (b : UInt8) (s : ByteArray) : List ByteArray := (splitOn b s.data.toList).map tx
set_option maxRecDepth 100000 in
set_option maxHeartbeats 8000000 in
theorem l1Split_any (s : ByteArray) (b : UInt8) (w : World) (hs : s.size ≤ 1048576) :
    Calls Tryd.prog 39 #[.string s, .int .u8 b.toNat] w fun e w' => ∃ v', e = .returned v' ∧ OwnS w' w.heap.size v' (spB b s) ∧ Kept w w' := by
  have HS := Lib.hid hs
  go_enter Tryd.func39, Tryd.ntmps39
  go_wp2_with fail
  go_loopw [5, 6, 7] (fun s5 s6 s7 wr => ∃ (k a : Nat) (L : List (List UInt8)), k ≤ s.size ∧ a ≤ k ∧ s7 = .int .i64 k ∧ s6 = .int .i64 a ∧ splitOn b (s.data.toList.take k) = L ++ [pc s a k] ∧ OwnS wr w.heap.size s5 (L.map tx) ∧ Kept w wr) (fun _ _ i _ => s.size - (RowKit.intOf i).toNat)
  case atStart => exact ⟨0, 0, [], Nat.zero_le _, Nat.le_refl _, rfl, rfl, rfl, nilS _ _, Kept.refl _⟩
  case round =>
    obtain ⟨k, a, L, hk, ha, rfl, rfl, hsp, ho, hkept⟩ := hrel
    have hll : L.length ≤ k := by
      have h1 := splitOn_length_le b (s.data.toList.take k)
      rw [hsp, List.length_append, List.length_singleton, List.length_take, ← size_eq] at h1
      omega
    have HO := Lib.hid ho
    have HSP := Lib.hid hsp
    have hps : (tx (pc s a k)).size ≤ maxLen := by rw [tx_size, pc_size s a k hk]; unfold maxLen; omega
    have HPS := Lib.hid hps
    clear ho hsp hps
    by_cases hlt : k < s.size
    · have HZ := Lib.hid (byte_get s k hlt)
      have hlt' : (k : Int) < (s.size : Int) := by omega
      by_cases hc : s[k] = b
      · have hcb : s[k].toNat = b.toNat := by rw [hc]
        have HSN : Hid (splitOn b (s.data.toList.take (k + 1)) = (L ++ [pc s a k]) ++ [pc s (k + 1) (k + 1)]) := Lib.hid (by rw [take_snoc HZ.out, hc, splitOn_snoc, HSP.out, pc_none])
        have HC := Lib.hid hc
        have HE := Lib.hid (pc_ext s a k)
        have ha' : (a : Int) ≤ (k : Int) := by omega
        clear hc
        go_wp2_with (at_builtin; refine wpList_append_SL _ rfl _ _ rfl w.heap.size _ (L.map tx) rfl (HO.out.kept ((Kept.refl _).alloc _)) _ [tx (pc s a k)] rfl (by first | (rw [HE.out]; exact strs_box1 (Box.new _ _ _ _ rfl) HPS.out) | exact strs_box1 (HE.out ▸ Box.new _ _ _ _ rfl) HPS.out) (by rw [List.length_map]; simp only [List.length_cons, List.length_nil]; omega) (by have := hkept.size; simp; omega) ?_; intro v3 w3 o3 g3 n3)
        have k3 := (hkept.alloc (.cells #[.string (s.extract a k)] 9)).grew (HO.out.kept ((Kept.refl _).alloc _)).1 g3 (Nat.le_refl _)
        have O3 : Hid (OwnS w3 w.heap.size v3 ((L ++ [pc s a k]).map tx)) := Lib.hid (by rw [List.map_append]; exact o3)
        clear o3 n3 g3
        go_wp2_with fail
        go_roundw
        case rel => exact ⟨k + 1, k + 1, _, by omega, Nat.le_refl _, by go_num, by go_num, HSN.out, O3.out, k3⟩
        case measure => simp [RowKit.intOf]; omega
      · have hcb : ¬ s[k].toNat = b.toNat := fun e => hc (UInt8.toNat_inj.1 e)
        have HSN : Hid (splitOn b (s.data.toList.take (k + 1)) = L ++ [pc s a (k + 1)]) := Lib.hid (by rw [take_snoc HZ.out, splitOn_snoc_ne hc HSP.out, pc_snoc HZ.out hk ha])
        clear hc
        go_wp2_with fail
        go_roundw
        case rel => exact ⟨k + 1, a, L, by omega, by omega, by go_num, rfl, HSN.out, HO.out, hkept⟩
        case measure => simp [RowKit.intOf]; omega
    · obtain rfl : k = s.size := by omega
      have HE := Lib.hid (pc_ext s a s.size)
      have ha' : (a : Int) ≤ (s.size : Int) := by omega
      have HF : Hid ((L.map tx) ++ [tx (pc s a s.size)] = spB b s) := Lib.hid (by
        unfold spB
        have e : s.data.toList.take s.size = s.data.toList := List.take_of_length_le (by rw [size_eq]; exact Nat.le_refl _)
        have h1 := HSP.out
        rw [e] at h1
        rw [h1, List.map_append]
        rfl)
      go_wp2_with (at_builtin; refine wpList_append_SL _ rfl _ _ rfl w.heap.size _ (L.map tx) rfl (HO.out.kept ((Kept.refl _).alloc _)) _ [tx (pc s a s.size)] rfl (by first | (rw [HE.out]; exact strs_box1 (Box.new _ _ _ _ rfl) HPS.out) | exact strs_box1 (HE.out ▸ Box.new _ _ _ _ rfl) HPS.out) (by rw [List.length_map]; simp only [List.length_cons, List.length_nil]; omega) (by have := hkept.size; simp; omega) ?_; intro v3 w3 o3 g3 n3)
      have k3 := (hkept.alloc (.cells #[.string (s.extract a s.size)] 9)).grew (HO.out.kept ((Kept.refl _).alloc _)).1 g3 (Nat.le_refl _)
      rw [HF.out] at o3
      have O3 := Lib.hid o3
      clear o3 n3 g3
      go_wp2_with fail
      go_ret
      exact ⟨_, rfl, O3.out, k3⟩
end Go.Proofs.YtkkdhmbkpebajaaDoor

/- Points: reading their text: plain laws; the reference's side. -/
namespace Go.Proofs.YtkkdhmbkpebajaaDoor
set_option linter.unusedVariables false
set_option linter.unusedSimpArgs false
set_option linter.unnecessarySimpa false
open Go.RowKit Go.Lib

theorem tp_hit {l : List UInt8} (h : l[0]? = some 45) : trimPrefix l [45] = l.drop 1 ∧ hasPrefix l [45] = true := by
  cases l with
  | nil => cases h
  | cons c r =>
    have hc : c = 45 := by simpa using h
    subst hc
    unfold trimPrefix hasPrefix
    simp [List.isPrefixOf]
theorem tp_miss {l : List UInt8} (h : l[0]? ≠ some 45) : trimPrefix l [45] = l ∧ hasPrefix l [45] = false := by
  cases l with
  | nil => exact ⟨rfl, rfl⟩
  | cons c r =>
    have hc : c ≠ 45 := by simpa using h
    have hne : (45 == c) = false := beq_eq_false_iff_ne.2 (Ne.symm hc)
    unfold trimPrefix hasPrefix
    simp [List.isPrefixOf, hne]
def dg2 (p q : UInt8) : Nat := 10 * (p.toNat - 48) + (q.toNat - 48)
theorem pt_shape {l : List UInt8} {n : Int} (hg : ptGood n) (h : ptxt n = l) :
    ∃ u : Nat, u ≤ 1000000 ∧ splitOn 46 (trimPrefix l [45]) = [decDigits (u / 100), [UInt8.ofNat (48 + u / 10 % 10), UInt8.ofNat (48 + u % 10)]] ∧ hasPrefix l [45] = decide (n < 0) ∧ n = if hasPrefix l [45] then -(u : Int) else (u : Int) := by
  subst h
  obtain ⟨h1, h2⟩ := ptxt_sign n
  unfold ptGood at hg
  refine ⟨n.natAbs, by omega, by rw [h1, ptN_split, two_digits], h2, ?_⟩
  rw [h2]
  by_cases hn : n < 0
  · rw [decide_eq_true hn]; simp; omega
  · rw [decide_eq_false hn]; simp; omega
/-- where one of the steps fails, there is no number with the text -/
theorem rd_no {l : List UInt8} (h : ∀ p c d a, splitOn 46 (trimPrefix l [45]) = [p, [c, d]] → readNum 6 p = some a → isDg c = true → isDg d = true → False) : IsRead l 0 false := by
  refine .inr ⟨rfl, rfl, fun n hg e => ?_⟩
  obtain ⟨u, hu, hs, _, _⟩ := pt_shape hg e
  exact h _ _ _ (u / 100) hs (readNum_dec (k := 5) (by omega)) (isDg_of (Nat.mod_lt _ (by decide))) (isDg_of (Nat.mod_lt _ (by decide)))
/-- what the steps compute is the only candidate -/
theorem rd_only {l p : List UInt8} {c d : UInt8} {a : Nat} {n : Int} (hs : splitOn 46 (trimPrefix l [45]) = [p, [c, d]]) (ha : readNum 6 p = some a) (hg : ptGood n) (e : ptxt n = l) :
    n = if hasPrefix l [45] then -((100 * a + dg2 c d : Nat) : Int) else ((100 * a + dg2 c d : Nat) : Int) := by
  obtain ⟨u, hu, hs', _, hn⟩ := pt_shape hg e
  rw [hs] at hs'
  simp only [List.cons.injEq, and_true] at hs'
  obtain ⟨rfl, rfl, rfl⟩ := hs'
  rw [readNum_dec (k := 5) (by omega)] at ha
  have ha := Option.some.inj ha
  have hd : 100 * a + dg2 (UInt8.ofNat (48 + u / 10 % 10)) (UInt8.ofNat (48 + u % 10)) = u := by
    unfold dg2
    rw [toNat_of (Nat.mod_lt _ (by decide)), toNat_of (Nat.mod_lt _ (by decide))]
    omega
  rw [hd]
  exact hn
theorem rd_yes {l p : List UInt8} {c d : UInt8} {a : Nat} {v : Int} (hs : splitOn 46 (trimPrefix l [45]) = [p, [c, d]]) (ha : readNum 6 p = some a)
    (hv : v = if hasPrefix l [45] then -((100 * a + dg2 c d : Nat) : Int) else ((100 * a + dg2 c d : Nat) : Int)) :
    (ptGood v ∧ ptxt v = l → IsRead l v true) ∧ (¬ (ptGood v ∧ ptxt v = l) → IsRead l 0 false) := by
  refine ⟨fun h => .inl ⟨rfl, h.1, h.2⟩, fun h => .inr ⟨rfl, rfl, fun n hg e => ?_⟩⟩
  have := rd_only hs ha hg e
  rw [← hv] at this
  subst this
  exact h ⟨hg, e⟩
theorem rdV_neg {k : Nat} {s : ByteArray} : rdV k s < 0 ↔ readNum k s.data.toList = none := by
  unfold rdV
  cases readNum k s.data.toList with
  | none => simp
  | some n => simp
end Go.Proofs.YtkkdhmbkpebajaaDoor
