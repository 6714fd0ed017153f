/- Contracts of functions that the proof leans on. No condition. -/
import Derived.Test.YtpkmngkepmoikaaMf98dbdb5f3
import Derived.Laws.IdiomCopy
import Derived.Laws.Externs
import Derived.Lib.Overlaps
import Derived.Lib.AppendZerosOnto
import Derived.Lib.SliceRun
import Derived.Deep.RegionLaw
import Derived.Below
import Derived.Deep.RegionHeld3
import Derived.Deep.DeepCutAuto
/- append(out, xs...) to rows of the call's own, in the words of the readings. -/
namespace Go.Proofs.Ytpkmngkepmoikaa
set_option linter.unusedVariables false
set_option linter.unusedSimpArgs false
open Go.RowKit

theorem wp_append_S (w : World) {o : Oper} {a : Act} {K : Act → World → Prop} {Q : Exit → Act → World → Prop} (s x : Operand)
    (ho : o.op = .call { callee := .builtin .append, args := #[s, x], argTypes := #[70, 70] })
    (base : Nat) (v : Value) (zs : List ByteArray) (hs : a.eval s = v) (hown : OwnS w base v zs) (u : Value) (ys : List ByteArray) (hx : a.eval x = u) (hr : Strs w u ys)
    (hl : zs.length + ys.length ≤ 16777216) (hbase : base ≤ w.heap.size)
    (h : ∀ v' w', OwnS w' base v' (zs ++ ys) → w.grownBy w' v.ownBlock → K (a.put o.dst v') w') : o.wp Try.prog a w K Q := by
  obtain ⟨i0, hi, hz0, hz1, hz2⟩ := info_parts info_str
  refine wp_append_seq w s x 70 ho base 9 i0 _ 1 16 Try.underlying70 hi hz0 hz1 hz2 rfl (by omega) v zs.length _ hs hown.1 u ys.length _ hx hr.1 (by simp) ?_ (by unfold maxLen; omega) (by omega) hbase (fun v' w' q1 q2 => h v' w' ?_ q2)
  · intro y hy
    obtain ⟨_, _, rfl⟩ := List.mem_map.1 hy; rfl
  · refine ⟨?_, ?_⟩
    · rw [List.length_append, List.map_append]
      exact q1
    · intro e he
      rcases List.mem_append.1 he with he | he
      · exact hown.2 e he
      · exact hr.2 e he
theorem wpList_append_S (w : World) {ops : Array Oper} {rest : List Oper} {o : Oper} {a : Act} {Q : Exit → Act → World → Prop} (hgd : o.guard = none) (s x : Operand)
    (ho : o.op = .call { callee := .builtin .append, args := #[s, x], argTypes := #[70, 70] })
    (base : Nat) (v : Value) (zs : List ByteArray) (hs : a.eval s = v) (hown : OwnS w base v zs) (u : Value) (ys : List ByteArray) (hx : a.eval x = u) (hr : Strs w u ys)
    (hl : zs.length + ys.length ≤ 16777216) (hbase : base ≤ w.heap.size)
    (h : ∀ v' w', OwnS w' base v' (zs ++ ys) → w.grownBy w' v.ownBlock → wpList Try.prog ops Q rest (a.put o.dst v') w') : wpList Try.prog ops Q (o :: rest) a w :=
  wpList_plain hgd fun _ hK => wp_append_S w s x ho base v zs hs hown u ys hx hr hl hbase fun v' w' h2 h3 => hK _ _ (h v' w' h2 h3)
theorem step_append_S (w : World) {ops : Array Oper} {o : Oper} {a : Act} {K : Act → World → Prop} {Q : Exit → Act → World → Prop} {E : Prop} (hgd : o.guard = none) (s x : Operand)
    (ho : o.op = .call { callee := .builtin .append, args := #[s, x], argTypes := #[70, 70] })
    (base : Nat) (v : Value) (zs : List ByteArray) (hs : a.eval s = v) (hown : OwnS w base v zs) (u : Value) (ys : List ByteArray) (hx : a.eval x = u) (hr : Strs w u ys)
    (hl : zs.length + ys.length ≤ 16777216) (hbase : base ≤ w.heap.size)
    (h : ∀ v' w', OwnS w' base v' (zs ++ ys) → w.grownBy w' v.ownBlock → K (a.put o.dst v') w') :
    if Region.wanted o (yielded ops a.tmps) = true then Oper.wp Try.prog o a w K Q else E := by
  have hw : Region.wanted o (yielded ops a.tmps) = true := by simp [Region.wanted, hgd]
  rw [if_pos hw]
  exact wp_append_S w s x ho base v zs hs hown u ys hx hr hl hbase h
end Go.Proofs.Ytpkmngkepmoikaa

/- Rows of elements of several cells: what copy, clear and the library's Delete and Insert do to a block that is known whole. -/
namespace Go.Proofs.Ytpkmngkepmoikaa
set_option linter.unusedVariables false
set_option linter.unusedSimpArgs false
open Go.RowKit

/-- cells written one after the other -/
def sets : Array Value → Nat → List Value → Array Value
  | cs, _, [] => cs
  | cs, o, v :: r => sets (cs.setIfInBounds o v) (o + 1) r
theorem Box.sets {b : Nat} {t : TypeId} : ∀ (vs : List Value) (o : Nat) (w : World) (cs : Array Value), Box w b t cs → Box (w.setCells b o vs) b t (sets cs o vs)
  | [], _, _, _, h => h
  | v :: r, o, w, cs, h => Box.sets r (o + 1) _ _ (h.set o v)
theorem only_sets (b : Nat) : ∀ (vs : List Value) (o : Nat) (w : World), Only [b] w (w.setCells b o vs)
  | [], _, w => Only.refl _ w
  | v :: r, o, w => (Only.setCell (Only.refl [b] w) (p := ⟨b, o, none⟩) (by simp) v).trans (only_sets b r (o + 1) _)
theorem sets_size : ∀ (vs : List Value) (o : Nat) (cs : Array Value), (sets cs o vs).size = cs.size
  | [], _, _ => rfl
  | v :: r, o, cs => by rw [sets, sets_size r]; simp
theorem sets_toList : ∀ (vs : List Value) (o : Nat) (cs : Array Value), o + vs.length ≤ cs.size → (sets cs o vs).toList = cs.toList.take o ++ vs ++ cs.toList.drop (o + vs.length)
  | [], o, cs, h => by simp [sets]
  | v :: r, o, cs, h => by
    have hlt : o < cs.toList.length := by simp at h ⊢; omega
    rw [sets, sets_toList r (o + 1) _ (by simp at h ⊢; omega)]
    simp only [Array.toList_setIfInBounds]
    rw [List.take_set, List.take_succ_eq_append_getElem hlt, List.set_append_right _ _ (by rw [List.length_take]; omega), List.length_take_of_le (by omega), Nat.sub_self]
    rw [List.drop_set_of_lt (by omega)]
    simp only [List.set_cons_zero, List.append_assoc, List.cons_append, List.nil_append, List.length_cons]
    rw [show o + 1 + r.length = o + (r.length + 1) from by omega]
theorem sets_take {cs : Array Value} {o m : Nat} {vs : List Value} (h : o + vs.length ≤ cs.size) (hm : m ≤ o) : (sets cs o vs).toList.take m = cs.toList.take m := by
  have hl : cs.toList.length = cs.size := by simp
  rw [sets_toList _ _ _ h, List.append_assoc, List.take_append_of_le_length (by rw [List.length_take]; omega), List.take_take, Nat.min_eq_left hm]
theorem sets_full {cs : Array Value} {o m : Nat} {vs : List Value} (h : o + vs.length ≤ cs.size) (hm : m = o + vs.length) : (sets cs o vs).toList.take m = cs.toList.take o ++ vs := by
  have hl : cs.toList.length = cs.size := by simp
  rw [sets_toList _ _ _ h, List.take_left' (by rw [List.length_append, List.length_take]; omega)]
theorem sets_drop {cs : Array Value} {o : Nat} {vs : List Value} (h : o + vs.length ≤ cs.size) : (sets cs o vs).toList.drop o = vs ++ cs.toList.drop (o + vs.length) := by
  have hl : cs.toList.length = cs.size := by simp
  rw [sets_toList _ _ _ h, List.append_assoc, List.drop_left' (by rw [List.length_take]; omega)]
theorem only_drew_sets (b : Nat) (vs : List Value) (o : Nat) (w : World) : Only [b] w (w.drew.setCells b o vs) := (Only.drewN (Only.refl [b] w) 1).trans (only_sets b vs o w.drew)
theorem own_box {w : World} {base : Nat} {e : TypeId} {size n cap g : Nat} {xs : List Value} (h : w.ownsRow base e size (.slice (some ⟨g, 0, none⟩) n cap) n xs) :
    ∃ cur, Box w g e cur ∧ n ≤ cap ∧ cap ≤ maxLen ∧ cur.size = cap * size ∧ cur.toList.take (n * size) = xs := by
  rcases h.2 with ⟨h, _⟩ | ⟨g', cap', cur, e1, _, hb, h1, h2, h3, h4⟩
  · cases h
  · injection e1 with e1 e2 e3
    injection e1 with e1
    injection e1 with e1
    subst e1 e3
    exact ⟨cur, hb, h1, h2, h3, h4⟩
theorem own_of_box {w : World} {base : Nat} {e : TypeId} {size n cap g : Nat} {xs : List Value} {cur : Array Value} (hb : Box w g e cur) (hg : base ≤ g) (h1 : n ≤ cap) (h2 : cap ≤ maxLen) (h3 : cur.size = cap * size) (h4 : cur.toList.take (n * size) = xs) :
    w.ownsRow base e size (.slice (some ⟨g, 0, none⟩) n cap) n xs := by
  refine ⟨?_, .inr ⟨g, cap, cur, rfl, hg, hb, h1, h2, h3, h4⟩⟩
  rw [← h4, List.length_take]
  have : cur.toList.length = cap * size := by simpa using h3
  rw [this, Nat.min_eq_left (Nat.mul_le_mul_right _ h1)]
theorem Box.some {w : World} {b : Nat} {t : TypeId} {cs : Array Value} (h : Box w b t cs) {j : Nat} (hj : j < cs.size) : (w.cell? ⟨b, j, none⟩).isSome = true := by
  rw [h.cell j, Array.getElem?_eq_getElem hj]
  rfl
theorem Box.at_ {w : World} {b : Nat} {t : TypeId} {cs : Array Value} (h : Box w b t cs) {j : Nat} {v : Value} (hj : cs.toList[j]? = Option.some v) : w.cell? ⟨b, j, none⟩ = Option.some v := by
  rw [h.cell j, ← Array.getElem?_toList]
  exact hj
theorem add_lit (b o j : Nat) : (⟨b, o, none⟩ : Addr).add j = ⟨b, o + j, none⟩ := by unfold Addr.add; split <;> simp_all

/-- copy(d, s), elements of several cells -/
theorem run_copyN {P : Program} (w : World) (dT sT ty elem : TypeId) (size : Nat) (b o dLen dCap : Nat) (a : Addr) (sLen sCap m : Nat) (cs : List Value)
    (hu : P.underlying dT = some (.slice elem)) (hs : (P.info? elem).map (·.size) = some size) (hm : Nat.min sLen dLen = m) (hn : cs.length = m * size)
    (hsrc : ∀ j v, cs[j]? = some v → w.cell? (a.add j) = some v) (hc : ∀ j, j < cs.length → (w.cell? ⟨b, o + j, none⟩).isSome = true) (hf : ∀ j, j < cs.length → w.frozen? ⟨b, o + j, none⟩ = false) (h1 : ∀ v ∈ cs, v.oneCell' = true) :
    (Builtin.copy_ #[dT, sT] ty #[.slice (some ⟨b, o, none⟩) dLen dCap, .slice (some a) sLen sCap]).run P w = .ok (goInt m) (w.setCells b o cs) := by
  have hl := run_loadCells_list (P := P) w a cs hsrc
  have hst := run_storeCells_cells (P := P) b o cs 0 w (by simpa using hc) (by simpa using hf) h1
  cases hq : P.info? elem with
  | none => simp [hq] at hs
  | some i =>
    have hi : i.size = size := by simpa [hq] using hs
    simp [Builtin.copy_, run_underlying hu, Builtin.lenOf, Builtin.firstCells, sizeOf, typeInfo, hq, hi, hm, ← hn, hl, hst]
theorem wp_copy_run {P : Program} (w : World) {o : Oper} {a : Act} {K : Act → World → Prop} {Q : Exit → Act → World → Prop} (d s : Operand) (t t' : TypeId)
    (ho : o.op = .call { callee := .builtin .copy, args := #[d, s], argTypes := #[t, t'] }) (v u : Value) (hd : a.eval d = v) (hs : a.eval s = u) {v' : Value} {w' : World}
    (hr : (Builtin.copy_ #[t, t'] o.type #[v, u]).run P w = .ok v' w') (h : K (a.put o.dst v') w') : o.wp P a w K Q := by
  unfold Oper.wp execOp
  simp only [ho, resolve, invoke, builtin, Sem.run_bind, Sem.run_pure, Result.andThen_ok, List.map_toArray, List.map_cons, List.map_nil, hd, hs, hr]
  exact h
theorem wpList_copy_run {P : Program} (w : World) {ops : Array Oper} {rest : List Oper} {o : Oper} {a : Act} {Q : Exit → Act → World → Prop} (hgd : o.guard = none) (d s : Operand) (t t' : TypeId)
    (ho : o.op = .call { callee := .builtin .copy, args := #[d, s], argTypes := #[t, t'] }) (v u : Value) (hd : a.eval d = v) (hs : a.eval s = u) {v' : Value} {w' : World}
    (hr : (Builtin.copy_ #[t, t'] o.type #[v, u]).run P w = .ok v' w') (h : wpList P ops Q rest (a.put o.dst v') w') : wpList P ops Q (o :: rest) a w :=
  wpList_plain hgd fun _ hK => wp_copy_run w d s t t' ho v u hd hs hr (hK _ _ h)
theorem step_copy_run {P : Program} {ops : Array Oper} {o : Oper} {a : Act} {w : World} {K : Act → World → Prop} {Q : Exit → Act → World → Prop} {E : Prop}
    (hg : o.guard = none) (d x : Operand) (dT sT : TypeId) (hop : o.op = Op.call { callee := Callee.builtin Builtin.copy, args := #[d, x], argTypes := #[dT, sT] })
    (v u : Value) (hd : a.eval d = v) (hx : a.eval x = u) {v' : Value} {w' : World} (hr : (Builtin.copy_ #[dT, sT] o.type #[v, u]).run P w = .ok v' w') (hK : K (a.put o.dst v') w') :
    if Region.wanted o (yielded ops a.tmps) = true then Oper.wp P o a w K Q else E := by
  have hw : Region.wanted o (yielded ops a.tmps) = true := by simp [Region.wanted, hg]
  rw [if_pos hw]
  exact wp_copy_run w d x dT sT hop v u hd hx hr hK
/-- clear(s), one element of several cells -/
theorem run_clear1 {P : Program} (w : World) (t e ty : TypeId) (z : Value) (ht : P.underlying t = some (.slice e)) (hv : ∀ w, (zeroValue e).run P w = .ok z w) (b o c : Nat) (hz : (Builtin.zeroCells z.cells 1).toList = z.cells.toList) (h1 : ∀ v ∈ z.cells.toList, v.oneCell' = true)
    (hc : ∀ j, j < z.cells.toList.length → (w.cell? ⟨b, o + j, none⟩).isSome = true) (hf : ∀ j, j < z.cells.toList.length → w.frozen? ⟨b, o + j, none⟩ = false) :
    (Builtin.clear_ #[t] ty #[.slice (some ⟨b, o, none⟩) 1 c]).run P w = .ok (.tuple #[]) (w.setCells b o z.cells.toList) := by
  have hst := run_storeCells_cells (P := P) b o z.cells.toList 0 w (by simpa using hc) (by simpa using hf) h1
  simp only [Nat.add_zero] at hst
  simp [Builtin.clear_, run_underlying ht, hv, hz, hst]
end Go.Proofs.Ytpkmngkepmoikaa

/- Rows of numbers and of strings: the words for 'append(append(append([]T{}, l[:k]...), x), l[k:]...)'. -/
namespace Go.Proofs.Ytpkmngkepmoikaa
set_option linter.unusedVariables false
set_option linter.unusedSimpArgs false
open Go.RowKit

theorem seq_to {w : World} {A : Option Addr} {n c : Nat} {xs : List Value} (h : Seq w (.slice A n c) n xs) {i : Nat} (hi : i ≤ n) : Seq w (.slice A i c) i (xs.take i) := by
  obtain ⟨A', c', e, h1, h2, h3, h4⟩ := h
  injection e with e1 e2 e3
  subst e1 e3
  refine ⟨A, c, rfl, by omega, h2, h3, fun hp => ?_⟩
  obtain ⟨b, o, e1, hb, hc⟩ := h4 (by omega)
  refine ⟨b, o, e1, hb, fun j u hu => hc j u ?_⟩
  rw [List.getElem?_take] at hu
  split at hu
  · exact hu
  · cases hu
theorem seq_from {w : World} {b o n c : Nat} {xs : List Value} (h : Seq w (.slice (some ⟨b, o, none⟩) n c) n xs) {k : Nat} (hk : k ≤ n) : Seq w (.slice (some ⟨b, o + k, none⟩) (n - k) (c - k)) (n - k) (xs.drop k) := by
  obtain ⟨A', c', e, h1, h2, h3, h4⟩ := h
  injection e with e1 e2 e3
  subst e1 e3
  refine ⟨_, c - k, rfl, by omega, by unfold maxLen at *; omega, (fun h => by cases h), fun hp => ?_⟩
  obtain ⟨b', o', e1, hb, hc⟩ := h4 (by omega)
  injection e1 with e1
  injection e1 with e1 e2
  subst e1 e2
  refine ⟨b, o + k, rfl, hb, fun j u hu => ?_⟩
  rw [List.getElem?_drop] at hu
  rw [Nat.add_assoc]
  exact hc _ u hu
theorem seq_none {w : World} {A : Option Addr} {xs : List Value} {k : Nat} (hk : xs.length ≤ k) : Seq w (.slice A 0 0) 0 (xs.drop k) := by
  rw [List.drop_of_length_le hk]
  exact ⟨A, 0, rfl, Nat.le_refl _, Nat.zero_le _, fun _ => rfl, fun h => absurd h (by simp)⟩
theorem seq_one {w : World} {g : Nat} {t : TypeId} {u : Value} (h : Box w g t #[u]) : Seq w (.slice (some ⟨g, 0, none⟩) 1 1) 1 [u] := by
  refine ⟨_, 1, rfl, Nat.le_refl _, by unfold maxLen; omega, (fun h => by cases h), fun _ => ⟨g, 0, rfl, h.lt, fun j v hv => ?_⟩⟩
  cases j with
  | zero =>
    have e : v = u := by simpa using hv.symm
    subst e
    exact h.cell 0
  | succ j => simp at hv
theorem ints_to {w : World} {A : Option Addr} {n c : Nat} {zs : List Int} (h : Ints w (.slice A n c) zs) (hn : zs.length = n) {i : Nat} (hi : i ≤ n) : Ints w (.slice A i c) (zs.take i) := by
  unfold Ints
  rw [List.length_take, hn, Nat.min_eq_left hi, List.map_take]
  unfold Ints at h
  rw [hn] at h
  exact seq_to h hi
theorem ints_from {w : World} {b o n c : Nat} {zs : List Int} (h : Ints w (.slice (some ⟨b, o, none⟩) n c) zs) (hn : zs.length = n) {k : Nat} (hk : k ≤ n) : Ints w (.slice (some ⟨b, o + k, none⟩) (n - k) (c - k)) (zs.drop k) := by
  unfold Ints
  rw [List.length_drop, hn, List.map_drop]
  unfold Ints at h
  rw [hn] at h
  exact seq_from h hk
theorem ints_none {w : World} {A : Option Addr} {zs : List Int} {k : Nat} (hk : zs.length ≤ k) : Ints w (.slice A 0 0) (zs.drop k) := by
  unfold Ints
  rw [List.length_drop, Nat.sub_eq_zero_of_le hk, List.map_drop]
  exact seq_none (by simpa using hk)
theorem ints_box1 {w : World} {g : Nat} {z : Int} (h : Box w g 3 #[.int .i64 z]) : Ints w (.slice (some ⟨g, 0, none⟩) 1 1) [z] := seq_one h
theorem step_put_I (a0 w : World) {ops : Array Oper} {o : Oper} {a : Act} {K : Act → World → Prop} {Q : Exit → Act → World → Prop} {E : Prop} (hgd : o.guard = none) (s x : Operand)
    (ho : o.op = .call { callee := .builtin .append, args := #[s, x], argTypes := #[23, 23] })
    (v : Value) (zs : List Int) (hs : a.eval s = v) (hown : OwnI w a0.heap.size v zs) (hk : Kept a0 w) (u : Value) (ys : List Int) (hx : a.eval x = u) (hr : Ints w u ys)
    (hl : zs.length + ys.length ≤ 16777216)
    (h : ∀ v' w', OwnI w' a0.heap.size v' (zs ++ ys) → Kept a0 w' → Only (fp v) w w' → K (a.put o.dst v') w') :
    if Region.wanted o (yielded ops a.tmps) = true then Oper.wp Try.prog o a w K Q else E :=
  step_append_I w hgd s x ho a0.heap.size v zs hs hown u ys hx hr hl hk.size fun v' w' h2 h3 =>
    h v' w' h2 ((only_of_grown h3).above hk (fun b hb => (own_fp hown b hb).1)) (only_of_grown h3)
theorem own0_I {w : World} {base g : Nat} (hg : base ≤ g) (h : Box w g 3 #[]) : OwnI w base (.slice (some ⟨g, 0, none⟩) 0 0) [] := own_made _ _ _ hg h
theorem strs_to {w : World} {A : Option Addr} {n c : Nat} {zs : List ByteArray} (h : Strs w (.slice A n c) zs) (hn : zs.length = n) {i : Nat} (hi : i ≤ n) : Strs w (.slice A i c) (zs.take i) := by
  refine ⟨?_, fun z hz => h.2 z (List.mem_of_mem_take hz)⟩
  rw [List.length_take, hn, Nat.min_eq_left hi, List.map_take]
  have h1 := h.1
  rw [hn] at h1
  exact seq_to h1 hi
theorem strs_from {w : World} {b o n c : Nat} {zs : List ByteArray} (h : Strs w (.slice (some ⟨b, o, none⟩) n c) zs) (hn : zs.length = n) {k : Nat} (hk : k ≤ n) : Strs w (.slice (some ⟨b, o + k, none⟩) (n - k) (c - k)) (zs.drop k) := by
  refine ⟨?_, fun z hz => h.2 z (List.mem_of_mem_drop hz)⟩
  rw [List.length_drop, hn, List.map_drop]
  have h1 := h.1
  rw [hn] at h1
  exact seq_from h1 hk
theorem strs_none {w : World} {A : Option Addr} {zs : List ByteArray} {k : Nat} (hk : zs.length ≤ k) : Strs w (.slice A 0 0) (zs.drop k) := by
  refine ⟨?_, fun z hz => by rw [List.drop_of_length_le hk] at hz; cases hz⟩
  rw [List.length_drop, Nat.sub_eq_zero_of_le hk, List.map_drop]
  exact seq_none (by simpa using hk)
theorem strs_box1 {w : World} {g : Nat} {z : ByteArray} (h : Box w g 9 #[.string z]) (hz : z.size ≤ maxLen) : Strs w (.slice (some ⟨g, 0, none⟩) 1 1) [z] := ⟨seq_one h, fun y hy => by rw [List.mem_singleton] at hy; subst hy; exact hz⟩
theorem step_put_S (a0 w : World) {ops : Array Oper} {o : Oper} {a : Act} {K : Act → World → Prop} {Q : Exit → Act → World → Prop} {E : Prop} (hgd : o.guard = none) (s x : Operand)
    (ho : o.op = .call { callee := .builtin .append, args := #[s, x], argTypes := #[70, 70] })
    (v : Value) (zs : List ByteArray) (hs : a.eval s = v) (hown : OwnS w a0.heap.size v zs) (hk : Kept a0 w) (u : Value) (ys : List ByteArray) (hx : a.eval x = u) (hr : Strs w u ys)
    (hl : zs.length + ys.length ≤ 16777216)
    (h : ∀ v' w', OwnS w' a0.heap.size v' (zs ++ ys) → Kept a0 w' → Only (fp v) w w' → K (a.put o.dst v') w') :
    if Region.wanted o (yielded ops a.tmps) = true then Oper.wp Try.prog o a w K Q else E :=
  step_append_S w hgd s x ho a0.heap.size v zs hs hown u ys hx hr hl hk.size fun v' w' h2 h3 =>
    h v' w' h2 ((only_of_grown h3).above hk (fun b hb => (own_fp hown.1 b hb).1)) (only_of_grown h3)
theorem own0_S {w : World} {base g : Nat} (hg : base ≤ g) (h : Box w g 9 #[]) : OwnS w base (.slice (some ⟨g, 0, none⟩) 0 0) [] := ⟨own_made _ _ _ hg h, fun _ h => by cases h⟩
end Go.Proofs.Ytpkmngkepmoikaa

/- Contracts of chapter 1: fractions compared; the constants. -/
namespace Go.Proofs.Ytpkmngkepmoikaa
set_option linter.unusedVariables false
set_option linter.unusedSimpArgs false
open Go.RowKit

def partB (a b : Int) : Bool := inB a (-1000000000000) 1000000000000 && inB b 1 1000000
theorem partB_true {a b : Int} (h : partB a b = true) : -1000000000000 ≤ a ∧ a ≤ 1000000000000 ∧ 1 ≤ b ∧ b ≤ 1000000 := by
  unfold partB at h
  rw [Bool.and_eq_true] at h
  have h1 := inB_true h.1
  have h2 := inB_true h.2
  exact ⟨h1.1, h1.2, h2.1, h2.2⟩
def sgn (n : Int) : Int := if 0 < n then 1 else if n < 0 then -1 else 0
def poMd (a b mode : Int) : Int := if mode = -1 then a / b else if mode = 0 then (2 * a + b) / (2 * b) else -(-a / b)

def cmpV (a b c d : Int) : Int := if partB a b && partB c d then sgn (a * d - c * b) else 0
theorem mul_bd {a d A D : Int} (h1 : -A ≤ a) (h2 : a ≤ A) (h3 : 0 ≤ d) (h4 : d ≤ D) : -(A * D) ≤ a * d ∧ a * d ≤ A * D := by
  have hA : 0 ≤ A := by omega
  constructor
  · have q1 : -A * d ≤ a * d := Int.mul_le_mul_of_nonneg_right h1 h3
    have q2 : A * d ≤ A * D := Int.mul_le_mul_of_nonneg_left h4 hA
    rw [Int.neg_mul] at q1
    omega
  · have q1 : a * d ≤ A * d := Int.mul_le_mul_of_nonneg_right h2 h3
    have q2 : A * d ≤ A * D := Int.mul_le_mul_of_nonneg_left h4 hA
    omega
theorem part_mul {a b c d : Int} (h1 : partB a b = true) (h2 : partB c d = true) : -1000000000000000000 ≤ a * d ∧ a * d ≤ 1000000000000000000 := by
  have q1 := partB_true h1
  have q2 := partB_true h2
  have := mul_bd (a := a) (d := d) (A := 1000000000000) (D := 1000000) (by omega) (by omega) (by omega) (by omega)
  omega
end Go.Proofs.Ytpkmngkepmoikaa

/- Contracts of chapter 1: lowest terms, sums of fractions, rounding. -/
namespace Go.Proofs.Ytpkmngkepmoikaa
set_option linter.unusedVariables false
set_option linter.unusedSimpArgs false
open Go.RowKit

theorem gcd_step (m k : Nat) : Nat.gcd k (m % k) = Nat.gcd m k := by rw [Nat.gcd_comm k, ← Nat.gcd_rec, Nat.gcd_comm]
theorem gcd_pos {a b : Int} (h : 1 ≤ b) : 1 ≤ Int.gcd a b := by
  have : Int.gcd a b ≠ 0 := by
    intro h0
    rw [Int.gcd_eq_zero_iff] at h0
    omega
  omega
def lowT (a b : Int) : Int := if partB a b then a.tdiv (Int.gcd a b) else 0
def lowB (a b : Int) : Int := if partB a b then b / (Int.gcd a b) else 0
def adN (a b c d : Int) : Int := a * d + c * b
def adD (b d : Int) : Int := b * d
def adT (a b c d : Int) : Int := (adN a b c d).tdiv (Int.gcd (adN a b c d) (adD b d))
def adB (a b c d : Int) : Int := (adD b d) / (Int.gcd (adN a b c d) (adD b d))
def addOk (a b c d : Int) : Bool := partB a b && partB c d && partB (adT a b c d) (adB a b c d)
def addT (a b c d : Int) : Int := if addOk a b c d then adT a b c d else 0
def addB (a b c d : Int) : Int := if addOk a b c d then adB a b c d else 0
theorem ad_bd {a b c d : Int} (h1 : partB a b = true) (h2 : partB c d = true) :
    (-4611686018427387904 ≤ a * d + c * b ∧ a * d + c * b ≤ 4611686018427387904 ∧ 1 ≤ b * d ∧ b * d ≤ 4611686018427387904) := by
  have q1 := part_mul h1 h2
  have q2 := part_mul h2 h1
  have e1 := partB_true h1
  have e2 := partB_true h2
  have q3 := mul_bd (a := b) (d := d) (A := 1000000) (D := 1000000) (by omega) (by omega) (by omega) (by omega)
  have q4 : 1 * 1 ≤ b * d := Int.mul_le_mul (by omega) (by omega) (by omega) (by omega)
  omega
theorem fdiv_of (a b : Int) (hb : 1 ≤ b) : a / b = if a.tmod b < 0 then a.tdiv b - 1 else a.tdiv b := by
  have h1 := Int.mul_tdiv_add_tmod a b
  have h2 : (a.tmod b) < b := Int.tmod_lt_of_pos a (by omega)
  have h3 : -b < a.tmod b := by
    have h := Int.tmod_lt_of_pos (-a) (show 0 < b by omega)
    rw [Int.neg_tmod] at h
    omega
  split
  · rw [Int.ediv_eq_iff_of_pos (by omega)]
    rw [Int.sub_mul]
    have := Int.mul_comm b (a.tdiv b)
    constructor <;> omega
  · rw [Int.ediv_eq_iff_of_pos (by omega)]
    have := Int.mul_comm b (a.tdiv b)
    constructor <;> omega
theorem tdiv_bd (a b A : Int) (h1 : -A ≤ a) (h2 : a ≤ A) : -A ≤ a.tdiv b ∧ a.tdiv b ≤ A := by
  have h3 : (a.tdiv b).natAbs = a.natAbs / b.natAbs := Int.natAbs_tdiv a b
  have h4 := Nat.div_le_self a.natAbs b.natAbs
  omega
theorem ediv_bd (a b A : Int) (hb : 1 ≤ b) (h1 : -A ≤ a) (h2 : a ≤ A) : -A - 1 ≤ a / b ∧ a / b ≤ A := by
  have h3 := fdiv_of a b hb
  have h4 := tdiv_bd a b A h1 h2
  split at h3 <;> omega
theorem poDown_any (a b : Int) (w : World) (h1 : -4611686018427387904 ≤ a) (h2 : a ≤ 4611686018427387904) (h3 : 1 ≤ b) (h4 : b ≤ 4611686018427387904) :
    Calls Try.prog 119 #[.int .i64 a, .int .i64 b] w fun e w' => e = .returned (.int .i64 (a / b)) ∧ w = w' := by
  have HF := Lib.hid (fdiv_of a b h3)
  obtain ⟨t1, t2⟩ := tdiv_bd a b 4611686018427387904 (by omega) h2
  have hne : (b == 0) = false := by simp; omega
  go_enter Try.func119, Try.ntmps119
  go_wp2
  all_goals
    go_ret
    exact ⟨ret_int (by rw [HF.out]; split <;> omega), rfl⟩
theorem floorDiv_any (a b : Int) (w : World) (h1 : -4611686018427387904 ≤ a) (h2 : a ≤ 4611686018427387904) (h3 : 1 ≤ b) (h4 : b ≤ 4611686018427387904) :
    Calls Try.prog 121 #[.int .i64 a, .int .i64 b] w fun e w' => e = .returned (.int .i64 (a / b)) ∧ w = w' := by
  have HF := Lib.hid (fdiv_of a b h3)
  obtain ⟨t1, t2⟩ := tdiv_bd a b 4611686018427387904 (by omega) h2
  have hne : (b == 0) = false := by simp; omega
  go_enter Try.func121, Try.ntmps121
  go_wp2
  all_goals
    go_ret
    exact ⟨ret_int (by rw [HF.out]; split <;> omega), rfl⟩
theorem poRound_any (a b : Int) (w : World) (h1 : -1000000000000000000 ≤ a) (h2 : a ≤ 1000000000000000000) (h3 : 1 ≤ b) (h4 : b ≤ 1000000000000000000) :
    Calls Try.prog 105 #[.int .i64 a, .int .i64 b] w fun e w' => e = .returned (.int .i64 ((2 * a + b) / (2 * b))) ∧ w = w' := by
  go_enter Try.func105, Try.ntmps105
  go_wp2_with (go_at_call 119; refine (poDown_any _ _ _ (by omega) (by omega) (by omega) (by omega)).mono ?_; rintro e w' ⟨rfl, rfl⟩)
  go_ret
  exact ⟨rfl, rfl⟩
theorem roundDiv_any (a b : Int) (w : World) (h1 : -1000000000000000000 ≤ a) (h2 : a ≤ 1000000000000000000) (h3 : 1 ≤ b) (h4 : b ≤ 1000000000000000000) :
    Calls Try.prog 107 #[.int .i64 a, .int .i64 b] w fun e w' => e = .returned (.int .i64 ((2 * a + b) / (2 * b))) ∧ w = w' := by
  go_enter Try.func107, Try.ntmps107
  go_wp2_with (go_at_call 121; refine (floorDiv_any _ _ _ (by omega) (by omega) (by omega) (by omega)).mono ?_; rintro e w' ⟨rfl, rfl⟩)
  go_ret
  exact ⟨rfl, rfl⟩
def rndOk (a b mode : Int) : Bool := partB a b && inB mode (-1) 1
def rndV (a b mode : Int) : Int := if rndOk a b mode then poMd a b mode else 0
end Go.Proofs.Ytpkmngkepmoikaa

/- Contracts of chapter 1: lists of points. -/
namespace Go.Proofs.Ytpkmngkepmoikaa
set_option linter.unusedVariables false
set_option linter.unusedSimpArgs false
open Go.RowKit
theorem sum_bd (zs : List Int) (M : Int) (hM : 0 ≤ M) (h : ∀ z ∈ zs, -M ≤ z ∧ z ≤ M) (k : Nat) : -((k : Int) * M) ≤ (zs.take k).sum ∧ (zs.take k).sum ≤ (k : Int) * M := by
  induction zs generalizing k with
  | nil =>
    have : 0 ≤ (k : Int) * M := Int.mul_nonneg (by omega) hM
    simp
    omega
  | cons z zs ih =>
    cases k with
    | zero => simp
    | succ k =>
      have h1 := h z (by simp)
      have h2 := ih (fun y hy => h y (by simp [hy])) k
      have h3 : ((k + 1 : Nat) : Int) * M = (k : Int) * M + M := by rw [Int.natCast_add, Int.add_mul]; simp
      rw [List.take_succ_cons, List.sum_cons, h3]
      omega
theorem poSum_any (v : Value) (zs : List Int) (w : World) (h : Ints w v zs) (hn : zs.length ≤ 60) (hp : zs.all (inB · (-1000000) 1000000) = true) :
    Calls Try.prog 59 #[v] w fun e w' => e = .returned (.int .i64 zs.sum) ∧ w = w' := by
  obtain ⟨A, c, rfl, hnc, hcm, hl⟩ := h.out
  unfold maxLen at hcm
  have HL := Lib.hid hl
  have HP := Lib.hid hp
  clear hl h hp
  go_enter Try.func59, Try.ntmps59
  go_wp2
  go_loop [3, 8] (fun s i => ∃ k : Nat, k ≤ zs.length ∧ i = .int .i64 k ∧ s = .int .i64 (zs.take k).sum) (fun _ i => zs.length - (intOf i).toNat)
  case atStart => exact ⟨0, Nat.zero_le _, rfl, rfl⟩
  case round =>
    obtain ⟨k, hk, rfl, rfl⟩ := hrel
    have hb1 := sum_bd zs 1000000 (by omega) (fun z hz => inB_true (List.all_eq_true.1 HP.out z hz)) k
    by_cases hlt : k < zs.length
    · obtain ⟨b, o, z, rfl, hb, hz, hc⟩ := ints_at HL.out hlt
      have hzb := inB_true (List.all_eq_true.1 HP.out z (List.mem_of_getElem? hz))
      have HZ := Lib.hid hz
      clear hz
      go_wp2
      go_round
      case rel => exact ⟨k + 1, by omega, by go_num, by rw [take_snoc HZ.out, List.sum_append]; simp⟩
      case measure => simp [intOf]; omega
    · go_wp2
      go_ret
      exact ⟨ret_int (by rw [List.take_of_length_le (by omega)]), rfl⟩
theorem sumInts_any (v : Value) (zs : List Int) (w : World) (h : Ints w v zs) (hn : zs.length ≤ 60) (hp : zs.all (inB · (-1000000) 1000000) = true) :
    Calls Try.prog 62 #[v] w fun e w' => e = .returned (.int .i64 zs.sum) ∧ w = w' := by
  obtain ⟨A, c, rfl, hnc, hcm, hl⟩ := h.out
  unfold maxLen at hcm
  have HL := Lib.hid hl
  have HP := Lib.hid hp
  clear hl h hp
  go_enter Try.func62, Try.ntmps62
  go_wp2
  go_loop [3, 8] (fun s i => ∃ k : Nat, k ≤ zs.length ∧ i = .int .i64 k ∧ s = .int .i64 (zs.take k).sum) (fun _ i => zs.length - (intOf i).toNat)
  case atStart => exact ⟨0, Nat.zero_le _, rfl, rfl⟩
  case round =>
    obtain ⟨k, hk, rfl, rfl⟩ := hrel
    have hb1 := sum_bd zs 1000000 (by omega) (fun z hz => inB_true (List.all_eq_true.1 HP.out z hz)) k
    by_cases hlt : k < zs.length
    · obtain ⟨b, o, z, rfl, hb, hz, hc⟩ := ints_at HL.out hlt
      have hzb := inB_true (List.all_eq_true.1 HP.out z (List.mem_of_getElem? hz))
      have HZ := Lib.hid hz
      clear hz
      go_wp2
      go_round
      case rel => exact ⟨k + 1, by omega, by go_num, by rw [take_snoc HZ.out, List.sum_append]; simp⟩
      case measure => simp [intOf]; omega
    · go_wp2
      go_ret
      exact ⟨ret_int (by rw [List.take_of_length_le (by omega)]), rfl⟩
theorem arePoints_any (v : Value) (zs : List Int) (w : World) (h : Ints w v zs) :
    Calls Try.prog 77 #[v] w fun e w' => e = .returned (.bool (zs.all (inB · (-1000000) 1000000))) ∧ w = w' := by
  have HI := Lib.hid h
  clear h
  go_enter Try.func77, Try.ntmps77
  go_wp2_with (go_at_call 70; refine (allWithin_any _ _ _ _ _ HI.out).mono ?_; rintro e w' ⟨rfl, rfl⟩)
  go_ret
  exact ⟨rfl, rfl⟩
theorem ints_one (w : World) (x : Int) (t : TypeId) : Ints (w.alloc (.cells #[.int .i64 x] t)) (.slice (some ⟨w.heap.size, 0, none⟩) 1 1) [x] :=
  ⟨_, 1, rfl, Nat.le_refl _, by decide, (fun h => by cases h), fun _ => ⟨w.heap.size, 0, rfl, by simp, fun j u hu => by
    have hj : j = 0 := by
      have := (List.getElem?_eq_some_iff.1 hu).1
      simpa using this
    subst hj
    simp at hu
    subst hu
    simp⟩⟩
theorem ints_new (w : World) (b : Nat) (hb : b = w.heap.size) (x : Int) (t : TypeId) : Ints (w.alloc (.cells #[.int .i64 x] t)) (.slice (some ⟨b, 0, none⟩) 1 1) [x] := by
  subst hb
  exact ints_one w x t
def ptsB (zs : List Int) : Bool := decide (zs.length ≤ 60) && zs.all (inB · (-1000000) 1000000)
theorem ptsB_true {zs : List Int} (h : ptsB zs = true) : zs.length ≤ 60 ∧ zs.all (inB · (-1000000) 1000000) = true := by
  unfold ptsB at h
  rw [Bool.and_eq_true] at h
  exact ⟨by simpa using h.1, h.2⟩
theorem poList_any (v : Value) (zs : List Int) (w : World) (h : Ints w v zs) :
    Calls Try.prog 45 #[v] w fun e w' => e = .returned (.bool (ptsB zs)) ∧ w = w' := by
  have h0 := h
  obtain ⟨A, c, rfl, hnc, hcm, _⟩ := h0.out
  unfold maxLen at hcm
  have HI := Lib.hid h
  clear h h0
  go_enter Try.func45, Try.ntmps45
  go_wp2_with (go_at_call 67; refine (l1All_any _ _ _ _ _ HI.out).mono ?_; rintro e w' ⟨rfl, rfl⟩)
  all_goals
    go_ret
    exact ⟨ret_bool (by simp [ptsB]; omega), rfl⟩
theorem isPointsList_any (v : Value) (zs : List Int) (w : World) (h : Ints w v zs) :
    Calls Try.prog 47 #[v] w fun e w' => e = .returned (.bool (ptsB zs)) ∧ w = w' := by
  have h0 := h
  obtain ⟨A, c, rfl, hnc, hcm, _⟩ := h0.out
  unfold maxLen at hcm
  have HI := Lib.hid h
  clear h h0
  go_enter Try.func47, Try.ntmps47
  go_wp2_with (go_at_call 77; refine (arePoints_any _ _ _ HI.out).mono ?_; rintro e w' ⟨rfl, rfl⟩)
  all_goals
    go_ret
    exact ⟨ret_bool (by simp [ptsB]; omega), rfl⟩
end Go.Proofs.Ytpkmngkepmoikaa

/- Plain facts on sorted lists of numbers. -/
namespace Go.Proofs.Ytpkmngkepmoikaa
set_option linter.unusedVariables false
set_option linter.unusedSimpArgs false

def Desc (l : List Int) : Prop := l.Pairwise fun x y => y ≤ x
theorem desc_unique : ∀ (l m : List Int), l.Perm m → Desc l → Desc m → l = m := by
  intro l
  induction l with
  | nil => intro m h _ _; exact (List.Perm.nil_eq h)
  | cons x l ih =>
    intro m h hl hm
    cases m with
    | nil => exact absurd h.symm (List.not_perm_nil_cons _ _)
    | cons y m =>
      have hx : x ∈ y :: m := h.subset (List.mem_cons_self)
      have hy : y ∈ x :: l := h.symm.subset (List.mem_cons_self)
      have hl' := List.pairwise_cons.1 hl
      have hm' := List.pairwise_cons.1 hm
      have h1 : y ≤ x := by
        rcases List.mem_cons.1 hy with e | e
        · omega
        · exact hl'.1 y e
      have h2 : x ≤ y := by
        rcases List.mem_cons.1 hx with e | e
        · omega
        · exact hm'.1 x e
      have e : x = y := by omega
      subst e
      rw [ih m (List.Perm.cons_inv h) hl'.2 hm'.2]
theorem desc_mergeSort (zs : List Int) : Desc ((zs.mergeSort fun x y => decide (x ≤ y)).reverse) := by
  unfold Desc
  rw [List.pairwise_reverse]
  have h := List.pairwise_mergeSort (le := fun x y : Int => decide (x ≤ y)) (by intro a b c h1 h2; simp at *; omega) (by intro a b; simp; omega) zs
  exact h.imp (by simp)
theorem desc_is {zs os : List Int} (hp : os.Perm zs) (hd : Desc os) : os = (zs.mergeSort fun x y => decide (x ≤ y)).reverse :=
  desc_unique _ _ (hp.trans ((List.reverse_perm _).trans (List.mergeSort_perm _ _)).symm) hd (desc_mergeSort zs)
theorem desc_ins {os : List Int} {n : Int} {k : Nat} (hd : Desc os) (hk : k ≤ os.length) (h1 : ∀ j x, k ≤ j → os[j]? = some x → x < n) (h2 : ∀ x, 0 < k → os[k - 1]? = some x → n ≤ x) :
    Desc (os.take k ++ n :: os.drop k) := by
  unfold Desc
  rw [List.pairwise_append]
  refine ⟨hd.sublist (List.take_sublist _ _), ?_, ?_⟩
  · rw [List.pairwise_cons]
    refine ⟨fun y hy => ?_, hd.sublist (List.drop_sublist _ _)⟩
    obtain ⟨j, hj⟩ := List.getElem?_of_mem hy
    rw [List.getElem?_drop] at hj
    have := h1 _ _ (by omega) hj
    omega
  · intro a ha b hb
    obtain ⟨i, hi⟩ := List.getElem?_of_mem ha
    have hik : i < k := by
      have := (List.getElem?_eq_some_iff.1 hi).1
      rw [List.length_take] at this
      omega
    rw [List.getElem?_take_of_lt hik] at hi
    have hlt : k - 1 < os.length := by omega
    have hk1 : os[k - 1]? = some os[k - 1] := List.getElem?_eq_getElem hlt
    have hn := h2 _ (by omega) hk1
    have hle : os[k - 1] ≤ a := by
      obtain ⟨hi', e⟩ := List.getElem?_eq_some_iff.1 hi
      rcases Nat.lt_or_ge i (k - 1) with hlt' | hge
      · have := List.pairwise_iff_getElem.1 hd i (k - 1) hi' hlt hlt'
        omega
      · have : i = k - 1 := by omega
        subst this
        omega
    rcases List.mem_cons.1 hb with e | e
    · omega
    · obtain ⟨j, hj⟩ := List.getElem?_of_mem e
      rw [List.getElem?_drop] at hj
      have := h1 _ _ (by omega) hj
      omega
theorem perm_ins {os l : List Int} {n : Int} {k : Nat} (hp : os.Perm l) : (os.take k ++ n :: os.drop k).Perm (l ++ [n]) := by
  refine List.perm_middle.trans ?_
  rw [List.take_append_drop]
  exact (List.Perm.cons n hp).trans (List.perm_append_singleton n l).symm
end Go.Proofs.Ytpkmngkepmoikaa

/- Points: sorted points. -/
namespace Go.Proofs.Ytpkmngkepmoikaa
set_option linter.unusedVariables false
set_option linter.unusedSimpArgs false
open Go.RowKit

theorem own_cases {w : World} {base : Nat} {v : Value} {zs : List Int} (h : OwnI w base v zs) : (v = .slice none 0 0 ∧ zs = []) ∨ ∃ g cap, v = .slice (some ⟨g, 0, none⟩) zs.length cap ∧ zs.length ≤ cap ∧ cap ≤ maxLen := by
  rcases h.2 with ⟨e1, e2⟩ | ⟨g, cap, cur, e1, _, _, e4, e5, _⟩
  · exact .inl ⟨e1, List.eq_nil_of_length_eq_zero e2⟩
  · exact .inr ⟨g, cap, e1, e4, e5⟩
set_option maxRecDepth 100000 in
set_option maxHeartbeats 16000000 in
theorem poSorted_any (v : Value) (zs : List Int) (w : World) (h : Ints w v zs) (hl : zs.length ≤ 60) :
    Calls Try.prog 46 #[v] w fun e w' => ∃ v' os, e = .returned v' ∧ OwnI w' w.heap.size v' os ∧ os.Perm zs ∧ Desc os ∧ Kept w w' := by
  obtain ⟨A, c, rfl, hnc, hcm, hA⟩ := h.out
  unfold maxLen at hcm
  have HA := Lib.hid hA
  clear hA h
  go_enter Try.func46, Try.ntmps46
  go_wp2_with fail
  go_loopw [3, 9] (fun s3 s9 wr => ∃ (j : Nat) (os : List Int), j ≤ zs.length ∧ s9 = .int .i64 j ∧ OwnI wr w.heap.size s3 os ∧ os.Perm (zs.take j) ∧ Desc os ∧ Kept w wr) (fun _ i _ => zs.length - (intOf i).toNat)
  case atStart => exact ⟨0, [], Nat.zero_le _, rfl, ⟨by simp, .inl ⟨rfl, rfl⟩⟩, .refl _, List.Pairwise.nil, Kept.refl _⟩
  case round =>
    obtain ⟨j, os, hj, rfl, ho, hp, hd, hkept⟩ := hrel
    have hol : os.length ≤ 60 := by have q := hp.length_eq; rw [List.length_take] at q; omega
    have HP := Lib.hid hp
    have HD := Lib.hid hd
    clear hp hd
    by_cases hlt : j < zs.length
    · obtain ⟨b, o, z, rfl, hb, hz, hc⟩ := ints_at (HA.out.kept hkept) hlt
      have HZ := Lib.hid hz
      clear hz
      rcases own_cases ho with ⟨rfl, rfl⟩ | ⟨g, cap, rfl, hcap1, hcap2⟩
      · have HO := Lib.hid ho
        clear ho
        go_wp2_with fail
        go_loop [6] (fun s6 => s6 = .int .i64 0) (fun _ => 0)
        case atStart => rfl
        case round =>
          subst hrel
          have HTO : Hid (Ints wr (.slice none 0 0) (([] : List Int).take 0)) := Lib.hid (Seq.nil wr)
          have HFR : Hid (Ints wr (.slice none 0 0) (([] : List Int).drop 0)) := Lib.hid (Seq.nil wr)
          have HLT : Hid ((([] : List Int).take 0 ++ [z]).length + (([] : List Int).drop 0).length ≤ 16777216) := Lib.hid (by simp)
          go_wp2_with fail
          have bA : Box (wr.alloc (.cells #[] 3)).drew wr.heap.size 3 #[] := Box.new wr _ _ _ rfl
          have bB : Box ((wr.alloc (.cells #[] 3)).alloc (.cells #[.int .i64 z] 3)).drew wr.heap.size 3 #[] := (Box.new wr wr.heap.size _ _ rfl).alloc _
          have bC : Box ((wr.alloc (.cells #[.int .i64 z] 3)).alloc (.cells #[] 3)).drew (wr.heap.size + 1) 3 #[] := Box.new (wr.alloc (.cells #[.int .i64 z] 3)) _ _ _ (by simp)
          have vB : Box ((wr.alloc (.cells #[] 3)).alloc (.cells #[.int .i64 z] 3)).drew (wr.heap.size + 1) 3 #[.int .i64 z] := Box.new (wr.alloc (.cells #[] 3)) _ _ _ (by simp)
          have vC : Box ((wr.alloc (.cells #[.int .i64 z] 3)).alloc (.cells #[] 3)).drew wr.heap.size 3 #[.int .i64 z] := (Box.new wr wr.heap.size _ _ rfl).alloc _
          have kA : Kept wr (wr.alloc (.cells #[] 3)).drew := ((Kept.refl wr).alloc _).drew
          have kB : Kept wr ((wr.alloc (.cells #[] 3)).alloc (.cells #[.int .i64 z] 3)).drew := (((Kept.refl wr).alloc _).alloc _).drew
          have kC : Kept wr ((wr.alloc (.cells #[.int .i64 z] 3)).alloc (.cells #[] 3)).drew := (((Kept.refl wr).alloc _).alloc _).drew
          go_region_held3 (fun _ => True) (trivial) (first | (refine step_put_I wr _ rfl (.tmp 28) (.tmp 31) rfl (.slice (some ⟨wr.heap.size, 0, none⟩) 0 0) [] rfl (own0_I (by first | exact Nat.le_refl _ | omega) bA) kA _ (([] : List Int).take 0) rfl (HTO.out.kept kA) (by simp <;> omega) ?_; intro v1 w1 o1 k1 on1; rw [List.nil_append] at o1) | (refine step_put_I wr _ rfl (.tmp 28) (.tmp 31) rfl (.slice (some ⟨wr.heap.size, 0, none⟩) 0 0) [] rfl (own0_I (by first | exact Nat.le_refl _ | omega) bB) kB _ (([] : List Int).take 0) rfl (HTO.out.kept kB) (by simp <;> omega) ?_; intro v1 w1 o1 k1 on1; rw [List.nil_append] at o1; have hv2 := ints_box1 (vB.only on1 (by simp [fp_some]))) | (refine step_put_I wr _ rfl (.tmp 28) (.tmp 31) rfl (.slice (some ⟨wr.heap.size + 1, 0, none⟩) 0 0) [] rfl (own0_I (by first | exact Nat.le_refl _ | omega) bC) kC _ (([] : List Int).take 0) rfl (HTO.out.kept kC) (by simp <;> omega) ?_; intro v1 w1 o1 k1 on1; rw [List.nil_append] at o1; have hv2 := ints_box1 (vC.only on1 (by simp [fp_some]))) | (refine step_put_I wr _ rfl (.tmp 32) (.tmp 34) rfl _ (([] : List Int).take 0) rfl o1 k1 _ [z] rfl hv2 (by simp <;> omega) ?_; intro v2 w2 o2 k2 on2) | (refine step_put_I wr _ rfl (.tmp 32) (.tmp 34) rfl _ (([] : List Int).take 0) rfl (o1.kept ((Kept.refl w1).alloc (.cells #[.int .i64 z] 3))) (k1.alloc (.cells #[.int .i64 z] 3)) _ [z] rfl (ints_box1 (Box.new w1 _ _ _ rfl)) (by simp <;> omega) ?_; intro v2 w2 o2 k2 on2) | (refine step_put_I wr _ rfl (.tmp 35) (.tmp 38) rfl _ (([] : List Int).take 0 ++ [z]) rfl o2 k2 _ (([] : List Int).drop 0) rfl (HFR.out.kept k2) HLT.out ?_; intro v3 w3 o3 k3 on3))
          all_goals
            go_wp2_with fail
            go_roundw
            case rel => exact ⟨j + 1, [z], by omega, by go_num, o3.base hkept.size, (take_snoc HZ.out).symm ▸ (perm_ins (k := 0) HP.out), List.pairwise_singleton _ _, hkept.trans k3⟩
            case measure => simp [intOf]; omega
      · have HO := Lib.hid ho
        clear ho
        unfold maxLen at hcap2
        go_wp2_with fail
        go_loop [6] (fun s6 => ∃ m : Nat, m ≤ os.length ∧ s6 = .int .i64 m ∧ ∀ i x, m ≤ i → os[i]? = some x → x < z) (fun s6 => (intOf s6).toNat)
        case atStart => exact ⟨os.length, Nat.le_refl _, rfl, fun i x hi hx => absurd (List.getElem?_eq_some_iff.1 hx).1 (by omega)⟩
        case round =>
          obtain ⟨m, hm, rfl, hgt⟩ := hrel
          have HG := Lib.hid hgt
          clear hgt
          by_cases hm0 : m = 0
          · have hd1 : decide ((0 : Int) < (m : Int)) = false := by simp; omega
            have hd2 : decide (0 < m) = false := by simp; omega
            have HX : Hid (∀ x, 0 < m → os[m - 1]? = some x → z ≤ x) := Lib.hid (fun x hp => absurd hp (by omega))
            clear hm0
            go_wp2_with fail
            clear hd1 hd2
            have HLT : Hid ((os.take m ++ [z]).length + (os.drop m).length ≤ 16777216) := Lib.hid (by rw [List.length_append, List.length_take, List.length_drop]; simp; omega)
            have htl : (os.take m).length ≤ 60 := by rw [List.length_take]; omega
            have HTO : Hid (Ints wr (.slice (some ⟨g, 0, none⟩) m cap) (os.take m)) := Lib.hid (ints_to HO.out.ints rfl hm)
            by_cases hcap : cap = m
            · subst hcap
              have h9 : os.length = cap := by omega
              have H9 := Lib.hid h9
              have HFR : Hid (Ints wr (.slice (some ⟨g, 0, none⟩) 0 0) (os.drop cap)) := Lib.hid (ints_none (by omega))
              have g2 : (cap : Int) ≤ (os.length : Int) := by omega
              have g3 : (os.length : Int) ≤ (cap : Int) := by omega
              have g5 : os.length ≤ cap := by omega
              clear h9
              have bA : Box (wr.alloc (.cells #[] 3)).drew wr.heap.size 3 #[] := Box.new wr _ _ _ rfl
              have bB : Box ((wr.alloc (.cells #[] 3)).alloc (.cells #[.int .i64 z] 3)).drew wr.heap.size 3 #[] := (Box.new wr wr.heap.size _ _ rfl).alloc _
              have bC : Box ((wr.alloc (.cells #[.int .i64 z] 3)).alloc (.cells #[] 3)).drew (wr.heap.size + 1) 3 #[] := Box.new (wr.alloc (.cells #[.int .i64 z] 3)) _ _ _ (by simp)
              have vB : Box ((wr.alloc (.cells #[] 3)).alloc (.cells #[.int .i64 z] 3)).drew (wr.heap.size + 1) 3 #[.int .i64 z] := Box.new (wr.alloc (.cells #[] 3)) _ _ _ (by simp)
              have vC : Box ((wr.alloc (.cells #[.int .i64 z] 3)).alloc (.cells #[] 3)).drew wr.heap.size 3 #[.int .i64 z] := (Box.new wr wr.heap.size _ _ rfl).alloc _
              have kA : Kept wr (wr.alloc (.cells #[] 3)).drew := ((Kept.refl wr).alloc _).drew
              have kB : Kept wr ((wr.alloc (.cells #[] 3)).alloc (.cells #[.int .i64 z] 3)).drew := (((Kept.refl wr).alloc _).alloc _).drew
              have kC : Kept wr ((wr.alloc (.cells #[.int .i64 z] 3)).alloc (.cells #[] 3)).drew := (((Kept.refl wr).alloc _).alloc _).drew
              go_region_held3 (fun _ => True) (trivial) (first | (refine step_put_I wr _ rfl (.tmp 28) (.tmp 31) rfl (.slice (some ⟨wr.heap.size, 0, none⟩) 0 0) [] rfl (own0_I (by first | exact Nat.le_refl _ | omega) bA) kA _ (os.take cap) rfl (HTO.out.kept kA) (by simp <;> omega) ?_; intro v1 w1 o1 k1 on1; rw [List.nil_append] at o1) | (refine step_put_I wr _ rfl (.tmp 28) (.tmp 31) rfl (.slice (some ⟨wr.heap.size, 0, none⟩) 0 0) [] rfl (own0_I (by first | exact Nat.le_refl _ | omega) bB) kB _ (os.take cap) rfl (HTO.out.kept kB) (by simp <;> omega) ?_; intro v1 w1 o1 k1 on1; rw [List.nil_append] at o1; have hv2 := ints_box1 (vB.only on1 (by simp [fp_some]))) | (refine step_put_I wr _ rfl (.tmp 28) (.tmp 31) rfl (.slice (some ⟨wr.heap.size + 1, 0, none⟩) 0 0) [] rfl (own0_I (by first | exact Nat.le_refl _ | omega) bC) kC _ (os.take cap) rfl (HTO.out.kept kC) (by simp <;> omega) ?_; intro v1 w1 o1 k1 on1; rw [List.nil_append] at o1; have hv2 := ints_box1 (vC.only on1 (by simp [fp_some]))) | (refine step_put_I wr _ rfl (.tmp 32) (.tmp 34) rfl _ (os.take cap) rfl o1 k1 _ [z] rfl hv2 (by simp <;> omega) ?_; intro v2 w2 o2 k2 on2) | (refine step_put_I wr _ rfl (.tmp 32) (.tmp 34) rfl _ (os.take cap) rfl (o1.kept ((Kept.refl w1).alloc (.cells #[.int .i64 z] 3))) (k1.alloc (.cells #[.int .i64 z] 3)) _ [z] rfl (ints_box1 (Box.new w1 _ _ _ rfl)) (by simp <;> omega) ?_; intro v2 w2 o2 k2 on2) | (refine step_put_I wr _ rfl (.tmp 35) (.tmp 38) rfl _ (os.take cap ++ [z]) rfl o2 k2 _ (os.drop cap) (by first | rfl | (simp [Act.eval, Act.put, H9.out])) (HFR.out.kept k2) HLT.out ?_; intro v3 w3 o3 k3 on3))
              all_goals
                go_wp2_with fail
                go_roundw
                case rel => exact ⟨j + 1, os.take cap ++ z :: os.drop cap, by omega, by go_num, (by have q := o3.base hkept.size; rw [List.append_assoc] at q; exact q), (take_snoc HZ.out).symm ▸ perm_ins HP.out, desc_ins HD.out hm HG.out HX.out, hkept.trans k3⟩
                case measure => simp [intOf]; omega
            · have HCAP := Lib.hid hcap
              have HFR : Hid (Ints wr (.slice (some ⟨g, m, none⟩) (os.length - m) (cap - m)) (os.drop m)) := Lib.hid (by have q := ints_from HO.out.ints rfl hm; rw [Nat.zero_add] at q; exact q)
              have hc2 : ¬ cap = m := hcap
              have hc3 : (cap == m) = false := beq_eq_false_iff_ne.2 hcap
              have g1 : (m : Int) ≤ (cap : Int) := by omega
              have g2 : (m : Int) ≤ (os.length : Int) := by omega
              have g3 : (os.length : Int) ≤ (cap : Int) := by omega
              have g4 : m ≤ cap := by omega
              have g5 : os.length ≤ cap := by omega
              have bA : Box (wr.alloc (.cells #[] 3)).drew wr.heap.size 3 #[] := Box.new wr _ _ _ rfl
              have bB : Box ((wr.alloc (.cells #[] 3)).alloc (.cells #[.int .i64 z] 3)).drew wr.heap.size 3 #[] := (Box.new wr wr.heap.size _ _ rfl).alloc _
              have bC : Box ((wr.alloc (.cells #[.int .i64 z] 3)).alloc (.cells #[] 3)).drew (wr.heap.size + 1) 3 #[] := Box.new (wr.alloc (.cells #[.int .i64 z] 3)) _ _ _ (by simp)
              have vB : Box ((wr.alloc (.cells #[] 3)).alloc (.cells #[.int .i64 z] 3)).drew (wr.heap.size + 1) 3 #[.int .i64 z] := Box.new (wr.alloc (.cells #[] 3)) _ _ _ (by simp)
              have vC : Box ((wr.alloc (.cells #[.int .i64 z] 3)).alloc (.cells #[] 3)).drew wr.heap.size 3 #[.int .i64 z] := (Box.new wr wr.heap.size _ _ rfl).alloc _
              have kA : Kept wr (wr.alloc (.cells #[] 3)).drew := ((Kept.refl wr).alloc _).drew
              have kB : Kept wr ((wr.alloc (.cells #[] 3)).alloc (.cells #[.int .i64 z] 3)).drew := (((Kept.refl wr).alloc _).alloc _).drew
              have kC : Kept wr ((wr.alloc (.cells #[.int .i64 z] 3)).alloc (.cells #[] 3)).drew := (((Kept.refl wr).alloc _).alloc _).drew
              go_region_held3 (fun _ => True) (trivial) (first | (refine step_put_I wr _ rfl (.tmp 28) (.tmp 31) rfl (.slice (some ⟨wr.heap.size, 0, none⟩) 0 0) [] rfl (own0_I (by first | exact Nat.le_refl _ | omega) bA) kA _ (os.take m) rfl (HTO.out.kept kA) (by simp <;> omega) ?_; intro v1 w1 o1 k1 on1; rw [List.nil_append] at o1) | (refine step_put_I wr _ rfl (.tmp 28) (.tmp 31) rfl (.slice (some ⟨wr.heap.size, 0, none⟩) 0 0) [] rfl (own0_I (by first | exact Nat.le_refl _ | omega) bB) kB _ (os.take m) rfl (HTO.out.kept kB) (by simp <;> omega) ?_; intro v1 w1 o1 k1 on1; rw [List.nil_append] at o1; have hv2 := ints_box1 (vB.only on1 (by simp [fp_some]))) | (refine step_put_I wr _ rfl (.tmp 28) (.tmp 31) rfl (.slice (some ⟨wr.heap.size + 1, 0, none⟩) 0 0) [] rfl (own0_I (by first | exact Nat.le_refl _ | omega) bC) kC _ (os.take m) rfl (HTO.out.kept kC) (by simp <;> omega) ?_; intro v1 w1 o1 k1 on1; rw [List.nil_append] at o1; have hv2 := ints_box1 (vC.only on1 (by simp [fp_some]))) | (refine step_put_I wr _ rfl (.tmp 32) (.tmp 34) rfl _ (os.take m) rfl o1 k1 _ [z] rfl hv2 (by simp <;> omega) ?_; intro v2 w2 o2 k2 on2) | (refine step_put_I wr _ rfl (.tmp 32) (.tmp 34) rfl _ (os.take m) rfl (o1.kept ((Kept.refl w1).alloc (.cells #[.int .i64 z] 3))) (k1.alloc (.cells #[.int .i64 z] 3)) _ [z] rfl (ints_box1 (Box.new w1 _ _ _ rfl)) (by simp <;> omega) ?_; intro v2 w2 o2 k2 on2) | (refine step_put_I wr _ rfl (.tmp 35) (.tmp 38) rfl _ (os.take m ++ [z]) rfl o2 k2 _ (os.drop m) rfl (HFR.out.kept k2) HLT.out ?_; intro v3 w3 o3 k3 on3))
              all_goals
                go_wp2_with fail
                go_roundw
                case rel => exact ⟨j + 1, os.take m ++ z :: os.drop m, by omega, by go_num, (by have q := o3.base hkept.size; rw [List.append_assoc] at q; exact q), (take_snoc HZ.out).symm ▸ perm_ins HP.out, desc_ins HD.out hm HG.out HX.out, hkept.trans k3⟩
                case measure => simp [intOf]; omega
          · obtain ⟨p, hp⟩ : ∃ p, m = p + 1 := ⟨m - 1, by omega⟩
            obtain ⟨b', o', x, eA, hb', hx', q0⟩ := ints_at HO.out.ints.addr (k := p) (by omega)
            injection eA with eA
            injection eA with eA1 eA2 eA3
            subst eA1 eA2
            have f3 : (p : Int) < (os.length : Int) := by omega
            have f4 : (0 : Int) < (m : Int) := by omega
            have f5 : 0 < m := by omega
            have f1 : ((m : Int) - 1) = (p : Int) := by omega
            have f2 : IntKind.i64.wrap ((m : Int) - 1) = (p : Int) := by rw [f1]; exact IntWalk.i64_in _ (by omega)
            have HXP := Lib.hid hx'
            have HMP := Lib.hid hp
            have q1 : wr.cell? ⟨g, p, none⟩ = some (.int .i64 x) := by rw [Nat.zero_add] at q0; exact q0
            clear hx' hp eA3 hm0
            by_cases hxz : x < z
            · go_wp2_with fail
              go_round
              case rel => exact ⟨p, by omega, rfl, fun i y hi hy => by rcases Nat.lt_or_eq_of_le hi with h1 | h1; exact HG.out i y (by have := HMP.out; omega) hy; subst h1; rw [HXP.out] at hy; injection hy with hy; subst hy; exact hxz⟩
              case measure => simp [intOf]; have := HMP.out; omega
            · have HX : Hid (∀ y, 0 < m → os[m - 1]? = some y → z ≤ y) := Lib.hid (fun y _ hy => by have e := HMP.out; rw [e, Nat.add_sub_cancel, HXP.out] at hy; injection hy with hy; subst hy; omega)
              go_wp2_with fail
              clear f1 f2 f3 f4 f5 q0 q1 hxz
              have HLT : Hid ((os.take m ++ [z]).length + (os.drop m).length ≤ 16777216) := Lib.hid (by rw [List.length_append, List.length_take, List.length_drop]; simp; omega)
              have htl : (os.take m).length ≤ 60 := by rw [List.length_take]; omega
              have HTO : Hid (Ints wr (.slice (some ⟨g, 0, none⟩) m cap) (os.take m)) := Lib.hid (ints_to HO.out.ints rfl hm)
              by_cases hcap : cap = m
              · subst hcap
                have h9 : os.length = cap := by omega
                have H9 := Lib.hid h9
                have HFR : Hid (Ints wr (.slice (some ⟨g, 0, none⟩) 0 0) (os.drop cap)) := Lib.hid (ints_none (by omega))
                have g2 : (cap : Int) ≤ (os.length : Int) := by omega
                have g3 : (os.length : Int) ≤ (cap : Int) := by omega
                have g5 : os.length ≤ cap := by omega
                clear h9
                have bA : Box (wr.alloc (.cells #[] 3)).drew wr.heap.size 3 #[] := Box.new wr _ _ _ rfl
                have bB : Box ((wr.alloc (.cells #[] 3)).alloc (.cells #[.int .i64 z] 3)).drew wr.heap.size 3 #[] := (Box.new wr wr.heap.size _ _ rfl).alloc _
                have bC : Box ((wr.alloc (.cells #[.int .i64 z] 3)).alloc (.cells #[] 3)).drew (wr.heap.size + 1) 3 #[] := Box.new (wr.alloc (.cells #[.int .i64 z] 3)) _ _ _ (by simp)
                have vB : Box ((wr.alloc (.cells #[] 3)).alloc (.cells #[.int .i64 z] 3)).drew (wr.heap.size + 1) 3 #[.int .i64 z] := Box.new (wr.alloc (.cells #[] 3)) _ _ _ (by simp)
                have vC : Box ((wr.alloc (.cells #[.int .i64 z] 3)).alloc (.cells #[] 3)).drew wr.heap.size 3 #[.int .i64 z] := (Box.new wr wr.heap.size _ _ rfl).alloc _
                have kA : Kept wr (wr.alloc (.cells #[] 3)).drew := ((Kept.refl wr).alloc _).drew
                have kB : Kept wr ((wr.alloc (.cells #[] 3)).alloc (.cells #[.int .i64 z] 3)).drew := (((Kept.refl wr).alloc _).alloc _).drew
                have kC : Kept wr ((wr.alloc (.cells #[.int .i64 z] 3)).alloc (.cells #[] 3)).drew := (((Kept.refl wr).alloc _).alloc _).drew
                go_region_held3 (fun _ => True) (trivial) (first | (refine step_put_I wr _ rfl (.tmp 28) (.tmp 31) rfl (.slice (some ⟨wr.heap.size, 0, none⟩) 0 0) [] rfl (own0_I (by first | exact Nat.le_refl _ | omega) bA) kA _ (os.take cap) rfl (HTO.out.kept kA) (by simp <;> omega) ?_; intro v1 w1 o1 k1 on1; rw [List.nil_append] at o1) | (refine step_put_I wr _ rfl (.tmp 28) (.tmp 31) rfl (.slice (some ⟨wr.heap.size, 0, none⟩) 0 0) [] rfl (own0_I (by first | exact Nat.le_refl _ | omega) bB) kB _ (os.take cap) rfl (HTO.out.kept kB) (by simp <;> omega) ?_; intro v1 w1 o1 k1 on1; rw [List.nil_append] at o1; have hv2 := ints_box1 (vB.only on1 (by simp [fp_some]))) | (refine step_put_I wr _ rfl (.tmp 28) (.tmp 31) rfl (.slice (some ⟨wr.heap.size + 1, 0, none⟩) 0 0) [] rfl (own0_I (by first | exact Nat.le_refl _ | omega) bC) kC _ (os.take cap) rfl (HTO.out.kept kC) (by simp <;> omega) ?_; intro v1 w1 o1 k1 on1; rw [List.nil_append] at o1; have hv2 := ints_box1 (vC.only on1 (by simp [fp_some]))) | (refine step_put_I wr _ rfl (.tmp 32) (.tmp 34) rfl _ (os.take cap) rfl o1 k1 _ [z] rfl hv2 (by simp <;> omega) ?_; intro v2 w2 o2 k2 on2) | (refine step_put_I wr _ rfl (.tmp 32) (.tmp 34) rfl _ (os.take cap) rfl (o1.kept ((Kept.refl w1).alloc (.cells #[.int .i64 z] 3))) (k1.alloc (.cells #[.int .i64 z] 3)) _ [z] rfl (ints_box1 (Box.new w1 _ _ _ rfl)) (by simp <;> omega) ?_; intro v2 w2 o2 k2 on2) | (refine step_put_I wr _ rfl (.tmp 35) (.tmp 38) rfl _ (os.take cap ++ [z]) rfl o2 k2 _ (os.drop cap) (by first | rfl | (simp [Act.eval, Act.put, H9.out])) (HFR.out.kept k2) HLT.out ?_; intro v3 w3 o3 k3 on3))
                all_goals
                  go_wp2_with fail
                  go_roundw
                  case rel => exact ⟨j + 1, os.take cap ++ z :: os.drop cap, by omega, by go_num, (by have q := o3.base hkept.size; rw [List.append_assoc] at q; exact q), (take_snoc HZ.out).symm ▸ perm_ins HP.out, desc_ins HD.out hm HG.out HX.out, hkept.trans k3⟩
                  case measure => simp [intOf]; omega
              · have HCAP := Lib.hid hcap
                have HFR : Hid (Ints wr (.slice (some ⟨g, m, none⟩) (os.length - m) (cap - m)) (os.drop m)) := Lib.hid (by have q := ints_from HO.out.ints rfl hm; rw [Nat.zero_add] at q; exact q)
                have hc2 : ¬ cap = m := hcap
                have hc3 : (cap == m) = false := beq_eq_false_iff_ne.2 hcap
                have g1 : (m : Int) ≤ (cap : Int) := by omega
                have g2 : (m : Int) ≤ (os.length : Int) := by omega
                have g3 : (os.length : Int) ≤ (cap : Int) := by omega
                have g4 : m ≤ cap := by omega
                have g5 : os.length ≤ cap := by omega
                have bA : Box (wr.alloc (.cells #[] 3)).drew wr.heap.size 3 #[] := Box.new wr _ _ _ rfl
                have bB : Box ((wr.alloc (.cells #[] 3)).alloc (.cells #[.int .i64 z] 3)).drew wr.heap.size 3 #[] := (Box.new wr wr.heap.size _ _ rfl).alloc _
                have bC : Box ((wr.alloc (.cells #[.int .i64 z] 3)).alloc (.cells #[] 3)).drew (wr.heap.size + 1) 3 #[] := Box.new (wr.alloc (.cells #[.int .i64 z] 3)) _ _ _ (by simp)
                have vB : Box ((wr.alloc (.cells #[] 3)).alloc (.cells #[.int .i64 z] 3)).drew (wr.heap.size + 1) 3 #[.int .i64 z] := Box.new (wr.alloc (.cells #[] 3)) _ _ _ (by simp)
                have vC : Box ((wr.alloc (.cells #[.int .i64 z] 3)).alloc (.cells #[] 3)).drew wr.heap.size 3 #[.int .i64 z] := (Box.new wr wr.heap.size _ _ rfl).alloc _
                have kA : Kept wr (wr.alloc (.cells #[] 3)).drew := ((Kept.refl wr).alloc _).drew
                have kB : Kept wr ((wr.alloc (.cells #[] 3)).alloc (.cells #[.int .i64 z] 3)).drew := (((Kept.refl wr).alloc _).alloc _).drew
                have kC : Kept wr ((wr.alloc (.cells #[.int .i64 z] 3)).alloc (.cells #[] 3)).drew := (((Kept.refl wr).alloc _).alloc _).drew
                go_region_held3 (fun _ => True) (trivial) (first | (refine step_put_I wr _ rfl (.tmp 28) (.tmp 31) rfl (.slice (some ⟨wr.heap.size, 0, none⟩) 0 0) [] rfl (own0_I (by first | exact Nat.le_refl _ | omega) bA) kA _ (os.take m) rfl (HTO.out.kept kA) (by simp <;> omega) ?_; intro v1 w1 o1 k1 on1; rw [List.nil_append] at o1) | (refine step_put_I wr _ rfl (.tmp 28) (.tmp 31) rfl (.slice (some ⟨wr.heap.size, 0, none⟩) 0 0) [] rfl (own0_I (by first | exact Nat.le_refl _ | omega) bB) kB _ (os.take m) rfl (HTO.out.kept kB) (by simp <;> omega) ?_; intro v1 w1 o1 k1 on1; rw [List.nil_append] at o1; have hv2 := ints_box1 (vB.only on1 (by simp [fp_some]))) | (refine step_put_I wr _ rfl (.tmp 28) (.tmp 31) rfl (.slice (some ⟨wr.heap.size + 1, 0, none⟩) 0 0) [] rfl (own0_I (by first | exact Nat.le_refl _ | omega) bC) kC _ (os.take m) rfl (HTO.out.kept kC) (by simp <;> omega) ?_; intro v1 w1 o1 k1 on1; rw [List.nil_append] at o1; have hv2 := ints_box1 (vC.only on1 (by simp [fp_some]))) | (refine step_put_I wr _ rfl (.tmp 32) (.tmp 34) rfl _ (os.take m) rfl o1 k1 _ [z] rfl hv2 (by simp <;> omega) ?_; intro v2 w2 o2 k2 on2) | (refine step_put_I wr _ rfl (.tmp 32) (.tmp 34) rfl _ (os.take m) rfl (o1.kept ((Kept.refl w1).alloc (.cells #[.int .i64 z] 3))) (k1.alloc (.cells #[.int .i64 z] 3)) _ [z] rfl (ints_box1 (Box.new w1 _ _ _ rfl)) (by simp <;> omega) ?_; intro v2 w2 o2 k2 on2) | (refine step_put_I wr _ rfl (.tmp 35) (.tmp 38) rfl _ (os.take m ++ [z]) rfl o2 k2 _ (os.drop m) rfl (HFR.out.kept k2) HLT.out ?_; intro v3 w3 o3 k3 on3))
                all_goals
                  go_wp2_with fail
                  go_roundw
                  case rel => exact ⟨j + 1, os.take m ++ z :: os.drop m, by omega, by go_num, (by have q := o3.base hkept.size; rw [List.append_assoc] at q; exact q), (take_snoc HZ.out).symm ▸ perm_ins HP.out, desc_ins HD.out hm HG.out HX.out, hkept.trans k3⟩
                  case measure => simp [intOf]; omega
    · obtain rfl : j = zs.length := by omega
      have HO := Lib.hid ho
      clear ho
      go_wp2_with fail
      go_ret
      exact ⟨_, os, rfl, HO.out, by have q := HP.out; rw [List.take_length] at q; exact q, HD.out, hkept⟩
end Go.Proofs.Ytpkmngkepmoikaa
