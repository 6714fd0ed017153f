/- Rows of elements of several cells: what copy, clear and the library's Delete and Insert do to a block that is known whole. -/
import Derived.Test.YtmbgcmeiigmbaaaAp2
import Derived.Laws.IdiomCopy
import Derived.Laws.Externs
import Derived.Lib.Overlaps
import Derived.Lib.AppendZerosOnto
import Derived.Lib.SliceRun
import Derived.Deep.RegionLaw
namespace Go.Proofs.Ytmbgcmeiigmbaaa
open Go.RowKit

/-- cells written one after the other -/
def sets : Array Value → Nat → List Value → Array Value
  | cs, _, [] => cs
  | cs, o, v :: r => sets (cs.setIfInBounds o v) (o + 1) r
theorem Box.sets {b : Nat} {t : TypeId} : ∀ (vs : List Value) (o : Nat) (w : World) (cs : Array Value), Box w b t cs → Box (w.setCells b o vs) b t (sets cs o vs)
  | [], _, _, _, h => h
  | v :: r, o, w, cs, h => Box.sets r (o + 1) _ _ (h.set o v)
theorem only_sets (b : Nat) : ∀ (vs : List Value) (o : Nat) (w : World), Only [b] w (w.setCells b o vs)
  | [], _, w => Only.refl _ w
  | v :: r, o, w => (Only.setCell (Only.refl [b] w) (p := ⟨b, o, none⟩) (by simp) v).trans (only_sets b r (o + 1) _)
theorem sets_size : ∀ (vs : List Value) (o : Nat) (cs : Array Value), (sets cs o vs).size = cs.size
  | [], _, _ => rfl
  | v :: r, o, cs => by rw [sets, sets_size r]; simp
theorem sets_toList : ∀ (vs : List Value) (o : Nat) (cs : Array Value), o + vs.length ≤ cs.size → (sets cs o vs).toList = cs.toList.take o ++ vs ++ cs.toList.drop (o + vs.length)
  | [], o, cs, h => by simp [sets]
  | v :: r, o, cs, h => by
    have hlt : o < cs.toList.length := by simp at h ⊢; omega
    rw [sets, sets_toList r (o + 1) _ (by simp at h ⊢; omega)]
    simp only [Array.toList_setIfInBounds]
    rw [List.take_set, List.take_succ_eq_append_getElem hlt, List.set_append_right _ _ (by rw [List.length_take]; omega), List.length_take_of_le (by omega), Nat.sub_self]
    rw [List.drop_set_of_lt (by omega)]
    simp only [List.set_cons_zero, List.append_assoc, List.cons_append, List.nil_append, List.length_cons]
    rw [show o + 1 + r.length = o + (r.length + 1) from by omega]
theorem sets_take {cs : Array Value} {o m : Nat} {vs : List Value} (h : o + vs.length ≤ cs.size) (hm : m ≤ o) : (sets cs o vs).toList.take m = cs.toList.take m := by
  have hl : cs.toList.length = cs.size := by simp
  rw [sets_toList _ _ _ h, List.append_assoc, List.take_append_of_le_length (by rw [List.length_take]; omega), List.take_take, Nat.min_eq_left hm]
theorem sets_full {cs : Array Value} {o m : Nat} {vs : List Value} (h : o + vs.length ≤ cs.size) (hm : m = o + vs.length) : (sets cs o vs).toList.take m = cs.toList.take o ++ vs := by
  have hl : cs.toList.length = cs.size := by simp
  rw [sets_toList _ _ _ h, List.take_left' (by rw [List.length_append, List.length_take]; omega)]
theorem sets_drop {cs : Array Value} {o : Nat} {vs : List Value} (h : o + vs.length ≤ cs.size) : (sets cs o vs).toList.drop o = vs ++ cs.toList.drop (o + vs.length) := by
  have hl : cs.toList.length = cs.size := by simp
  rw [sets_toList _ _ _ h, List.append_assoc, List.drop_left' (by rw [List.length_take]; omega)]
theorem only_drew_sets (b : Nat) (vs : List Value) (o : Nat) (w : World) : Only [b] w (w.drew.setCells b o vs) := (Only.drewN (Only.refl [b] w) 1).trans (only_sets b vs o w.drew)
theorem own_box {w : World} {base : Nat} {e : TypeId} {size n cap g : Nat} {xs : List Value} (h : w.ownsRow base e size (.slice (some ⟨g, 0, none⟩) n cap) n xs) :
    ∃ cur, Box w g e cur ∧ n ≤ cap ∧ cap ≤ maxLen ∧ cur.size = cap * size ∧ cur.toList.take (n * size) = xs := by
  rcases h.2 with ⟨h, _⟩ | ⟨g', cap', cur, e1, _, hb, h1, h2, h3, h4⟩
  · cases h
  · injection e1 with e1 e2 e3
    injection e1 with e1
    injection e1 with e1
    subst e1 e3
    exact ⟨cur, hb, h1, h2, h3, h4⟩
theorem own_of_box {w : World} {base : Nat} {e : TypeId} {size n cap g : Nat} {xs : List Value} {cur : Array Value} (hb : Box w g e cur) (hg : base ≤ g) (h1 : n ≤ cap) (h2 : cap ≤ maxLen) (h3 : cur.size = cap * size) (h4 : cur.toList.take (n * size) = xs) :
    w.ownsRow base e size (.slice (some ⟨g, 0, none⟩) n cap) n xs := by
  refine ⟨?_, .inr ⟨g, cap, cur, rfl, hg, hb, h1, h2, h3, h4⟩⟩
  rw [← h4, List.length_take]
  have : cur.toList.length = cap * size := by simpa using h3
  rw [this, Nat.min_eq_left (Nat.mul_le_mul_right _ h1)]
theorem Box.some {w : World} {b : Nat} {t : TypeId} {cs : Array Value} (h : Box w b t cs) {j : Nat} (hj : j < cs.size) : (w.cell? ⟨b, j, none⟩).isSome = true := by
  rw [h.cell j, Array.getElem?_eq_getElem hj]
  rfl
theorem Box.at_ {w : World} {b : Nat} {t : TypeId} {cs : Array Value} (h : Box w b t cs) {j : Nat} {v : Value} (hj : cs.toList[j]? = Option.some v) : w.cell? ⟨b, j, none⟩ = Option.some v := by
  rw [h.cell j, ← Array.getElem?_toList]
  exact hj
theorem add_lit (b o j : Nat) : (⟨b, o, none⟩ : Addr).add j = ⟨b, o + j, none⟩ := by unfold Addr.add; split <;> simp_all

/-- copy(d, s), elements of several cells -/
theorem run_copyN {P : Program} (w : World) (dT sT ty elem : TypeId) (size : Nat) (b o dLen dCap : Nat) (a : Addr) (sLen sCap m : Nat) (cs : List Value)
    (hu : P.underlying dT = some (.slice elem)) (hs : (P.info? elem).map (·.size) = some size) (hm : Nat.min sLen dLen = m) (hn : cs.length = m * size)
    (hsrc : ∀ j v, cs[j]? = some v → w.cell? (a.add j) = some v) (hc : ∀ j, j < cs.length → (w.cell? ⟨b, o + j, none⟩).isSome = true) (hf : ∀ j, j < cs.length → w.frozen? ⟨b, o + j, none⟩ = false) (h1 : ∀ v ∈ cs, v.oneCell' = true) :
    (Builtin.copy_ #[dT, sT] ty #[.slice (some ⟨b, o, none⟩) dLen dCap, .slice (some a) sLen sCap]).run P w = .ok (goInt m) (w.setCells b o cs) := by
  have hl := run_loadCells_list (P := P) w a cs hsrc
  have hst := run_storeCells_cells (P := P) b o cs 0 w (by simpa using hc) (by simpa using hf) h1
  cases hq : P.info? elem with
  | none => simp [hq] at hs
  | some i =>
    have hi : i.size = size := by simpa [hq] using hs
    simp [Builtin.copy_, run_underlying hu, Builtin.lenOf, Builtin.firstCells, sizeOf, typeInfo, hq, hi, hm, ← hn, hl, hst]
theorem wp_copy_run {P : Program} (w : World) {o : Oper} {a : Act} {K : Act → World → Prop} {Q : Exit → Act → World → Prop} (d s : Operand) (t t' : TypeId)
    (ho : o.op = .call { callee := .builtin .copy, args := #[d, s], argTypes := #[t, t'] }) (v u : Value) (hd : a.eval d = v) (hs : a.eval s = u) {v' : Value} {w' : World}
    (hr : (Builtin.copy_ #[t, t'] o.type #[v, u]).run P w = .ok v' w') (h : K (a.put o.dst v') w') : o.wp P a w K Q := by
  unfold Oper.wp execOp
  simp only [ho, resolve, invoke, builtin, Sem.run_bind, Sem.run_pure, Result.andThen_ok, List.map_toArray, List.map_cons, List.map_nil, hd, hs, hr]
  exact h
theorem wpList_copy_run {P : Program} (w : World) {ops : Array Oper} {rest : List Oper} {o : Oper} {a : Act} {Q : Exit → Act → World → Prop} (hgd : o.guard = none) (d s : Operand) (t t' : TypeId)
    (ho : o.op = .call { callee := .builtin .copy, args := #[d, s], argTypes := #[t, t'] }) (v u : Value) (hd : a.eval d = v) (hs : a.eval s = u) {v' : Value} {w' : World}
    (hr : (Builtin.copy_ #[t, t'] o.type #[v, u]).run P w = .ok v' w') (h : wpList P ops Q rest (a.put o.dst v') w') : wpList P ops Q (o :: rest) a w :=
  wpList_plain hgd fun _ hK => wp_copy_run w d s t t' ho v u hd hs hr (hK _ _ h)
theorem step_copy_run {P : Program} {ops : Array Oper} {o : Oper} {a : Act} {w : World} {K : Act → World → Prop} {Q : Exit → Act → World → Prop} {E : Prop}
    (hg : o.guard = none) (d x : Operand) (dT sT : TypeId) (hop : o.op = Op.call { callee := Callee.builtin Builtin.copy, args := #[d, x], argTypes := #[dT, sT] })
    (v u : Value) (hd : a.eval d = v) (hx : a.eval x = u) {v' : Value} {w' : World} (hr : (Builtin.copy_ #[dT, sT] o.type #[v, u]).run P w = .ok v' w') (hK : K (a.put o.dst v') w') :
    if Region.wanted o (yielded ops a.tmps) = true then Oper.wp P o a w K Q else E := by
  have hw : Region.wanted o (yielded ops a.tmps) = true := by simp [Region.wanted, hg]
  rw [if_pos hw]
  exact wp_copy_run w d x dT sT hop v u hd hx hr hK
/-- clear(s), one element of several cells -/
theorem run_clear1 {P : Program} (w : World) (t e ty : TypeId) (z : Value) (ht : P.underlying t = some (.slice e)) (hv : ∀ w, (zeroValue e).run P w = .ok z w) (b o c : Nat) (hz : (Builtin.zeroCells z.cells 1).toList = z.cells.toList) (h1 : ∀ v ∈ z.cells.toList, v.oneCell' = true)
    (hc : ∀ j, j < z.cells.toList.length → (w.cell? ⟨b, o + j, none⟩).isSome = true) (hf : ∀ j, j < z.cells.toList.length → w.frozen? ⟨b, o + j, none⟩ = false) :
    (Builtin.clear_ #[t] ty #[.slice (some ⟨b, o, none⟩) 1 c]).run P w = .ok (.tuple #[]) (w.setCells b o z.cells.toList) := by
  have hst := run_storeCells_cells (P := P) b o z.cells.toList 0 w (by simpa using hc) (by simpa using hf) h1
  simp only [Nat.add_zero] at hst
  simp [Builtin.clear_, run_underlying ht, hv, hz, hst]
end Go.Proofs.Ytmbgcmeiigmbaaa
