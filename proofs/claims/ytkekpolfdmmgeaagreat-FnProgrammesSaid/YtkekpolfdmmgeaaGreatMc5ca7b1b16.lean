/- Contracts of functions that the proof leans on. No condition. -/
import Derived.Test.YtkekpolfdmmgeaaGreatM956e63d398
import Derived.Laws.IdiomCopy
import Derived.Laws.Externs
import Derived.Lib.Overlaps
import Derived.Lib.AppendZerosOnto
import Derived.Lib.SliceRun
import Derived.Deep.RegionLaw
/- Rows of elements of several cells: what copy, clear and the library's Delete and Insert do to a block that is known whole. -/
namespace Go.Proofs.YtkekpolfdmmgeaaGreat
set_option linter.unusedVariables false
set_option linter.unusedSimpArgs false
open Go.RowKit

/-- cells written one after the other -/
def sets : Array Value → Nat → List Value → Array Value
  | cs, _, [] => cs
  | cs, o, v :: r => sets (cs.setIfInBounds o v) (o + 1) r
theorem Box.sets {b : Nat} {t : TypeId} : ∀ (vs : List Value) (o : Nat) (w : World) (cs : Array Value), Box w b t cs → Box (w.setCells b o vs) b t (sets cs o vs)
  | [], _, _, _, h => h
  | v :: r, o, w, cs, h => Box.sets r (o + 1) _ _ (h.set o v)
theorem only_sets (b : Nat) : ∀ (vs : List Value) (o : Nat) (w : World), Only [b] w (w.setCells b o vs)
  | [], _, w => Only.refl _ w
  | v :: r, o, w => (Only.setCell (Only.refl [b] w) (p := ⟨b, o, none⟩) (by simp) v).trans (only_sets b r (o + 1) _)
theorem sets_size : ∀ (vs : List Value) (o : Nat) (cs : Array Value), (sets cs o vs).size = cs.size
  | [], _, _ => rfl
  | v :: r, o, cs => by rw [sets, sets_size r]; simp
theorem sets_toList : ∀ (vs : List Value) (o : Nat) (cs : Array Value), o + vs.length ≤ cs.size → (sets cs o vs).toList = cs.toList.take o ++ vs ++ cs.toList.drop (o + vs.length)
  | [], o, cs, h => by simp [sets]
  | v :: r, o, cs, h => by
    have hlt : o < cs.toList.length := by simp at h ⊢; omega
    rw [sets, sets_toList r (o + 1) _ (by simp at h ⊢; omega)]
    simp only [Array.toList_setIfInBounds]
    rw [List.take_set, List.take_succ_eq_append_getElem hlt, List.set_append_right _ _ (by rw [List.length_take]; omega), List.length_take_of_le (by omega), Nat.sub_self]
    rw [List.drop_set_of_lt (by omega)]
    simp only [List.set_cons_zero, List.append_assoc, List.cons_append, List.nil_append, List.length_cons]
    rw [show o + 1 + r.length = o + (r.length + 1) from by omega]
theorem sets_take {cs : Array Value} {o m : Nat} {vs : List Value} (h : o + vs.length ≤ cs.size) (hm : m ≤ o) : (sets cs o vs).toList.take m = cs.toList.take m := by
  have hl : cs.toList.length = cs.size := by simp
  rw [sets_toList _ _ _ h, List.append_assoc, List.take_append_of_le_length (by rw [List.length_take]; omega), List.take_take, Nat.min_eq_left hm]
theorem sets_full {cs : Array Value} {o m : Nat} {vs : List Value} (h : o + vs.length ≤ cs.size) (hm : m = o + vs.length) : (sets cs o vs).toList.take m = cs.toList.take o ++ vs := by
  have hl : cs.toList.length = cs.size := by simp
  rw [sets_toList _ _ _ h, List.take_left' (by rw [List.length_append, List.length_take]; omega)]
theorem sets_drop {cs : Array Value} {o : Nat} {vs : List Value} (h : o + vs.length ≤ cs.size) : (sets cs o vs).toList.drop o = vs ++ cs.toList.drop (o + vs.length) := by
  have hl : cs.toList.length = cs.size := by simp
  rw [sets_toList _ _ _ h, List.append_assoc, List.drop_left' (by rw [List.length_take]; omega)]
theorem only_drew_sets (b : Nat) (vs : List Value) (o : Nat) (w : World) : Only [b] w (w.drew.setCells b o vs) := (Only.drewN (Only.refl [b] w) 1).trans (only_sets b vs o w.drew)
theorem own_box {w : World} {base : Nat} {e : TypeId} {size n cap g : Nat} {xs : List Value} (h : w.ownsRow base e size (.slice (some ⟨g, 0, none⟩) n cap) n xs) :
    ∃ cur, Box w g e cur ∧ n ≤ cap ∧ cap ≤ maxLen ∧ cur.size = cap * size ∧ cur.toList.take (n * size) = xs := by
  rcases h.2 with ⟨h, _⟩ | ⟨g', cap', cur, e1, _, hb, h1, h2, h3, h4⟩
  · cases h
  · injection e1 with e1 e2 e3
    injection e1 with e1
    injection e1 with e1
    subst e1 e3
    exact ⟨cur, hb, h1, h2, h3, h4⟩
theorem own_of_box {w : World} {base : Nat} {e : TypeId} {size n cap g : Nat} {xs : List Value} {cur : Array Value} (hb : Box w g e cur) (hg : base ≤ g) (h1 : n ≤ cap) (h2 : cap ≤ maxLen) (h3 : cur.size = cap * size) (h4 : cur.toList.take (n * size) = xs) :
    w.ownsRow base e size (.slice (some ⟨g, 0, none⟩) n cap) n xs := by
  refine ⟨?_, .inr ⟨g, cap, cur, rfl, hg, hb, h1, h2, h3, h4⟩⟩
  rw [← h4, List.length_take]
  have : cur.toList.length = cap * size := by simpa using h3
  rw [this, Nat.min_eq_left (Nat.mul_le_mul_right _ h1)]
theorem Box.some {w : World} {b : Nat} {t : TypeId} {cs : Array Value} (h : Box w b t cs) {j : Nat} (hj : j < cs.size) : (w.cell? ⟨b, j, none⟩).isSome = true := by
  rw [h.cell j, Array.getElem?_eq_getElem hj]
  rfl
theorem Box.at_ {w : World} {b : Nat} {t : TypeId} {cs : Array Value} (h : Box w b t cs) {j : Nat} {v : Value} (hj : cs.toList[j]? = Option.some v) : w.cell? ⟨b, j, none⟩ = Option.some v := by
  rw [h.cell j, ← Array.getElem?_toList]
  exact hj
theorem add_lit (b o j : Nat) : (⟨b, o, none⟩ : Addr).add j = ⟨b, o + j, none⟩ := by unfold Addr.add; split <;> simp_all

/-- copy(d, s), elements of several cells -/
theorem run_copyN {P : Program} (w : World) (dT sT ty elem : TypeId) (size : Nat) (b o dLen dCap : Nat) (a : Addr) (sLen sCap m : Nat) (cs : List Value)
    (hu : P.underlying dT = some (.slice elem)) (hs : (P.info? elem).map (·.size) = some size) (hm : Nat.min sLen dLen = m) (hn : cs.length = m * size)
    (hsrc : ∀ j v, cs[j]? = some v → w.cell? (a.add j) = some v) (hc : ∀ j, j < cs.length → (w.cell? ⟨b, o + j, none⟩).isSome = true) (hf : ∀ j, j < cs.length → w.frozen? ⟨b, o + j, none⟩ = false) (h1 : ∀ v ∈ cs, v.oneCell' = true) :
    (Builtin.copy_ #[dT, sT] ty #[.slice (some ⟨b, o, none⟩) dLen dCap, .slice (some a) sLen sCap]).run P w = .ok (goInt m) (w.setCells b o cs) := by
  have hl := run_loadCells_list (P := P) w a cs hsrc
  have hst := run_storeCells_cells (P := P) b o cs 0 w (by simpa using hc) (by simpa using hf) h1
  cases hq : P.info? elem with
  | none => simp [hq] at hs
  | some i =>
    have hi : i.size = size := by simpa [hq] using hs
    simp [Builtin.copy_, run_underlying hu, Builtin.lenOf, Builtin.firstCells, sizeOf, typeInfo, hq, hi, hm, ← hn, hl, hst]
theorem wp_copy_run {P : Program} (w : World) {o : Oper} {a : Act} {K : Act → World → Prop} {Q : Exit → Act → World → Prop} (d s : Operand) (t t' : TypeId)
    (ho : o.op = .call { callee := .builtin .copy, args := #[d, s], argTypes := #[t, t'] }) (v u : Value) (hd : a.eval d = v) (hs : a.eval s = u) {v' : Value} {w' : World}
    (hr : (Builtin.copy_ #[t, t'] o.type #[v, u]).run P w = .ok v' w') (h : K (a.put o.dst v') w') : o.wp P a w K Q := by
  unfold Oper.wp execOp
  simp only [ho, resolve, invoke, builtin, Sem.run_bind, Sem.run_pure, Result.andThen_ok, List.map_toArray, List.map_cons, List.map_nil, hd, hs, hr]
  exact h
theorem wpList_copy_run {P : Program} (w : World) {ops : Array Oper} {rest : List Oper} {o : Oper} {a : Act} {Q : Exit → Act → World → Prop} (hgd : o.guard = none) (d s : Operand) (t t' : TypeId)
    (ho : o.op = .call { callee := .builtin .copy, args := #[d, s], argTypes := #[t, t'] }) (v u : Value) (hd : a.eval d = v) (hs : a.eval s = u) {v' : Value} {w' : World}
    (hr : (Builtin.copy_ #[t, t'] o.type #[v, u]).run P w = .ok v' w') (h : wpList P ops Q rest (a.put o.dst v') w') : wpList P ops Q (o :: rest) a w :=
  wpList_plain hgd fun _ hK => wp_copy_run w d s t t' ho v u hd hs hr (hK _ _ h)
theorem step_copy_run {P : Program} {ops : Array Oper} {o : Oper} {a : Act} {w : World} {K : Act → World → Prop} {Q : Exit → Act → World → Prop} {E : Prop}
    (hg : o.guard = none) (d x : Operand) (dT sT : TypeId) (hop : o.op = Op.call { callee := Callee.builtin Builtin.copy, args := #[d, x], argTypes := #[dT, sT] })
    (v u : Value) (hd : a.eval d = v) (hx : a.eval x = u) {v' : Value} {w' : World} (hr : (Builtin.copy_ #[dT, sT] o.type #[v, u]).run P w = .ok v' w') (hK : K (a.put o.dst v') w') :
    if Region.wanted o (yielded ops a.tmps) = true then Oper.wp P o a w K Q else E := by
  have hw : Region.wanted o (yielded ops a.tmps) = true := by simp [Region.wanted, hg]
  rw [if_pos hw]
  exact wp_copy_run w d x dT sT hop v u hd hx hr hK
/-- clear(s), one element of several cells -/
theorem run_clear1 {P : Program} (w : World) (t e ty : TypeId) (z : Value) (ht : P.underlying t = some (.slice e)) (hv : ∀ w, (zeroValue e).run P w = .ok z w) (b o c : Nat) (hz : (Builtin.zeroCells z.cells 1).toList = z.cells.toList) (h1 : ∀ v ∈ z.cells.toList, v.oneCell' = true)
    (hc : ∀ j, j < z.cells.toList.length → (w.cell? ⟨b, o + j, none⟩).isSome = true) (hf : ∀ j, j < z.cells.toList.length → w.frozen? ⟨b, o + j, none⟩ = false) :
    (Builtin.clear_ #[t] ty #[.slice (some ⟨b, o, none⟩) 1 c]).run P w = .ok (.tuple #[]) (w.setCells b o z.cells.toList) := by
  have hst := run_storeCells_cells (P := P) b o z.cells.toList 0 w (by simpa using hc) (by simpa using hf) h1
  simp only [Nat.add_zero] at hst
  simp [Builtin.clear_, run_underlying ht, hv, hz, hst]
end Go.Proofs.YtkekpolfdmmgeaaGreat

/- slices.Delete of one element and slices.Insert of one element, on rows of the call's own. -/
namespace Go.Proofs.YtkekpolfdmmgeaaGreat
set_option linter.unusedVariables false
set_option linter.unusedSimpArgs false
open Go.RowKit

theorem zerocellsT : (Builtin.zeroCells (Value.agg #[.slice none 0 0, .slice none 0 0, .bool false]).cells 1).toList = (Value.agg #[.slice none 0 0, .slice none 0 0, .bool false]).cells.toList := by kernel_rfl
theorem zeroT (w : World) : (zeroValue 30).run Tryz.prog w = .ok (Value.agg #[.slice none 0 0, .slice none 0 0, .bool false]) w := by kernel_rfl
set_option maxRecDepth 100000 in
set_option maxHeartbeats 4000000 in
theorem delRowT (xs : List Value) (n i cap g : Nat) (w : World) (base : Nat) (ho : w.ownsRow base 30 3 (.slice (some ⟨g, 0, none⟩) n cap) n xs) (hi : i < n) (h1 : ∀ v ∈ xs, v.oneCell' = true) :
    Calls Tryz.prog 35 #[.slice (some ⟨g, 0, none⟩) n cap, .int .i64 i, .int .i64 ((i : Int) + 1)] w fun e w' =>
      e = .returned (.slice (some ⟨g, 0, none⟩) (n - 1) cap) ∧ w'.ownsRow base 30 3 (.slice (some ⟨g, 0, none⟩) (n - 1) cap) (n - 1) (xs.take (i * 3) ++ xs.drop ((i + 1) * 3)) ∧ Only [g] w w' := by
  obtain ⟨cur, B, hnc, hcm, hsz, htk⟩ := own_box ho
  have hg : base ≤ g := (ho.lt g rfl).1
  have hxl : xs.length = n * 3 := ho.1
  obtain ⟨i0, hi0, hz0, hz1, hz2⟩ := info_parts info_item
  have hcml := hcm
  unfold maxLen at hcm
  -- the cells behind the element
  obtain ⟨news, hnews⟩ : ∃ news, news = xs.drop ((i + 1) * 3) := ⟨_, rfl⟩
  have hlen : news.length = (n - (i + 1)) * 3 := by rw [hnews, List.length_drop, hxl]; omega
  have hcl : cur.toList.length = cap * 3 := by simpa using hsz
  have hlt : n * 3 ≤ cap * 3 := Nat.mul_le_mul_right _ hnc
  have hB : Box w.drew g 30 cur := B
  have hcell : Hid (∀ t u, news[t]? = some u → w.drew.cell? ⟨g, (i + 1) * 3 + t, none⟩ = some u) := fun t u hu => by
    refine hB.at_ ?_
    have ht := (List.getElem?_eq_some_iff.1 hu).1
    rw [hlen] at ht
    rw [hnews, List.getElem?_drop, ← htk, List.getElem?_take_of_lt (by omega)] at hu
    exact hu
  have s2 : Hid (∀ u ∈ news, u.oneCell' = true) := fun u hu => h1 u (by rw [hnews] at hu; exact List.mem_of_mem_drop hu)
  have s3 : Hid (∀ t, t < news.length → (w.drew.cell? ⟨g, 0 + i * 3 + t, none⟩).isSome = true ∧ w.drew.frozen? ⟨g, 0 + i * 3 + t, none⟩ = false) := fun t ht => by
    rw [hlen] at ht
    exact ⟨hB.some (by omega), hB.free _⟩
  obtain ⟨W1, hW1⟩ : ∃ W1, W1 = w.drew.setCells g (0 + i * 3) news := ⟨_, rfl⟩
  have B1 : Box W1 g 30 (sets cur (0 + i * 3) news) := hW1 ▸ Box.sets news _ _ _ hB
  have Q1 : Only [g] w W1 := hW1 ▸ only_drew_sets g news _ w
  have hcl1 : ∀ ty c, (Builtin.clear_ #[27] ty #[.slice (some ⟨g, (n - 1) * 3, none⟩) 1 c]).run Tryz.prog W1 = .ok (.tuple #[]) (W1.setCells g ((n - 1) * 3) (Value.agg #[.slice none 0 0, .slice none 0 0, .bool false]).cells.toList) := fun ty c =>
    run_clear1 W1 _ _ ty (Value.agg #[.slice none 0 0, .slice none 0 0, .bool false]) Tryz.underlying27 zeroT g _ c zerocellsT (by decide) (fun j hj => B1.some (by rw [sets_size]; have : (Value.agg #[.slice none 0 0, .slice none 0 0, .bool false]).cells.toList.length = 3 := rfl; omega)) (fun j _ => B1.free _)
  have hfin : Hid ((sets (sets cur (0 + i * 3) news) ((n - 1) * 3) (Value.agg #[.slice none 0 0, .slice none 0 0, .bool false]).cells.toList).toList.take ((n - 1) * 3) = xs.take (i * 3) ++ xs.drop ((i + 1) * 3)) := by
    have hz : (Value.agg #[.slice none 0 0, .slice none 0 0, .bool false]).cells.toList.length = 3 := rfl
    rw [sets_take (by rw [sets_size, hz]; omega) (Nat.le_refl _), sets_full (by rw [hlen]; omega) (by rw [hlen]; omega), Nat.zero_add, ← hnews, ← htk, List.take_take, Nat.min_eq_left (by omega)]
    exact rfl
  have B2 : Box (W1.setCells g ((n - 1) * 3) (Value.agg #[.slice none 0 0, .slice none 0 0, .bool false]).cells.toList) g 30 (sets (sets cur (0 + i * 3) news) ((n - 1) * 3) (Value.agg #[.slice none 0 0, .slice none 0 0, .bool false]).cells.toList) := Box.sets _ _ _ _ B1
  have HW := Lib.hid hW1
  have HEND : Hid ((W1.setCells g ((n - 1) * 3) (Value.agg #[.slice none 0 0, .slice none 0 0, .bool false]).cells.toList).ownsRow base 30 3 (.slice (some ⟨g, 0, none⟩) (n - 1) cap) (n - 1) (xs.take (i * 3) ++ xs.drop ((i + 1) * 3)) ∧ Only [g] w (W1.setCells g ((n - 1) * 3) (Value.agg #[.slice none 0 0, .slice none 0 0, .bool false]).cells.toList)) :=
    ⟨own_of_box B2 hg (by omega) hcml (by rw [sets_size, sets_size]; exact hsz) hfin.out, Q1.trans (only_sets g _ _ W1)⟩
  have HL := Lib.hid hlen
  clear hW1 hlen hnews ho htk hsz hcl hlt hxl B hB B1 B2 Q1 hfin
  have hne : ((i : Int) == (i : Int) + 1) = false := beq_eq_false_iff_ne.2 (by omega)
  have hn1 : (i : Int) + 1 ≤ (n : Int) := by omega
  have htn : ((i : Int) + 1).toNat = i + 1 := by omega
  have hii : i + (n - (i + 1)) = n - 1 := by omega
  have hic : i ≤ cap := by omega
  have h0i : (0 : Int) ≤ (i : Int) + 1 := by omega
  have hjc : i + 1 ≤ cap := by omega
  have hjn : i + 1 ≤ n := by omega
  by_cases hcap : cap = i + 1
  · subst hcap
    have hii1 : (i : Int) ≤ (i : Int) + 1 := by omega
    have hnil : news = [] := List.eq_nil_of_length_eq_zero (by rw [HL.out]; omega)
    have SR : Hid (∀ t u, news[t]? = some u → w.drew.cell? ((⟨g, 0, none⟩ : Addr).add t) = some u) := fun t u hu => by rw [hnil] at hu; simp at hu
    clear hnil
    go_enter Tryz.func35, Tryz.ntmps35
    go_wp2_with fail
    go_region_law (refine step_append_room rfl (.tmp 22) (.tmp 25) 27 rfl 30 i0 3 Tryz.underlying27 hi0 hz1 g 0 i (i + 1) (by simp [Act.eval, Act.put]) ⟨g, 0, none⟩ (n - (i + 1)) (i + 1 - (i + 1)) news (by simp [Act.eval, Act.put]; omega) HL.out SR.out s2.out (by omega) s3.out ?_; rw [← HW.out, hii])
    have hcl2 := hcl1
    have hcn : ¬ i + 1 = n - 1 := by omega
    have hnn : n - (n - 1) = 1 := by omega
    have hb1 : (((n - 1 : Nat) : Int)) ≤ (n : Int) := by omega
    have hb2 : n - 1 ≤ n := by omega
    go_wp2
    go_ret
    exact ⟨rfl, HEND.out.1, HEND.out.2⟩
  · have SR : Hid (∀ t u, news[t]? = some u → w.drew.cell? ((⟨g, (i + 1) * 3, none⟩ : Addr).add t) = some u) := fun t u hu => by rw [add_lit]; exact hcell.out t u hu
    go_enter Tryz.func35, Tryz.ntmps35
    go_wp2_with fail
    go_region_law (refine step_append_room rfl (.tmp 22) (.tmp 25) 27 rfl 30 i0 3 Tryz.underlying27 hi0 hz1 g 0 i cap (by simp [Act.eval, Act.put]) ⟨g, (i + 1) * 3, none⟩ (n - (i + 1)) (cap - (i + 1)) news (by simp [Act.eval, Act.put, hcap]) HL.out SR.out s2.out (by omega) s3.out ?_; rw [← HW.out, hii])
    have hcl2 := hcl1
    have hcn : ¬ cap = n - 1 := by omega
    have hnn : n - (n - 1) = 1 := by omega
    have hb1 : (((n - 1 : Nat) : Int)) ≤ (n : Int) := by omega
    have hb2 : n - 1 ≤ n := by omega
    go_wp2
    go_ret
    exact ⟨rfl, HEND.out.1, HEND.out.2⟩
set_option maxRecDepth 100000 in
set_option maxHeartbeats 4000000 in
theorem insEndT (xs vs : List Value) (n cap g vb : Nat) (w : World) (base : Nat) (ho : w.ownsRow base 30 3 (.slice (some ⟨g, 0, none⟩) n cap) n xs) (hb : base ≤ w.heap.size) (hn : n ≤ 1000000)
    (hV : Box w vb 30 vs.toArray) (hvl : vs.length = 3) (h1v : ∀ v ∈ vs, v.oneCell' = true) :
    Calls Tryz.prog 29 #[.slice (some ⟨g, 0, none⟩) n cap, .int .i64 n, .slice (some ⟨vb, 0, none⟩) 1 1] w fun e w' =>
      ∃ v', e = .returned v' ∧ w'.ownsRow base 30 3 v' (n + 1) (xs ++ vs) ∧ w.grownBy w' (some g) := by
  obtain ⟨i0, hi0, hz0, hz1, hz2⟩ := info_parts info_item
  have HO := Lib.hid ho
  have hnc : n ≤ cap := (own_box ho).choose_spec.2.1
  have hcm : cap ≤ maxLen := (own_box ho).choose_spec.2.2.1
  unfold maxLen at hcm
  have hS : Hid (Seq w (.slice (some ⟨vb, 0, none⟩) 1 1) 1 vs) := ⟨_, 1, rfl, Nat.le_refl _, by unfold maxLen; omega, (fun h => by cases h), fun _ => ⟨vb, 0, rfl, hV.lt, fun j u hu => by rw [Nat.zero_add]; exact hV.at_ (by simpa using hu)⟩⟩
  clear ho hV
  go_enter Tryz.func29, Tryz.ntmps29
  go_wp2_with (at_builtin; refine wpList_append_seq _ rfl _ _ 27 rfl base 30 i0 _ 3 56 Tryz.underlying27 hi0 hz0 hz1 hz2 rfl (by omega) _ n xs rfl HO.out _ 1 vs rfl hS.out (by omega) h1v (by unfold maxLen; omega) (by omega) hb ?_; intro v' w' q1 q2 q3)
  all_goals
    go_ret
    exact ⟨_, rfl, q1, q2⟩
set_option maxRecDepth 100000 in
set_option maxHeartbeats 4000000 in
theorem insRoomT (xs vs : List Value) (n i cap g vb : Nat) (w : World) (base : Nat) (ho : w.ownsRow base 30 3 (.slice (some ⟨g, 0, none⟩) n cap) n xs) (hi : i < n) (hn : n ≤ 1000000) (hroom : n + 1 ≤ cap)
    (h1 : ∀ v ∈ xs, v.oneCell' = true) (hV : Box w vb 30 vs.toArray) (hvl : vs.length = 3) (h1v : ∀ v ∈ vs, v.oneCell' = true) (hvb : vb ≠ g) :
    Calls Tryz.prog 29 #[.slice (some ⟨g, 0, none⟩) n cap, .int .i64 i, .slice (some ⟨vb, 0, none⟩) 1 1] w fun e w' =>
      ∃ v', e = .returned v' ∧ w'.ownsRow base 30 3 v' (n + 1) (xs.take (i * 3) ++ vs ++ xs.drop (i * 3)) ∧ Only [g] w w' := by
  obtain ⟨cur, B, hnc, hcm, hsz, htk⟩ := own_box ho
  have hg : base ≤ g := (ho.lt g rfl).1
  have hxl : xs.length = n * 3 := ho.1
  obtain ⟨i0, hi0, hz0, hz1, hz2⟩ := info_parts info_item
  have hsize : (Tryz.prog.info? 30).map (·.size) = some 3 := by rw [hi0]; simp [hz1]
  have hcml := hcm
  unfold maxLen at hcm
  have hcl : cur.toList.length = cap * 3 := by simpa using hsz
  have hlt : (n + 1) * 3 ≤ cap * 3 := Nat.mul_le_mul_right _ hroom
  obtain ⟨rest, hrest⟩ : ∃ rest, rest = xs.drop (i * 3) := ⟨_, rfl⟩
  have hrl : rest.length = (n - i) * 3 := by rw [hrest, List.length_drop, hxl]; omega
  have hov : ∀ lb cb, (callFunc 61 #[.slice (some ⟨vb, 0, none⟩) 1 1, .slice (some ⟨g, (i + 1) * 3, none⟩) lb cb]).run Tryz.prog w = .ok (.value (.bool false)) w := fun lb cb => by
    rw [run_callFunc_extern Tryz.func61 (by kernel_rfl) (by kernel_rfl) (by kernel_rfl) (e := Extern.SlicesOverlaps.overlaps #[27, 27] #[4]) (by kernel_rfl),
      Lib.run_overlaps_apart w 27 4 30 Tryz.underlying27 3 (fun w => by simp [sizeOf, typeInfo, hi0, hz1]) ⟨vb, 0, none⟩ ⟨g, (i + 1) * 3, none⟩ 1 1 lb cb hvb 30 30 3 (cap * 3) (by unfold Box at hV; simp [World.shape?, hV, hvl]) (by unfold Box at B; simp [World.shape?, B, hsz]) (by omega) (hV.free _) (hV.free _)]
    rfl
  have hcp1 : ∀ ty dc sc, (Builtin.copy_ #[27, 27] ty #[.slice (some ⟨g, (i + 1) * 3, none⟩) (n - i) dc, .slice (some ⟨g, i * 3, none⟩) (n + 1 - i) sc]).run Tryz.prog w.drew = .ok (goInt ((n - i : Nat) : Int)) (w.drew.setCells g ((i + 1) * 3) rest) := fun ty dc sc =>
    run_copyN w.drew _ _ ty 30 3 g ((i + 1) * 3) (n - i) dc ⟨g, i * 3, none⟩ (n + 1 - i) sc (n - i) rest Tryz.underlying27 hsize (by simp only [Nat.min_def]; split <;> omega) hrl
      (fun j v hj => by
        rw [add_lit]
        refine B.at_ ?_
        have hjl := (List.getElem?_eq_some_iff.1 hj).1
        rw [hrest, List.getElem?_drop, ← htk, List.getElem?_take_of_lt (by omega)] at hj
        exact hj)
      (fun j hj => B.some (by omega)) (fun j _ => B.free _) (fun v hv => h1 v (by rw [hrest] at hv; exact List.mem_of_mem_drop hv))
  obtain ⟨W1, hW1⟩ : ∃ W1, W1 = w.drew.setCells g ((i + 1) * 3) rest := ⟨_, rfl⟩
  rw [← hW1] at hcp1
  have B1 : Box W1 g 30 (sets cur ((i + 1) * 3) rest) := hW1 ▸ Box.sets rest _ w.drew _ B
  have Q1 : Only [g] w W1 := hW1 ▸ only_drew_sets g rest _ w
  have V1 := hV.only Q1 (by simpa using hvb)
  have hcp2 : ∀ ty dc, (Builtin.copy_ #[27, 27] ty #[.slice (some ⟨g, i * 3, none⟩) (n + 1 - i) dc, .slice (some ⟨vb, 0, none⟩) 1 1]).run Tryz.prog W1 = .ok (goInt 1) (W1.setCells g (i * 3) vs) := fun ty dc =>
    run_copyN W1 _ _ ty 30 3 g (i * 3) (n + 1 - i) dc ⟨vb, 0, none⟩ 1 1 1 vs Tryz.underlying27 hsize (by simp only [Nat.min_def]; split <;> omega) (by omega)
      (fun j v hj => by
        rw [add_lit, Nat.zero_add]
        exact V1.at_ (by simpa using hj))
      (fun j hj => B1.some (by rw [sets_size]; omega)) (fun j _ => B1.free _) h1v
  have HEND : Hid ((W1.setCells g (i * 3) vs).ownsRow base 30 3 (.slice (some ⟨g, 0, none⟩) (n + 1) cap) (n + 1) (xs.take (i * 3) ++ vs ++ xs.drop (i * 3)) ∧ Only [g] w (W1.setCells g (i * 3) vs)) := by
    refine ⟨own_of_box (Box.sets vs _ _ _ B1) hg hroom hcml (by rw [sets_size, sets_size]; exact hsz) ?_, Q1.trans (only_sets g _ _ W1)⟩
    rw [sets_toList _ _ _ (by rw [sets_size]; omega), ← hrest, show i * 3 + vs.length = (i + 1) * 3 from by omega, sets_drop (by omega)]
    rw [sets_take (by omega) (by omega), ← htk, List.take_take, Nat.min_eq_left (by omega), ← List.append_assoc]
    exact List.take_left' (by rw [List.length_append, List.length_append, List.length_take, hcl]; omega)
  have HW := Lib.hid hW1
  clear hW1 hrl hrest ho htk hsz hcl hxl B B1 Q1 V1 hV hvl h1 h1v
  have hz1' : ((1 : Int) == 0) = false := rfl
  have hz2' : ((i : Int) == (n : Int)) = false := beq_eq_false_iff_ne.2 (by omega)
  have hz3 : ¬ ((cap : Int) < (n : Int) + 1) := by omega
  have hw1 : IntKind.i64.wrap ((i : Int) + 1) = (i : Int) + 1 := IntWalk.i64_in _ (by omega)
  have hb1 : (0 : Int) ≤ (i : Int) + 1 := by omega
  have htn : ((i : Int) + 1).toNat = i + 1 := by omega
  have htn2 : ((n : Int) + 1).toNat = n + 1 := by omega
  have hb2 : ¬ (cap = i + 1) := by omega
  have hb4 : ¬ (cap = i) := by omega
  have hb5 : (i : Int) + 1 ≤ (n : Int) + 1 := by omega
  have hb6 : (i : Int) ≤ (n : Int) + 1 := by omega
  have hb7 : i ≤ n := by omega
  have hb8 : (n : Int) + 1 ≤ (cap : Int) := by omega
  go_enter Tryz.func29, Tryz.ntmps29
  go_wp2_with (simp only [hov])
  go_region_law (refine step_copy_run rfl _ _ 27 27 rfl _ _ (by simp [Act.eval, Act.put]) (by simp [Act.eval, Act.put]) (hcp1 _ _ _) ?_)
  go_wp2_with (at_builtin; refine wpList_copy_run _ rfl _ _ 27 27 rfl _ _ rfl rfl (hcp2 _ _) ?_)
  go_ret
  exact ⟨_, rfl, HEND.out.1, HEND.out.2⟩
set_option maxRecDepth 100000 in
set_option maxHeartbeats 4000000 in
theorem insGrowT (xs vs : List Value) (n i cap g vb : Nat) (w : World) (base : Nat) (ho : w.ownsRow base 30 3 (.slice (some ⟨g, 0, none⟩) n cap) n xs) (hi : i < n) (hn : n ≤ 1000000) (hroom : cap < n + 1) (hbase : base ≤ w.heap.size)
    (h1 : ∀ v ∈ xs, v.oneCell' = true) (hV : Box w vb 30 vs.toArray) (hvl : vs.length = 3) (h1v : ∀ v ∈ vs, v.oneCell' = true) :
    Calls Tryz.prog 29 #[.slice (some ⟨g, 0, none⟩) n cap, .int .i64 i, .slice (some ⟨vb, 0, none⟩) 1 1] w fun e w' =>
      ∃ v', e = .returned v' ∧ w'.ownsRow base 30 3 v' (n + 1) (xs.take (i * 3) ++ vs ++ xs.drop (i * 3)) ∧ Only [] w w' := by
  obtain ⟨cur, B, hnc, hcm, hsz, htk⟩ := own_box ho
  have hxl : xs.length = n * 3 := ho.1
  obtain ⟨i0, hi0, hz0, hz1, hz2⟩ := info_parts info_item
  have hsize : (Tryz.prog.info? 30).map (·.size) = some 3 := by rw [hi0]; simp [hz1]
  obtain rfl : cap = n := by omega
  unfold maxLen at hcm
  have hcl : cur.toList.length = cap * 3 := by simpa using hsz
  have htk' : cur.toList = xs := by rw [← htk, List.take_of_length_le (by omega)]
  obtain ⟨rest, hrest⟩ : ∃ rest, rest = xs.drop (i * 3) := ⟨_, rfl⟩
  have hrl : rest.length = (cap - i) * 3 := by rw [hrest, List.length_drop, hxl]; omega
  have hkk : (cap : Int) + 1 - (i : Int) = ((cap + 1 - i : Nat) : Int) := by omega
  have hik : i + (cap + 1 - i) = cap + 1 := by omega
  have hold : (Builtin.firstCells i0.size i (.slice (some ⟨g, 0, none⟩) i cap)).run Tryz.prog w.drew = .ok (xs.take (i * 3)).toArray w.drew := by
    rw [hz1]
    refine run_firstCells_some w.drew 3 i ⟨g, 0, none⟩ i cap (xs.take (i * 3)) (by rw [List.length_take]; omega) (fun j v hj => ?_)
    rw [add_lit, Nat.zero_add]
    refine B.at_ ?_
    rw [htk']
    rw [List.getElem?_take] at hj
    split at hj
    · exact hj
    · cases hj
  obtain ⟨G, hG⟩ : ∃ G, G = grownCap w (cap + 1) cap 30 := ⟨_, rfl⟩
  obtain ⟨ROW, hROW⟩ : ∃ ROW : Array Value, ROW = (xs.take (i * 3)).toArray ++ Builtin.zeroCells (Value.agg #[.slice none 0 0, .slice none 0 0, .bool false]).cells (cap + 1 - i) ++ Builtin.zeroCells (Value.agg #[.slice none 0 0, .slice none 0 0, .bool false]).cells (G - (cap + 1)) := ⟨_, rfl⟩
  have hrz : ∀ ty, (Builtin.append_ #[27, 3] ty #[.slice (some ⟨g, 0, none⟩) i cap, .int .i64 ((cap : Int) + 1 - (i : Int))]).run Tryz.prog w =
      .ok (.slice (some ⟨w.heap.size, 0, none⟩) (cap + 1) G) (w.drew.alloc (.cells ROW 30)) := fun ty => by
    have h := Lib.run_append_grow_zeros w 27 3 ty 30 i0 _ .i64 .i64 Tryz.underlying27 Tryz.underlying3 hi0 hz0 (some ⟨g, 0, none⟩) i cap (xs.take (i * 3)) hold (cap + 1 - i) (by omega) (by omega) (by omega) (by omega) (by rw [hz2]; omega) (by rw [hz2, hik]; exact growslice_fits hroom (by omega))
    rw [hik, ← hG, ← hROW] at h
    rw [hkk]
    exact h
  have hGn : cap + 1 ≤ G := by rw [hG]; exact grownCap_ge w _ _ _
  have hG63 : G ≤ maxLen := by rw [hG]; exact grownCap_le_maxLen w (cap + 1) cap 30 (by unfold maxLen; omega)
  have hzs : ∀ k, (Builtin.zeroCells (Value.agg #[.slice none 0 0, .slice none 0 0, .bool false]).cells k).size = k * 3 := fun k => by unfold Builtin.zeroCells; rw [Array.size_map, Array.size_range]; rfl
  have hRs : ROW.size = G * 3 := by
    rw [hROW, Array.size_append, Array.size_append, hzs, hzs, List.size_toArray, List.length_take, hxl]
    omega
  have hRt : ROW.toList.take (i * 3) = xs.take (i * 3) := by
    rw [hROW, Array.toList_append, Array.toList_append, List.append_assoc]
    exact List.take_left' (by rw [List.length_take]; omega)
  have hgw : g < w.heap.size := B.lt
  have hvw : vb < w.heap.size := hV.lt
  obtain ⟨W1, hW1⟩ : ∃ W1, W1 = (w.alloc (.cells ROW 30)).drew := ⟨_, rfl⟩
  have B1 : Box W1 w.heap.size 30 ROW := hW1 ▸ Box.new w w.heap.size 30 ROW rfl
  have k1 : Kept w W1 := hW1 ▸ ((Kept.refl w).alloc _).drew
  have BG := B.kept k1
  have V1 := hV.kept k1
  have hcpA : ∀ ty dc, (Builtin.copy_ #[27, 27] ty #[.slice (some ⟨w.heap.size, i * 3, none⟩) (cap + 1 - i) dc, .slice (some ⟨vb, 0, none⟩) 1 1]).run Tryz.prog W1 = .ok (goInt 1) (W1.setCells w.heap.size (i * 3) vs) := fun ty dc =>
    run_copyN W1 _ _ ty 30 3 w.heap.size (i * 3) (cap + 1 - i) dc ⟨vb, 0, none⟩ 1 1 1 vs Tryz.underlying27 hsize (by simp only [Nat.min_def]; split <;> omega) (by omega)
      (fun j v hj => by
        rw [add_lit, Nat.zero_add]
        exact V1.at_ (by simpa using hj))
      (fun j hj => B1.some (by omega)) (fun j _ => B1.free _) h1v
  obtain ⟨W2, hW2⟩ : ∃ W2, W2 = W1.setCells w.heap.size (i * 3) vs := ⟨_, rfl⟩
  rw [← hW2] at hcpA
  have B2 : Box W2 w.heap.size 30 (sets ROW (i * 3) vs) := hW2 ▸ Box.sets vs _ W1 _ B1
  have Q2 : Only [w.heap.size] W1 W2 := hW2 ▸ only_sets w.heap.size vs _ W1
  have BG2 := BG.only Q2 (by simp; omega)
  have hcpB : ∀ ty dc sc, (Builtin.copy_ #[27, 27] ty #[.slice (some ⟨w.heap.size, (i + 1) * 3, none⟩) (cap - i) dc, .slice (some ⟨g, i * 3, none⟩) (cap - i) sc]).run Tryz.prog W2.drew = .ok (goInt ((cap - i : Nat) : Int)) (W2.drew.setCells w.heap.size ((i + 1) * 3) rest) := fun ty dc sc =>
    run_copyN W2.drew _ _ ty 30 3 w.heap.size ((i + 1) * 3) (cap - i) dc ⟨g, i * 3, none⟩ (cap - i) sc (cap - i) rest Tryz.underlying27 hsize (by simp only [Nat.min_def]; split <;> omega) hrl
      (fun j v hj => by
        rw [add_lit]
        refine BG2.at_ ?_
        rw [htk']
        rw [hrest, List.getElem?_drop] at hj
        exact hj)
      (fun j hj => B2.some (by rw [sets_size]; omega)) (fun j _ => B2.free _) (fun v hv => h1 v (by rw [hrest] at hv; exact List.mem_of_mem_drop hv))
  have HEND : Hid ((W2.drew.setCells w.heap.size ((i + 1) * 3) rest).ownsRow base 30 3 (.slice (some ⟨w.heap.size, 0, none⟩) (cap + 1) G) (cap + 1) (xs.take (i * 3) ++ vs ++ xs.drop (i * 3)) ∧ Only [] w (W2.drew.setCells w.heap.size ((i + 1) * 3) rest)) := by
    refine ⟨own_of_box (Box.sets rest _ _ _ (show Box W2.drew _ _ _ from B2)) hbase hGn hG63 (by rw [sets_size, sets_size]; exact hRs) ?_, ?_⟩
    · rw [sets_full (by rw [sets_size, hRs]; omega) (by omega), sets_full (by rw [hRs]; omega) (by omega), hRt, ← hrest]
    · have := (Q2.above k1 (by simp))
      exact (((only_drew_sets w.heap.size rest ((i + 1) * 3) W2).above this (by simp))).only []
  have hGi : ¬ (G = i) := by omega
  have hGim : ¬ (G = i + 1) := by omega
  have hci : ¬ (cap = i) := by omega
  clear hG hROW hrl hrest ho htk htk' hcl hxl B B1 B2 Q2 V1 hV hvl h1 h1v hold BG BG2 hRs hRt hzs
  have HW1 := Lib.hid hW1
  have HW2 := Lib.hid hW2
  unfold maxLen at hG63
  rw [hW1] at hcpA
  clear hkk hik
  have hz1' : ((1 : Int) == 0) = false := rfl
  have hz2' : ((i : Int) == (cap : Int)) = false := beq_eq_false_iff_ne.2 (by omega)
  have hw1 : IntKind.i64.wrap ((i : Int) + 1) = (i : Int) + 1 := IntWalk.i64_in _ (by omega)
  have hb1 : (0 : Int) ≤ (i : Int) + 1 := by omega
  have htn : ((i : Int) + 1).toNat = i + 1 := by omega
  have hb5 : (i : Int) + 1 ≤ (cap : Int) + 1 := by omega
  have hb6 : (i : Int) ≤ (cap : Int) + 1 := by omega
  have hb7 : i ≤ cap := by omega
  have hb3 : (i : Int) ≤ (cap : Int) := by omega
  clear hW1 hW2
  go_enter Tryz.func29, Tryz.ntmps29
  go_wp2_with (first | (at_builtin; refine Lib.wpList_append_run _ rfl _ _ _ _ rfl _ _ rfl rfl _ _ (hrz _) ?_) | (at_builtin; refine wpList_copy_run _ rfl _ _ 27 27 rfl _ _ rfl rfl (hcpA _ _) ?_))
  go_region_law (refine step_copy_run rfl _ _ 27 27 rfl _ _ (by simp [Act.eval, Act.put]) (by simp [Act.eval, Act.put]) (hcpB _ _ _) ?_)
  go_wp2
  go_ret
  exact ⟨_, rfl, HEND.out.1, HEND.out.2⟩
end Go.Proofs.YtkekpolfdmmgeaaGreat

/- append(out, xs...) to rows of the call's own, in the words of the readings. -/
namespace Go.Proofs.YtkekpolfdmmgeaaGreat
set_option linter.unusedVariables false
set_option linter.unusedSimpArgs false
open Go.RowKit

theorem wp_append_S (w : World) {o : Oper} {a : Act} {K : Act → World → Prop} {Q : Exit → Act → World → Prop} (s x : Operand)
    (ho : o.op = .call { callee := .builtin .append, args := #[s, x], argTypes := #[28, 28] })
    (base : Nat) (v : Value) (zs : List ByteArray) (hs : a.eval s = v) (hown : OwnS w base v zs) (u : Value) (ys : List ByteArray) (hx : a.eval x = u) (hr : Strs w u ys)
    (hl : zs.length + ys.length ≤ 16777216) (hbase : base ≤ w.heap.size)
    (h : ∀ v' w', OwnS w' base v' (zs ++ ys) → w.grownBy w' v.ownBlock → K (a.put o.dst v') w') : o.wp Tryz.prog a w K Q := by
  obtain ⟨i0, hi, hz0, hz1, hz2⟩ := info_parts info_str
  refine wp_append_seq w s x 28 ho base 9 i0 _ 1 16 Tryz.underlying28 hi hz0 hz1 hz2 rfl (by omega) v zs.length _ hs hown.1 u ys.length _ hx hr.1 (by simp) ?_ (by unfold maxLen; omega) (by omega) hbase (fun v' w' q1 q2 => h v' w' ?_ q2)
  · intro y hy
    obtain ⟨_, _, rfl⟩ := List.mem_map.1 hy; rfl
  · refine ⟨?_, ?_⟩
    · rw [List.length_append, List.map_append]
      exact q1
    · intro e he
      rcases List.mem_append.1 he with he | he
      · exact hown.2 e he
      · exact hr.2 e he
theorem wpList_append_S (w : World) {ops : Array Oper} {rest : List Oper} {o : Oper} {a : Act} {Q : Exit → Act → World → Prop} (hgd : o.guard = none) (s x : Operand)
    (ho : o.op = .call { callee := .builtin .append, args := #[s, x], argTypes := #[28, 28] })
    (base : Nat) (v : Value) (zs : List ByteArray) (hs : a.eval s = v) (hown : OwnS w base v zs) (u : Value) (ys : List ByteArray) (hx : a.eval x = u) (hr : Strs w u ys)
    (hl : zs.length + ys.length ≤ 16777216) (hbase : base ≤ w.heap.size)
    (h : ∀ v' w', OwnS w' base v' (zs ++ ys) → w.grownBy w' v.ownBlock → wpList Tryz.prog ops Q rest (a.put o.dst v') w') : wpList Tryz.prog ops Q (o :: rest) a w :=
  wpList_plain hgd fun _ hK => wp_append_S w s x ho base v zs hs hown u ys hx hr hl hbase fun v' w' h2 h3 => hK _ _ (h v' w' h2 h3)
theorem step_append_S (w : World) {ops : Array Oper} {o : Oper} {a : Act} {K : Act → World → Prop} {Q : Exit → Act → World → Prop} {E : Prop} (hgd : o.guard = none) (s x : Operand)
    (ho : o.op = .call { callee := .builtin .append, args := #[s, x], argTypes := #[28, 28] })
    (base : Nat) (v : Value) (zs : List ByteArray) (hs : a.eval s = v) (hown : OwnS w base v zs) (u : Value) (ys : List ByteArray) (hx : a.eval x = u) (hr : Strs w u ys)
    (hl : zs.length + ys.length ≤ 16777216) (hbase : base ≤ w.heap.size)
    (h : ∀ v' w', OwnS w' base v' (zs ++ ys) → w.grownBy w' v.ownBlock → K (a.put o.dst v') w') :
    if Region.wanted o (yielded ops a.tmps) = true then Oper.wp Tryz.prog o a w K Q else E := by
  have hw : Region.wanted o (yielded ops a.tmps) = true := by simp [Region.wanted, hgd]
  rw [if_pos hw]
  exact wp_append_S w s x ho base v zs hs hown u ys hx hr hl hbase h
end Go.Proofs.YtkekpolfdmmgeaaGreat

/- Lists of items that a call builds by append. -/
namespace Go.Proofs.YtkekpolfdmmgeaaGreat
set_option linter.unusedVariables false
set_option linter.unusedSimpArgs false
open Go.RowKit

theorem ownT_fps {w : World} {base : Nat} {v : Value} {it : ItemD} (h : OwnT w base v it) : ∀ b ∈ fpA v, base ≤ b ∧ b < w.heap.size := by
  obtain ⟨nv, mv, rfl, h1, h2, h3⟩ := h
  rw [fpA_item]
  intro b hb
  rcases List.mem_append.1 hb with hb | hb
  · exact own_fp h1.1 b hb
  · exact own_fp h2 b hb
theorem OwnC.fps {w : World} {base : Nat} {v : Value} {its : List ItemD} {cs : List (Value × Value)} (h : OwnC w base v its cs) : ∀ b ∈ fp v ++ fpL cs, base ≤ b ∧ b < w.heap.size := by
  obtain ⟨h1, h2, h3, _⟩ := h
  intro b hb
  rcases List.mem_append.1 hb with hb | hb
  · exact own_fp h2 b hb
  · unfold fpL at hb
    obtain ⟨⟨nv, mv⟩, hp, hb⟩ := List.mem_flatMap.1 hb
    obtain ⟨k, hk⟩ := List.getElem?_of_mem hp
    have hlt : k < its.length := by rw [← h1]; exact (List.getElem?_eq_some_iff.1 hk).1
    obtain ⟨q1, q2⟩ := h3 k nv mv its[k] hk (List.getElem?_eq_getElem hlt)
    rcases List.mem_append.1 hb with hb | hb
    · exact own_fp q1.1 b hb
    · exact own_fp q2 b hb
theorem OwnC.base {w : World} {base base' : Nat} {v : Value} {its : List ItemD} {cs : List (Value × Value)} (h : OwnC w base v its cs) (hb : base' ≤ base) : OwnC w base' v its cs :=
  ⟨h.1, own_base h.2.1 hb, fun k nv mv it q1 q2 => ⟨⟨own_base (h.2.2.1 k nv mv it q1 q2).1.1 hb, (h.2.2.1 k nv mv it q1 q2).1.2⟩, own_base (h.2.2.1 k nv mv it q1 q2).2 hb⟩, h.2.2.2⟩
theorem OwnC.toL {w : World} {base : Nat} {v : Value} {its : List ItemD} {cs : List (Value × Value)} (h : OwnC w base v its cs) : OwnL w base v its (fp v ++ fpL cs) :=
  ⟨cs, h.1, h.2.1, h.2.2.1, rfl, h.2.2.2, h.fps⟩
theorem OwnC.nil0 (w : World) (base : Nat) : OwnC w base (.slice none 0 0) [] [] := ⟨rfl, World.ownsRow_nil _ _ _ _, fun k _ _ _ h => by simp at h, by simp [fp, fpL, Value.ownBlock]⟩
theorem OwnC.made {w : World} {base : Nat} (g : Nat) (hb : base ≤ g) (h : Box w g 30 #[]) : OwnC w base (.slice (some ⟨g, 0, none⟩) 0 0) [] [] :=
  ⟨rfl, own_made g _ 3 hb h, fun k _ _ _ h => by simp at h, by simp [fp_some, fpL]⟩
/-- one item more -/
theorem OwnC.push {w w' : World} {base : Nat} {v v' nv mv : Value} {its : List ItemD} {cs : List (Value × Value)} {it : ItemD} (h : OwnC w base v its cs) (hn : OwnS w base nv it.names) (hm : OwnI w base mv it.marks)
    (hnd : (fp nv ++ fp mv).Nodup) (hd : ∀ b ∈ fp nv ++ fp mv, b ∉ fp v ++ fpL cs) (ho : w'.ownsRow base 30 3 v' (its.length + 1) ((cs.zip its).flatMap row3 ++ [nv, mv, .bool it.late]))
    (hg : w.grownBy w' v.ownBlock) (hv : v'.ownBlock = v.ownBlock ∨ v'.ownBlock = some w.heap.size) : OwnC w' base v' (its ++ [it]) (cs ++ [(nv, mv)]) := by
  have hon := only_of_grown hg
  have hfs := h.fps
  have hfn : ∀ b ∈ fp nv ++ fp mv, b < w.heap.size := fun b hb => by
    rcases List.mem_append.1 hb with hb | hb
    · exact (own_fp hn.1 b hb).2
    · exact (own_fp hm b hb).2
  have hd1 : ∀ b ∈ fp nv ++ fp mv, b ∉ fp v := fun b hb hb' => hd b hb (List.mem_append_left _ hb')
  have hnod := List.nodup_append.1 h.2.2.2
  refine ⟨by simp [h.1], ?_, ?_, ?_⟩
  · rw [List.length_append, List.length_singleton]
    have e : (cs ++ [(nv, mv)]).zip (its ++ [it]) = cs.zip its ++ [((nv, mv), it)] := by
      rw [List.zip_append h.1]
      rfl
    rw [e, List.flatMap_append]
    simpa [row3] using ho
  · intro k nv' mv' it' q1 q2
    rcases getElem?_snoc q1 with q | ⟨qk, qe⟩
    · have hk : k < its.length := by rw [← h.1]; exact (List.getElem?_eq_some_iff.1 q).1
      rw [List.getElem?_append_left hk] at q2
      obtain ⟨r1, r2⟩ := h.2.2.1 k nv' mv' it' q q2
      have hx : ∀ b, b ∈ fp nv' ∨ b ∈ fp mv' → b ∉ fp v := fun b hb hb' => hnod.2.2 b hb' b (mem_fpL q hb) rfl
      exact ⟨r1.only hon (fun b hb => hx b (.inl hb)), r2.only hon (fun b hb => hx b (.inr hb))⟩
    · simp only [Prod.mk.injEq] at qe
      obtain ⟨rfl, rfl⟩ := qe
      rw [qk, h.1, List.getElem?_concat_length] at q2
      injection q2 with q2
      subst q2
      exact ⟨hn.only hon (fun b hb => hd1 b (List.mem_append_left _ hb)), hm.only hon (fun b hb => hd1 b (List.mem_append_right _ hb))⟩
  · rw [fpL_snoc]
    have hv' : ∀ b ∈ fp v', b ∈ fp v ∨ b = w.heap.size := fun b hb => by
      have hb' : v'.ownBlock = some b := by simpa [fp] using hb
      rcases hv with hv | hv
      · left
        rw [hv] at hb'
        simpa [fp] using hb'
      · right
        rw [hv] at hb'
        injection hb' with hb'
        exact hb'.symm
    rw [List.nodup_append]
    refine ⟨nodup_one _, List.nodup_append.2 ⟨hnod.2.1, hnd, fun x hx y hy e => ?_⟩, fun x hx y hy e => ?_⟩
    · subst e
      exact hd x hy (List.mem_append_right _ hx)
    · subst e
      rcases hv' x hx with hx | rfl
      · rcases List.mem_append.1 hy with hy | hy
        · exact hnod.2.2 x hx x hy rfl
        · exact hd1 x hy hx
      · rcases List.mem_append.1 hy with hy | hy
        · have := (hfs _ (List.mem_append_right _ hy)).2
          omega
        · have := hfn _ hy
          omega
theorem set3 {w : World} {g : Nat} {t : TypeId} {x0 x1 x2 : Value} (h : Box w g t #[x0, x1, x2]) (u0 u1 u2 : Value) :
    ∃ w9, w9 = ((w.setCell ⟨g, 0, none⟩ u0).setCell ⟨g, 1, none⟩ u1).setCell ⟨g, 2, none⟩ u2 ∧ Box w9 g t #[u0, u1, u2] ∧ Only [g] w w9 :=
  ⟨_, rfl, ((h.set 0 u0).set 1 u1).set 2 u2, (((Only.refl [g] w).setCell (by simp) _).setCell (by simp) _).setCell (by simp) _⟩
theorem Box.far3 {w : World} {b g : Nat} {t : TypeId} {cs : Array Value} (h : Box w b t cs) (hne : b ≠ g) (u0 u1 u2 : Value) :
    Box (((w.setCell ⟨g, 0, none⟩ u0).setCell ⟨g, 1, none⟩ u1).setCell ⟨g, 2, none⟩ u2) b t cs := ((h.far _ hne _).far _ hne _).far _ hne _
/-- append(out, item) -/
theorem run_append_T {P : Program} (w : World) (base : Nat) (t ty e : TypeId) (i : TypeInfo) (z : Value) (ht : P.underlying t = some (.slice e)) (hi : P.info? e = some i) (hz : i.zero = some z)
    (hsize : i.size = 3) (hby : i.bytes = 56) (hzs : z.cells.size = 3) (v : Value) (n : Nat) (xs : List Value) (hown : w.ownsRow base e 3 v n xs) (g : Nat) (c0 c1 c2 : Value) (hB : Box w g e #[c0, c1, c2])
    (h1 : c0.oneCell' = true ∧ c1.oneCell' = true ∧ c2.oneCell' = true) (hl : n ≤ 1000000) (hbase : base ≤ w.heap.size) :
    ∃ v' w', (Builtin.append_ #[t, t] ty #[v, .slice (some ⟨g, 0, none⟩) 1 1]).run P w = .ok v' w' ∧ w'.ownsRow base e 3 v' (n + 1) (xs ++ [c0, c1, c2]) ∧ w.grownBy w' v.ownBlock ∧ (v'.ownBlock = v.ownBlock ∨ v'.ownBlock = some w.heap.size) := by
  obtain ⟨v', w', hrun, h2, h3, _, h5⟩ := run_append_own_at (P := P) w base t ty e i z 3 56 ht hi hz hsize hby hzs (by omega) v n xs hown ⟨g, 0, none⟩ 1 1 [c0, c1, c2] rfl (by
    intro j u hu
    have e1 : (⟨g, 0, none⟩ : Addr).add j = ⟨g, j, none⟩ := by unfold Addr.add; split <;> simp_all
    rw [e1, hB.cell j, ← hu]
    exact List.getElem?_toArray (xs := [c0, c1, c2]) (i := j)) (by
    intro u hu
    simp only [List.mem_cons, List.not_mem_nil, or_false] at hu
    rcases hu with rfl | rfl | rfl
    · exact h1.1
    · exact h1.2.1
    · exact h1.2.2) (by unfold maxLen; omega) (by omega) hbase
  exact ⟨v', w', hrun, h2, h3, h5⟩
theorem wp_append_T (w : World) {o : Oper} {a : Act} {K : Act → World → Prop} {Q : Exit → Act → World → Prop} (s x : Operand)
    (ho : o.op = .call { callee := .builtin .append, args := #[s, x], argTypes := #[27, 27] })
    (base : Nat) (v : Value) (n : Nat) (xs : List Value) (hs : a.eval s = v) (hown : w.ownsRow base 30 3 v n xs) (g : Nat) (c0 c1 c2 : Value) (hx : a.eval x = .slice (some ⟨g, 0, none⟩) 1 1)
    (hB : Box w g 30 #[c0, c1, c2]) (h1 : c0.oneCell' = true ∧ c1.oneCell' = true ∧ c2.oneCell' = true) (hl : n ≤ 1000000) (hbase : base ≤ w.heap.size)
    (h : ∀ v' w', w'.ownsRow base 30 3 v' (n + 1) (xs ++ [c0, c1, c2]) → w.grownBy w' v.ownBlock → (v'.ownBlock = v.ownBlock ∨ v'.ownBlock = some w.heap.size) → K (a.put o.dst v') w') : o.wp Tryz.prog a w K Q := by
  obtain ⟨i0, hi, hz0, hz1, hz2⟩ := info_parts info_item
  obtain ⟨v', w', hrun, h2, h3, h4⟩ := run_append_T (P := Tryz.prog) w base 27 o.type 30 i0 _ Tryz.underlying27 hi hz0 hz1 hz2 rfl v n xs hown g c0 c1 c2 hB h1 hl hbase
  unfold Oper.wp execOp
  simp only [ho, resolve, invoke, builtin, Sem.run_bind, Sem.run_pure, Result.andThen_ok, List.map_toArray, List.map_cons, List.map_nil, hs, hx, hrun]
  exact h v' w' h2 h3 h4
theorem wpList_append_T (w : World) {ops : Array Oper} {rest : List Oper} {o : Oper} {a : Act} {Q : Exit → Act → World → Prop} (hgd : o.guard = none) (s x : Operand)
    (ho : o.op = .call { callee := .builtin .append, args := #[s, x], argTypes := #[27, 27] })
    (base : Nat) (v : Value) (n : Nat) (xs : List Value) (hs : a.eval s = v) (hown : w.ownsRow base 30 3 v n xs) (g : Nat) (c0 c1 c2 : Value) (hx : a.eval x = .slice (some ⟨g, 0, none⟩) 1 1)
    (hB : Box w g 30 #[c0, c1, c2]) (h1 : c0.oneCell' = true ∧ c1.oneCell' = true ∧ c2.oneCell' = true) (hl : n ≤ 1000000) (hbase : base ≤ w.heap.size)
    (h : ∀ v' w', w'.ownsRow base 30 3 v' (n + 1) (xs ++ [c0, c1, c2]) → w.grownBy w' v.ownBlock → (v'.ownBlock = v.ownBlock ∨ v'.ownBlock = some w.heap.size) → wpList Tryz.prog ops Q rest (a.put o.dst v') w') : wpList Tryz.prog ops Q (o :: rest) a w :=
  wpList_plain hgd fun _ hK => wp_append_T w s x ho base v n xs hs hown g c0 c1 c2 hx hB h1 hl hbase fun v' w' h2 h3 h4 => hK _ _ (h v' w' h2 h3 h4)
theorem step_append_T (w : World) {ops : Array Oper} {o : Oper} {a : Act} {K : Act → World → Prop} {Q : Exit → Act → World → Prop} {E : Prop} (hgd : o.guard = none) (s x : Operand)
    (ho : o.op = .call { callee := .builtin .append, args := #[s, x], argTypes := #[27, 27] })
    (base : Nat) (v : Value) (n : Nat) (xs : List Value) (hs : a.eval s = v) (hown : w.ownsRow base 30 3 v n xs) (g : Nat) (c0 c1 c2 : Value) (hx : a.eval x = .slice (some ⟨g, 0, none⟩) 1 1)
    (hB : Box w g 30 #[c0, c1, c2]) (h1 : c0.oneCell' = true ∧ c1.oneCell' = true ∧ c2.oneCell' = true) (hl : n ≤ 1000000) (hbase : base ≤ w.heap.size)
    (h : ∀ v' w', w'.ownsRow base 30 3 v' (n + 1) (xs ++ [c0, c1, c2]) → w.grownBy w' v.ownBlock → (v'.ownBlock = v.ownBlock ∨ v'.ownBlock = some w.heap.size) → K (a.put o.dst v') w') :
    if Region.wanted o (yielded ops a.tmps) = true then Oper.wp Tryz.prog o a w K Q else E := by
  have hw : Region.wanted o (yielded ops a.tmps) = true := by simp [Region.wanted, hgd]
  rw [if_pos hw]
  exact wp_append_T w s x ho base v n xs hs hown g c0 c1 c2 hx hB h1 hl hbase h
/-! ### one row after another -/
theorem mixA_get {α : Type} {a b : List α} {j : Nat} (h : a.length = b.length) (hj : j < b.length) : (a.take j ++ b.drop j)[j]? = b[j]? := by
  rw [List.getElem?_append_right (by rw [List.length_take]; omega), List.length_take, Nat.min_eq_left (by omega), Nat.sub_self, List.getElem?_drop, Nat.add_zero]
theorem mixA_set {α : Type} {a b : List α} {j : Nat} {z : α} (h : a.length = b.length) (hj : j < b.length) (hz : a[j]? = some z) : (a.take j ++ b.drop j).set j z = a.take (j + 1) ++ b.drop (j + 1) := by
  rw [List.set_append_right _ _ (by rw [List.length_take]; omega), List.length_take, Nat.min_eq_left (by omega), Nat.sub_self, take_snoc hz, List.append_assoc]
  congr 1
  rw [List.drop_eq_getElem_cons hj]
  rfl
theorem mixA_len {α : Type} {a b : List α} {j : Nat} (h : a.length = b.length) (hj : j ≤ b.length) : (a.take j ++ b.drop j).length = b.length := by
  rw [List.length_append, List.length_take, List.length_drop]; omega
end Go.Proofs.YtkekpolfdmmgeaaGreat

/- Rows of items that share their slices with a list that came in: parts, one deleted, one inserted. -/
namespace Go.Proofs.YtkekpolfdmmgeaaGreat
set_option linter.unusedVariables false
set_option linter.unusedSimpArgs false
open Go.RowKit

abbrev Pr := (Value × Value) × ItemD
def SrcP (w : World) (v : Value) (ps : List Pr) : Prop := Seq w v ps.length (ps.flatMap row3)
def RowP (w : World) (base : Nat) (v : Value) (ps : List Pr) : Prop := w.ownsRow base 30 3 v ps.length (ps.flatMap row3)
def GoodP (w : World) (ps : List Pr) : Prop := ∀ p ∈ ps, Strs w p.1.1 p.2.names ∧ Ints w p.1.2 p.2.marks
def itsP (ps : List Pr) : List ItemD := ps.map Prod.snd
theorem SrcP.kept {w w' : World} {v : Value} {ps : List Pr} (h : SrcP w v ps) (hk : Kept w w') : SrcP w' v ps := Seq.kept h hk
theorem RowP.kept {w w' : World} {base : Nat} {v : Value} {ps : List Pr} (h : RowP w base v ps) (hk : Kept w w') : RowP w' base v ps := own_kept h hk
theorem RowP.src {w : World} {base : Nat} {v : Value} {ps : List Pr} (h : RowP w base v ps) : SrcP w v ps := Seq.of_own h
theorem RowP.base {w : World} {base base' : Nat} {v : Value} {ps : List Pr} (h : RowP w base v ps) (hb : base' ≤ base) : RowP w base' v ps := own_base h hb
theorem GoodP.kept {w w' : World} {ps : List Pr} (h : GoodP w ps) (hk : Kept w w') : GoodP w' ps := fun p hp => ⟨(h p hp).1.kept hk, (h p hp).2.kept hk⟩
theorem GoodP.take {w : World} {ps : List Pr} (h : GoodP w ps) (k : Nat) : GoodP w (ps.take k) := fun p hp => h p (List.mem_of_mem_take hp)
theorem GoodP.drop {w : World} {ps : List Pr} (h : GoodP w ps) (k : Nat) : GoodP w (ps.drop k) := fun p hp => h p (List.mem_of_mem_drop hp)
theorem GoodP.append {w : World} {ps qs : List Pr} (h : GoodP w ps) (k : GoodP w qs) : GoodP w (ps ++ qs) := fun p hp => by
  rcases List.mem_append.1 hp with hp | hp
  · exact h p hp
  · exact k p hp
theorem pairs_of {w : World} {v : Value} {its : List ItemD} (h : ItemsAt w v its) : ∃ ps : List Pr, itsP ps = its ∧ SrcP w v ps ∧ GoodP w ps := by
  obtain ⟨cs, h1, h2, h3⟩ := h
  have hz : (cs.zip its).length = its.length := by rw [List.length_zip]; omega
  refine ⟨cs.zip its, ?_, by unfold SrcP; rw [hz]; exact h2, fun p hp => ?_⟩
  · unfold itsP
    exact List.map_snd_zip (by omega)
  · obtain ⟨k, hk⟩ := List.getElem?_of_mem hp
    rw [List.getElem?_zip_eq_some] at hk
    exact h3 k p.1.1 p.1.2 p.2 hk.1 hk.2
theorem items_of {w : World} {v : Value} {ps : List Pr} (h : SrcP w v ps) (g : GoodP w ps) : ItemsAt w v (itsP ps) := by
  refine ⟨ps.map Prod.fst, by simp [itsP], ?_, fun k nv mv it q1 q2 => ?_⟩
  · have e : (ps.map Prod.fst).zip (itsP ps) = ps := by
      unfold itsP
      rw [List.zip_map']
      simp
    rw [e]
    unfold itsP
    rw [List.length_map]
    exact h
  · unfold itsP at q2
    rw [List.getElem?_map] at q1 q2
    cases hp : ps[k]? with
    | none => rw [hp] at q1; simp at q1
    | some p =>
      rw [hp] at q1 q2
      simp only [Option.map_some, Option.some.injEq] at q1 q2
      have := g p (List.mem_of_getElem? hp)
      rw [q1, q2] at this
      exact this
theorem row3_len (p : Pr) : (row3 p).length = 3 := rfl
theorem slice_one {w : World} {v : Value} {n : Nat} {xs : List Value} (h : Seq w v n xs) : v.oneCell' = true := by
  obtain ⟨A, c, rfl, _⟩ := h
  rfl
theorem GoodP.one {w : World} {ps : List Pr} (h : GoodP w ps) : ∀ y ∈ ps.flatMap row3, y.oneCell' = true := by
  intro y hy
  obtain ⟨p, hp, hy⟩ := List.mem_flatMap.1 hy
  simp only [row3, List.mem_cons, List.not_mem_nil, or_false] at hy
  rcases hy with rfl | rfl | rfl
  · exact slice_one (h p hp).1.1
  · exact slice_one (h p hp).2
  · rfl
theorem flat_takeP (ps : List Pr) (k : Nat) : (ps.flatMap row3).take (k * 3) = (ps.take k).flatMap row3 := by
  induction ps generalizing k with
  | nil => simp
  | cons x l ih =>
    cases k with
    | zero => simp
    | succ k => rw [List.take_succ_cons, List.flatMap_cons, List.flatMap_cons, Nat.succ_mul, Nat.add_comm, List.take_append, row3_len, Nat.add_sub_cancel_left, ih k, List.take_of_length_le (by rw [row3_len]; omega)]
theorem flat_dropP (ps : List Pr) (k : Nat) : (ps.flatMap row3).drop (k * 3) = (ps.drop k).flatMap row3 := by
  induction ps generalizing k with
  | nil => simp
  | cons x l ih =>
    cases k with
    | zero => simp
    | succ k => rw [List.drop_succ_cons, List.flatMap_cons, Nat.succ_mul, Nat.add_comm, List.drop_append, row3_len, Nat.add_sub_cancel_left, ih k, List.drop_of_length_le (by rw [row3_len]; omega), List.nil_append]
/-- s[:i] -/
theorem srcP_to {w : World} {b o n c : Nat} {ps : List Pr} (h : SrcP w (.slice (some ⟨b, o, none⟩) n c) ps) (hn : ps.length = n) {i : Nat} (hi : i ≤ n) : SrcP w (.slice (some ⟨b, o, none⟩) i c) (ps.take i) := by
  obtain ⟨A, c', e, h1, h2, h3, h4⟩ := h
  injection e with e1 e2 e3
  subst e1 e3
  unfold SrcP
  rw [List.length_take, hn, Nat.min_eq_left hi]
  refine ⟨_, c, rfl, by omega, h2, (fun h => by cases h), fun hp => ?_⟩
  obtain ⟨b', o', e1, hb, hc⟩ := h4 (by omega)
  injection e1 with e1
  injection e1 with e1 e2
  subst e1 e2
  refine ⟨b, o, rfl, hb, fun j u hu => hc j u ?_⟩
  rw [← flat_takeP, List.getElem?_take] at hu
  split at hu
  · exact hu
  · cases hu
/-- s[k:], not at the end of the capacity -/
theorem srcP_from {w : World} {b o n c : Nat} {ps : List Pr} (h : SrcP w (.slice (some ⟨b, o, none⟩) n c) ps) (hn : ps.length = n) {k : Nat} (hk : k ≤ n) : SrcP w (.slice (some ⟨b, o + k * 3, none⟩) (n - k) (c - k)) (ps.drop k) := by
  obtain ⟨A, c', e, h1, h2, h3, h4⟩ := h
  injection e with e1 e2 e3
  subst e1 e3
  unfold SrcP
  rw [List.length_drop, hn]
  refine ⟨_, c - k, rfl, by omega, by unfold maxLen at *; omega, (fun h => by cases h), fun hp => ?_⟩
  obtain ⟨b', o', e1, hb, hc⟩ := h4 (by omega)
  injection e1 with e1
  injection e1 with e1 e2
  subst e1 e2
  refine ⟨b, o + k * 3, rfl, hb, fun j u hu => ?_⟩
  rw [← flat_dropP, List.getElem?_drop] at hu
  rw [Nat.add_assoc]
  exact hc _ u hu
/-- s[k:] at the end of the capacity -/
theorem srcP_none {w : World} {A : Option Addr} {ps : List Pr} {k : Nat} (hk : ps.length ≤ k) : SrcP w (.slice A 0 0) (ps.drop k) := by
  rw [List.drop_of_length_le hk]
  exact ⟨A, 0, rfl, Nat.le_refl _, Nat.zero_le _, fun _ => rfl, fun h => absurd h (by simp)⟩
theorem srcP_nil0 {w : World} {A : Option Addr} {c : Nat} {ps : List Pr} (h : SrcP w (.slice A 0 c) ps) : ps = [] := by
  obtain ⟨A', c', e, _⟩ := h
  injection e with e1 e2 e3
  exact List.eq_nil_of_length_eq_zero e2.symm
theorem delP_any (v : Value) (ps : List Pr) (i : Nat) (w : World) (base : Nat) (h : RowP w base v ps) (hg : GoodP w ps) (hi : i < ps.length) :
    Calls Tryz.prog 35 #[v, .int .i64 i, .int .i64 ((i : Int) + 1)] w fun e w' => ∃ v', e = .returned v' ∧ RowP w' base v' (ps.take i ++ ps.drop (i + 1)) ∧ Only (fp v) w w' := by
  obtain ⟨A, c, rfl, _, _, hA⟩ := own_form h
  obtain ⟨g, rfl⟩ := hA (by omega)
  refine (delRowT _ ps.length i c g w base h hi hg.one).mono ?_
  rintro e w' ⟨rfl, h2, h3⟩
  refine ⟨_, rfl, ?_, h3⟩
  rw [flat_takeP, flat_dropP, ← List.flatMap_append] at h2
  unfold RowP
  rw [show (ps.take i ++ ps.drop (i + 1)).length = ps.length - 1 from by rw [List.length_append, List.length_take, List.length_drop]; omega]
  exact h2
theorem insP_any (v : Value) (ps : List Pr) (y : Pr) (i vb : Nat) (w : World) (base : Nat) (h : RowP w base v ps) (hg : GoodP w ps) (hy : Strs w y.1.1 y.2.names ∧ Ints w y.1.2 y.2.marks) (h0 : 0 < ps.length) (hi : i ≤ ps.length) (hn : ps.length ≤ 1000000) (hbase : base ≤ w.heap.size)
    (hV : Box w vb 30 #[y.1.1, y.1.2, .bool y.2.late]) (hvb : ∀ b ∈ fp v, vb ≠ b) :
    Calls Tryz.prog 29 #[v, .int .i64 i, .slice (some ⟨vb, 0, none⟩) 1 1] w fun e w' => ∃ v', e = .returned v' ∧ RowP w' base v' (ps.take i ++ y :: ps.drop i) ∧ Only (fp v) w w' := by
  obtain ⟨A, c, rfl, _, _, hA⟩ := own_form h
  obtain ⟨g, rfl⟩ := hA (by omega)
  have hne : vb ≠ g := hvb g (by simp [fp_some])
  have hV' : Box w vb 30 (row3 y).toArray := hV
  have h1y : ∀ u ∈ row3 y, u.oneCell' = true := by
    have : GoodP w [y] := fun p hp => by rw [List.mem_singleton] at hp; subst hp; exact hy
    intro u hu
    exact this.one u (by simpa using hu)
  have fin : ∀ (v' : Value) (w' : World), w'.ownsRow base 30 3 v' (ps.length + 1) ((ps.flatMap row3).take (i * 3) ++ row3 y ++ (ps.flatMap row3).drop (i * 3)) → RowP w' base v' (ps.take i ++ y :: ps.drop i) := by
    intro v' w' h2
    rw [flat_takeP, flat_dropP, List.append_assoc, ← List.flatMap_cons, ← List.flatMap_append] at h2
    unfold RowP
    rw [show (ps.take i ++ y :: ps.drop i).length = ps.length + 1 from by rw [List.length_append, List.length_cons, List.length_take, List.length_drop]; omega]
    exact h2
  rcases Nat.lt_or_eq_of_le hi with hlt | rfl
  · rcases Nat.lt_or_ge c (ps.length + 1) with hc | hc
    · refine (insGrowT _ (row3 y) ps.length i c g vb w base h hlt hn hc hbase hg.one hV' rfl h1y).mono ?_
      rintro e w' ⟨v', rfl, h2, h3⟩
      exact ⟨v', rfl, fin v' w' h2, h3.mono (fun _ h => by cases h)⟩
    · refine (insRoomT _ (row3 y) ps.length i c g vb w base h hlt hn hc hg.one hV' rfl h1y hne).mono ?_
      rintro e w' ⟨v', rfl, h2, h3⟩
      exact ⟨v', rfl, fin v' w' h2, h3⟩
  · refine (insEndT _ (row3 y) ps.length c g vb w base h hbase hn hV' rfl h1y).mono ?_
    rintro e w' ⟨v', rfl, h2, h3⟩
    refine ⟨v', rfl, fin v' w' ?_, only_of_grown (v := .slice (some ⟨g, 0, none⟩) ps.length c) h3⟩
    rw [flat_takeP, flat_dropP, List.take_length, List.drop_length]
    simpa using h2
end Go.Proofs.YtkekpolfdmmgeaaGreat
