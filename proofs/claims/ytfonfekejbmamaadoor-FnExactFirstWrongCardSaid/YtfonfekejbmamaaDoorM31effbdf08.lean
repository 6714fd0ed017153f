/- Contracts of functions that the proof leans on. No condition. -/
import Derived.Test.YtfonfekejbmamaaDoorMc2511729a9
import Derived.Laws.IdiomCopy
import Derived.Laws.Externs
import Derived.Lib.Overlaps
import Derived.Lib.AppendZerosOnto
import Derived.Lib.SliceRun
import Derived.Deep.RegionLaw
import Derived.Sort.Grow
import Derived.Deep.AppendLies
import Derived.StillTailTactics
import Derived.Deep.RegionHeld3
import Derived.Deep.DeepCutAuto
import Derived.Shelf.Sort.Plain
import Derived.Shelf.Slices.CompactS
import Derived.Test.YtfonfekejbmamaaDoorShelf
/- Strings in slices; items and lists of items in memory. -/
namespace Go.Proofs.YtfonfekejbmamaaDoor
set_option linter.unusedVariables false
set_option linter.unusedSimpArgs false
open Go.RowKit

def Strs (w : World) (v : Value) (zs : List ByteArray) : Prop := Seq w v zs.length (zs.map Value.string) ∧ ∀ z ∈ zs, z.size ≤ maxLen
def OwnS (w : World) (base : Nat) (v : Value) (zs : List ByteArray) : Prop := w.ownsRow base 9 1 v zs.length (zs.map Value.string) ∧ ∀ z ∈ zs, z.size ≤ maxLen
theorem Strs.kept {w w' : World} {v : Value} {zs : List ByteArray} (h : Strs w v zs) (hk : Kept w w') : Strs w' v zs := ⟨Seq.kept h.1 hk, h.2⟩
theorem OwnS.strs {w : World} {base : Nat} {v : Value} {zs : List ByteArray} (h : OwnS w base v zs) : Strs w v zs := ⟨Seq.of_own h.1, h.2⟩
theorem OwnS.kept {w w' : World} {base : Nat} {v : Value} {zs : List ByteArray} (h : OwnS w base v zs) (hk : Kept w w') : OwnS w' base v zs := ⟨own_kept h.1 hk, h.2⟩
theorem OwnS.only {w w' : World} {base : Nat} {v : Value} {zs : List ByteArray} {S : List Nat} (h : OwnS w base v zs) (ho : Only S w w') (hd : ∀ b ∈ fp v, b ∉ S) : OwnS w' base v zs := ⟨own_only h.1 ho hd, h.2⟩
theorem strs_at {w : World} {A : Option Addr} {zs : List ByteArray} (h : SeqA w A zs.length (zs.map Value.string)) {k : Nat} (hk : k < zs.length) :
    ∃ b o z, A = some ⟨b, o, none⟩ ∧ b < w.heap.size ∧ zs[k]? = some z ∧ w.cell? ⟨b, o + k, none⟩ = some (.string z) := by
  have hz : zs[k]? = some zs[k] := List.getElem?_eq_getElem hk
  obtain ⟨b, o, e, hb, hc⟩ := h.at_ (j := k) (u := .string zs[k]) (by omega) (by rw [List.getElem?_map, hz]; rfl)
  exact ⟨b, o, _, e, hb, hz, hc⟩
theorem info_str : (Tryd.prog.info? 9).map (fun i => (i.zero, i.size, i.bytes)) = some (some (.string ByteArray.empty), 1, 16) := by kernel_rfl
theorem eqStringS_any (v1 v2 : Value) (zs ys : List ByteArray) (w : World) (h1 : Strs w v1 zs) (h2 : Strs w v2 ys) :
    Calls Tryd.prog 33 #[v1, v2] w fun e w' => e = .returned (.bool (decide (zs = ys))) ∧ Kept w w' := by
  obtain ⟨A, c, rfl, hnc, hcm, hl⟩ := h1.1.out
  obtain ⟨A2, c2, rfl, hnc2, hcm2, hl2⟩ := h2.1.out
  unfold maxLen at hcm hcm2
  have HL := Lib.hid hl
  have HL2 := Lib.hid hl2
  clear hl h1 hl2 h2
  by_cases hlen : zs.length = ys.length
  · have hne : ((zs.length : Int) != (ys.length : Int)) = false := by simp [hlen]
    have HN := Lib.hid hlen
    clear hlen
    go_enter Tryd.func33, Tryd.ntmps33
    go_wp2
    go_loopw [5] (fun i wr => ∃ k : Nat, k ≤ zs.length ∧ i = .int .i64 k ∧ zs.take k = ys.take k ∧ Kept w wr) (fun i _ => zs.length - (intOf i).toNat)
    case atStart => exact ⟨0, Nat.zero_le _, rfl, rfl, Kept.refl _⟩
    case round =>
      obtain ⟨k, hk, rfl, ht, hkept⟩ := hrel
      have HT := Lib.hid ht
      clear ht
      by_cases hlt : k < zs.length
      · have hlt2 : k < ys.length := by rw [← HN.out]; exact hlt
        obtain ⟨b, o, z, rfl, hb, hz, hc⟩ := strs_at (HL.out.kept hkept) hlt
        obtain ⟨b2, o2, z2, rfl, hb2, hz2, hc2⟩ := strs_at (HL2.out.kept hkept) hlt2
        have HZ := Lib.hid hz
        have HZ2 := Lib.hid hz2
        clear hz hz2
        go_wp2
        go_quiet (fail)
        go_wp2
        · have hzz : (!z.toList == z2.toList) = true := by assumption
          go_ret
          refine ⟨?_, hkept.drewN _⟩
          have : ¬ zs = ys := fun e => by
            have e1 := HZ.out
            rw [e, HZ2.out] at e1
            simp at e1
            simp [e1] at hzz
          simp [this]
        · have hzz : (!z.toList == z2.toList) = false := by assumption
          go_roundw
          case rel =>
            refine ⟨k + 1, by omega, by go_num, ?_, hkept.drewN _⟩
            have : z = z2 := str_ext (by simpa using hzz)
            subst this
            rw [take_snoc HZ.out, take_snoc HZ2.out, HT.out]
          case measure => simp [intOf]; omega
      · obtain rfl : k = zs.length := by omega
        go_wp2
        go_ret
        have e := take_full rfl HN.out.symm HT.out
        exact ⟨by simp [e], hkept⟩
  · have hne : ((zs.length : Int) != (ys.length : Int)) = true := by simp; omega
    have hz : ¬ zs = ys := fun e => hlen (by rw [e])
    have HZ := Lib.hid hz
    clear hz
    go_enter Tryd.func33, Tryd.ntmps33
    go_wp2
    go_ret
    exact ⟨by simp [HZ.out], Kept.refl _⟩
end Go.Proofs.YtfonfekejbmamaaDoor

/- append(out, xs...) to rows of the call's own, in the words of the readings. -/
namespace Go.Proofs.YtfonfekejbmamaaDoor
set_option linter.unusedVariables false
set_option linter.unusedSimpArgs false
open Go.RowKit

theorem wp_append_S (w : World) {o : Oper} {a : Act} {K : Act → World → Prop} {Q : Exit → Act → World → Prop} (s x : Operand)
    (ho : o.op = .call { callee := .builtin .append, args := #[s, x], argTypes := #[22, 22] })
    (base : Nat) (v : Value) (zs : List ByteArray) (hs : a.eval s = v) (hown : OwnS w base v zs) (u : Value) (ys : List ByteArray) (hx : a.eval x = u) (hr : Strs w u ys)
    (hl : zs.length + ys.length ≤ 16777216) (hbase : base ≤ w.heap.size)
    (h : ∀ v' w', OwnS w' base v' (zs ++ ys) → w.grownBy w' v.ownBlock → K (a.put o.dst v') w') : o.wp Tryd.prog a w K Q := by
  obtain ⟨i0, hi, hz0, hz1, hz2⟩ := info_parts info_str
  refine wp_append_seq w s x 22 ho base 9 i0 _ 1 16 Tryd.underlying22 hi hz0 hz1 hz2 rfl (by omega) v zs.length _ hs hown.1 u ys.length _ hx hr.1 (by simp) ?_ (by unfold maxLen; omega) (by omega) hbase (fun v' w' q1 q2 => h v' w' ?_ q2)
  · intro y hy
    obtain ⟨_, _, rfl⟩ := List.mem_map.1 hy; rfl
  · refine ⟨?_, ?_⟩
    · rw [List.length_append, List.map_append]
      exact q1
    · intro e he
      rcases List.mem_append.1 he with he | he
      · exact hown.2 e he
      · exact hr.2 e he
theorem wpList_append_S (w : World) {ops : Array Oper} {rest : List Oper} {o : Oper} {a : Act} {Q : Exit → Act → World → Prop} (hgd : o.guard = none) (s x : Operand)
    (ho : o.op = .call { callee := .builtin .append, args := #[s, x], argTypes := #[22, 22] })
    (base : Nat) (v : Value) (zs : List ByteArray) (hs : a.eval s = v) (hown : OwnS w base v zs) (u : Value) (ys : List ByteArray) (hx : a.eval x = u) (hr : Strs w u ys)
    (hl : zs.length + ys.length ≤ 16777216) (hbase : base ≤ w.heap.size)
    (h : ∀ v' w', OwnS w' base v' (zs ++ ys) → w.grownBy w' v.ownBlock → wpList Tryd.prog ops Q rest (a.put o.dst v') w') : wpList Tryd.prog ops Q (o :: rest) a w :=
  wpList_plain hgd fun _ hK => wp_append_S w s x ho base v zs hs hown u ys hx hr hl hbase fun v' w' h2 h3 => hK _ _ (h v' w' h2 h3)
theorem step_append_S (w : World) {ops : Array Oper} {o : Oper} {a : Act} {K : Act → World → Prop} {Q : Exit → Act → World → Prop} {E : Prop} (hgd : o.guard = none) (s x : Operand)
    (ho : o.op = .call { callee := .builtin .append, args := #[s, x], argTypes := #[22, 22] })
    (base : Nat) (v : Value) (zs : List ByteArray) (hs : a.eval s = v) (hown : OwnS w base v zs) (u : Value) (ys : List ByteArray) (hx : a.eval x = u) (hr : Strs w u ys)
    (hl : zs.length + ys.length ≤ 16777216) (hbase : base ≤ w.heap.size)
    (h : ∀ v' w', OwnS w' base v' (zs ++ ys) → w.grownBy w' v.ownBlock → K (a.put o.dst v') w') :
    if Region.wanted o (yielded ops a.tmps) = true then Oper.wp Tryd.prog o a w K Q else E := by
  have hw : Region.wanted o (yielded ops a.tmps) = true := by simp [Region.wanted, hgd]
  rw [if_pos hw]
  exact wp_append_S w s x ho base v zs hs hown u ys hx hr hl hbase h
end Go.Proofs.YtfonfekejbmamaaDoor

/- Rows of elements of several cells: what copy, clear and the library's Delete and Insert do to a block that is known whole. -/
namespace Go.Proofs.YtfonfekejbmamaaDoor
set_option linter.unusedVariables false
set_option linter.unusedSimpArgs false
open Go.RowKit

/-- cells written one after the other -/
def sets : Array Value → Nat → List Value → Array Value
  | cs, _, [] => cs
  | cs, o, v :: r => sets (cs.setIfInBounds o v) (o + 1) r
theorem Box.sets {b : Nat} {t : TypeId} : ∀ (vs : List Value) (o : Nat) (w : World) (cs : Array Value), Box w b t cs → Box (w.setCells b o vs) b t (sets cs o vs)
  | [], _, _, _, h => h
  | v :: r, o, w, cs, h => Box.sets r (o + 1) _ _ (h.set o v)
theorem only_sets (b : Nat) : ∀ (vs : List Value) (o : Nat) (w : World), Only [b] w (w.setCells b o vs)
  | [], _, w => Only.refl _ w
  | v :: r, o, w => (Only.setCell (Only.refl [b] w) (p := ⟨b, o, none⟩) (by simp) v).trans (only_sets b r (o + 1) _)
theorem sets_size : ∀ (vs : List Value) (o : Nat) (cs : Array Value), (sets cs o vs).size = cs.size
  | [], _, _ => rfl
  | v :: r, o, cs => by rw [sets, sets_size r]; simp
theorem sets_toList : ∀ (vs : List Value) (o : Nat) (cs : Array Value), o + vs.length ≤ cs.size → (sets cs o vs).toList = cs.toList.take o ++ vs ++ cs.toList.drop (o + vs.length)
  | [], o, cs, h => by simp [sets]
  | v :: r, o, cs, h => by
    have hlt : o < cs.toList.length := by simp at h ⊢; omega
    rw [sets, sets_toList r (o + 1) _ (by simp at h ⊢; omega)]
    simp only [Array.toList_setIfInBounds]
    rw [List.take_set, List.take_succ_eq_append_getElem hlt, List.set_append_right _ _ (by rw [List.length_take]; omega), List.length_take_of_le (by omega), Nat.sub_self]
    rw [List.drop_set_of_lt (by omega)]
    simp only [List.set_cons_zero, List.append_assoc, List.cons_append, List.nil_append, List.length_cons]
    rw [show o + 1 + r.length = o + (r.length + 1) from by omega]
theorem sets_take {cs : Array Value} {o m : Nat} {vs : List Value} (h : o + vs.length ≤ cs.size) (hm : m ≤ o) : (sets cs o vs).toList.take m = cs.toList.take m := by
  have hl : cs.toList.length = cs.size := by simp
  rw [sets_toList _ _ _ h, List.append_assoc, List.take_append_of_le_length (by rw [List.length_take]; omega), List.take_take, Nat.min_eq_left hm]
theorem sets_full {cs : Array Value} {o m : Nat} {vs : List Value} (h : o + vs.length ≤ cs.size) (hm : m = o + vs.length) : (sets cs o vs).toList.take m = cs.toList.take o ++ vs := by
  have hl : cs.toList.length = cs.size := by simp
  rw [sets_toList _ _ _ h, List.take_left' (by rw [List.length_append, List.length_take]; omega)]
theorem sets_drop {cs : Array Value} {o : Nat} {vs : List Value} (h : o + vs.length ≤ cs.size) : (sets cs o vs).toList.drop o = vs ++ cs.toList.drop (o + vs.length) := by
  have hl : cs.toList.length = cs.size := by simp
  rw [sets_toList _ _ _ h, List.append_assoc, List.drop_left' (by rw [List.length_take]; omega)]
theorem only_drew_sets (b : Nat) (vs : List Value) (o : Nat) (w : World) : Only [b] w (w.drew.setCells b o vs) := (Only.drewN (Only.refl [b] w) 1).trans (only_sets b vs o w.drew)
theorem own_box {w : World} {base : Nat} {e : TypeId} {size n cap g : Nat} {xs : List Value} (h : w.ownsRow base e size (.slice (some ⟨g, 0, none⟩) n cap) n xs) :
    ∃ cur, Box w g e cur ∧ n ≤ cap ∧ cap ≤ maxLen ∧ cur.size = cap * size ∧ cur.toList.take (n * size) = xs := by
  rcases h.2 with ⟨h, _⟩ | ⟨g', cap', cur, e1, _, hb, h1, h2, h3, h4⟩
  · cases h
  · injection e1 with e1 e2 e3
    injection e1 with e1
    injection e1 with e1
    subst e1 e3
    exact ⟨cur, hb, h1, h2, h3, h4⟩
theorem own_of_box {w : World} {base : Nat} {e : TypeId} {size n cap g : Nat} {xs : List Value} {cur : Array Value} (hb : Box w g e cur) (hg : base ≤ g) (h1 : n ≤ cap) (h2 : cap ≤ maxLen) (h3 : cur.size = cap * size) (h4 : cur.toList.take (n * size) = xs) :
    w.ownsRow base e size (.slice (some ⟨g, 0, none⟩) n cap) n xs := by
  refine ⟨?_, .inr ⟨g, cap, cur, rfl, hg, hb, h1, h2, h3, h4⟩⟩
  rw [← h4, List.length_take]
  have : cur.toList.length = cap * size := by simpa using h3
  rw [this, Nat.min_eq_left (Nat.mul_le_mul_right _ h1)]
theorem Box.some {w : World} {b : Nat} {t : TypeId} {cs : Array Value} (h : Box w b t cs) {j : Nat} (hj : j < cs.size) : (w.cell? ⟨b, j, none⟩).isSome = true := by
  rw [h.cell j, Array.getElem?_eq_getElem hj]
  rfl
theorem Box.at_ {w : World} {b : Nat} {t : TypeId} {cs : Array Value} (h : Box w b t cs) {j : Nat} {v : Value} (hj : cs.toList[j]? = Option.some v) : w.cell? ⟨b, j, none⟩ = Option.some v := by
  rw [h.cell j, ← Array.getElem?_toList]
  exact hj
theorem add_lit (b o j : Nat) : (⟨b, o, none⟩ : Addr).add j = ⟨b, o + j, none⟩ := by unfold Addr.add; split <;> simp_all

/-- copy(d, s), elements of several cells -/
theorem run_copyN {P : Program} (w : World) (dT sT ty elem : TypeId) (size : Nat) (b o dLen dCap : Nat) (a : Addr) (sLen sCap m : Nat) (cs : List Value)
    (hu : P.underlying dT = some (.slice elem)) (hs : (P.info? elem).map (·.size) = some size) (hm : Nat.min sLen dLen = m) (hn : cs.length = m * size)
    (hsrc : ∀ j v, cs[j]? = some v → w.cell? (a.add j) = some v) (hc : ∀ j, j < cs.length → (w.cell? ⟨b, o + j, none⟩).isSome = true) (hf : ∀ j, j < cs.length → w.frozen? ⟨b, o + j, none⟩ = false) (h1 : ∀ v ∈ cs, v.oneCell' = true) :
    (Builtin.copy_ #[dT, sT] ty #[.slice (some ⟨b, o, none⟩) dLen dCap, .slice (some a) sLen sCap]).run P w = .ok (goInt m) (w.setCells b o cs) := by
  have hl := run_loadCells_list (P := P) w a cs hsrc
  have hst := run_storeCells_cells (P := P) b o cs 0 w (by simpa using hc) (by simpa using hf) h1
  cases hq : P.info? elem with
  | none => simp [hq] at hs
  | some i =>
    have hi : i.size = size := by simpa [hq] using hs
    simp [Builtin.copy_, run_underlying hu, Builtin.lenOf, Builtin.firstCells, sizeOf, typeInfo, hq, hi, hm, ← hn, hl, hst]
theorem wp_copy_run {P : Program} (w : World) {o : Oper} {a : Act} {K : Act → World → Prop} {Q : Exit → Act → World → Prop} (d s : Operand) (t t' : TypeId)
    (ho : o.op = .call { callee := .builtin .copy, args := #[d, s], argTypes := #[t, t'] }) (v u : Value) (hd : a.eval d = v) (hs : a.eval s = u) {v' : Value} {w' : World}
    (hr : (Builtin.copy_ #[t, t'] o.type #[v, u]).run P w = .ok v' w') (h : K (a.put o.dst v') w') : o.wp P a w K Q := by
  unfold Oper.wp execOp
  simp only [ho, resolve, invoke, builtin, Sem.run_bind, Sem.run_pure, Result.andThen_ok, List.map_toArray, List.map_cons, List.map_nil, hd, hs, hr]
  exact h
theorem wpList_copy_run {P : Program} (w : World) {ops : Array Oper} {rest : List Oper} {o : Oper} {a : Act} {Q : Exit → Act → World → Prop} (hgd : o.guard = none) (d s : Operand) (t t' : TypeId)
    (ho : o.op = .call { callee := .builtin .copy, args := #[d, s], argTypes := #[t, t'] }) (v u : Value) (hd : a.eval d = v) (hs : a.eval s = u) {v' : Value} {w' : World}
    (hr : (Builtin.copy_ #[t, t'] o.type #[v, u]).run P w = .ok v' w') (h : wpList P ops Q rest (a.put o.dst v') w') : wpList P ops Q (o :: rest) a w :=
  wpList_plain hgd fun _ hK => wp_copy_run w d s t t' ho v u hd hs hr (hK _ _ h)
theorem step_copy_run {P : Program} {ops : Array Oper} {o : Oper} {a : Act} {w : World} {K : Act → World → Prop} {Q : Exit → Act → World → Prop} {E : Prop}
    (hg : o.guard = none) (d x : Operand) (dT sT : TypeId) (hop : o.op = Op.call { callee := Callee.builtin Builtin.copy, args := #[d, x], argTypes := #[dT, sT] })
    (v u : Value) (hd : a.eval d = v) (hx : a.eval x = u) {v' : Value} {w' : World} (hr : (Builtin.copy_ #[dT, sT] o.type #[v, u]).run P w = .ok v' w') (hK : K (a.put o.dst v') w') :
    if Region.wanted o (yielded ops a.tmps) = true then Oper.wp P o a w K Q else E := by
  have hw : Region.wanted o (yielded ops a.tmps) = true := by simp [Region.wanted, hg]
  rw [if_pos hw]
  exact wp_copy_run w d x dT sT hop v u hd hx hr hK
/-- clear(s), one element of several cells -/
theorem run_clear1 {P : Program} (w : World) (t e ty : TypeId) (z : Value) (ht : P.underlying t = some (.slice e)) (hv : ∀ w, (zeroValue e).run P w = .ok z w) (b o c : Nat) (hz : (Builtin.zeroCells z.cells 1).toList = z.cells.toList) (h1 : ∀ v ∈ z.cells.toList, v.oneCell' = true)
    (hc : ∀ j, j < z.cells.toList.length → (w.cell? ⟨b, o + j, none⟩).isSome = true) (hf : ∀ j, j < z.cells.toList.length → w.frozen? ⟨b, o + j, none⟩ = false) :
    (Builtin.clear_ #[t] ty #[.slice (some ⟨b, o, none⟩) 1 c]).run P w = .ok (.tuple #[]) (w.setCells b o z.cells.toList) := by
  have hst := run_storeCells_cells (P := P) b o z.cells.toList 0 w (by simpa using hc) (by simpa using hf) h1
  simp only [Nat.add_zero] at hst
  simp [Builtin.clear_, run_underlying ht, hv, hz, hst]
end Go.Proofs.YtfonfekejbmamaaDoor

/- Rows of numbers and of strings: the words for 'append(append(append([]T{}, l[:k]...), x), l[k:]...)'. -/
namespace Go.Proofs.YtfonfekejbmamaaDoor
set_option linter.unusedVariables false
set_option linter.unusedSimpArgs false
open Go.RowKit

theorem seq_to {w : World} {A : Option Addr} {n c : Nat} {xs : List Value} (h : Seq w (.slice A n c) n xs) {i : Nat} (hi : i ≤ n) : Seq w (.slice A i c) i (xs.take i) := by
  obtain ⟨A', c', e, h1, h2, h3, h4⟩ := h
  injection e with e1 e2 e3
  subst e1 e3
  refine ⟨A, c, rfl, by omega, h2, h3, fun hp => ?_⟩
  obtain ⟨b, o, e1, hb, hc⟩ := h4 (by omega)
  refine ⟨b, o, e1, hb, fun j u hu => hc j u ?_⟩
  rw [List.getElem?_take] at hu
  split at hu
  · exact hu
  · cases hu
theorem seq_from {w : World} {b o n c : Nat} {xs : List Value} (h : Seq w (.slice (some ⟨b, o, none⟩) n c) n xs) {k : Nat} (hk : k ≤ n) : Seq w (.slice (some ⟨b, o + k, none⟩) (n - k) (c - k)) (n - k) (xs.drop k) := by
  obtain ⟨A', c', e, h1, h2, h3, h4⟩ := h
  injection e with e1 e2 e3
  subst e1 e3
  refine ⟨_, c - k, rfl, by omega, by unfold maxLen at *; omega, (fun h => by cases h), fun hp => ?_⟩
  obtain ⟨b', o', e1, hb, hc⟩ := h4 (by omega)
  injection e1 with e1
  injection e1 with e1 e2
  subst e1 e2
  refine ⟨b, o + k, rfl, hb, fun j u hu => ?_⟩
  rw [List.getElem?_drop] at hu
  rw [Nat.add_assoc]
  exact hc _ u hu
theorem seq_none {w : World} {A : Option Addr} {xs : List Value} {k : Nat} (hk : xs.length ≤ k) : Seq w (.slice A 0 0) 0 (xs.drop k) := by
  rw [List.drop_of_length_le hk]
  exact ⟨A, 0, rfl, Nat.le_refl _, Nat.zero_le _, fun _ => rfl, fun h => absurd h (by simp)⟩
theorem seq_one {w : World} {g : Nat} {t : TypeId} {u : Value} (h : Box w g t #[u]) : Seq w (.slice (some ⟨g, 0, none⟩) 1 1) 1 [u] := by
  refine ⟨_, 1, rfl, Nat.le_refl _, by unfold maxLen; omega, (fun h => by cases h), fun _ => ⟨g, 0, rfl, h.lt, fun j v hv => ?_⟩⟩
  cases j with
  | zero =>
    have e : v = u := by simpa using hv.symm
    subst e
    exact h.cell 0
  | succ j => simp at hv
theorem ints_to {w : World} {A : Option Addr} {n c : Nat} {zs : List Int} (h : Ints w (.slice A n c) zs) (hn : zs.length = n) {i : Nat} (hi : i ≤ n) : Ints w (.slice A i c) (zs.take i) := by
  unfold Ints
  rw [List.length_take, hn, Nat.min_eq_left hi, List.map_take]
  unfold Ints at h
  rw [hn] at h
  exact seq_to h hi
theorem ints_from {w : World} {b o n c : Nat} {zs : List Int} (h : Ints w (.slice (some ⟨b, o, none⟩) n c) zs) (hn : zs.length = n) {k : Nat} (hk : k ≤ n) : Ints w (.slice (some ⟨b, o + k, none⟩) (n - k) (c - k)) (zs.drop k) := by
  unfold Ints
  rw [List.length_drop, hn, List.map_drop]
  unfold Ints at h
  rw [hn] at h
  exact seq_from h hk
theorem ints_none {w : World} {A : Option Addr} {zs : List Int} {k : Nat} (hk : zs.length ≤ k) : Ints w (.slice A 0 0) (zs.drop k) := by
  unfold Ints
  rw [List.length_drop, Nat.sub_eq_zero_of_le hk, List.map_drop]
  exact seq_none (by simpa using hk)
theorem ints_box1 {w : World} {g : Nat} {z : Int} (h : Box w g 3 #[.int .i64 z]) : Ints w (.slice (some ⟨g, 0, none⟩) 1 1) [z] := seq_one h
theorem step_put_I (a0 w : World) {ops : Array Oper} {o : Oper} {a : Act} {K : Act → World → Prop} {Q : Exit → Act → World → Prop} {E : Prop} (hgd : o.guard = none) (s x : Operand)
    (ho : o.op = .call { callee := .builtin .append, args := #[s, x], argTypes := #[23, 23] })
    (v : Value) (zs : List Int) (hs : a.eval s = v) (hown : OwnI w a0.heap.size v zs) (hk : Kept a0 w) (u : Value) (ys : List Int) (hx : a.eval x = u) (hr : Ints w u ys)
    (hl : zs.length + ys.length ≤ 16777216)
    (h : ∀ v' w', OwnI w' a0.heap.size v' (zs ++ ys) → Kept a0 w' → Only (fp v) w w' → K (a.put o.dst v') w') :
    if Region.wanted o (yielded ops a.tmps) = true then Oper.wp Tryd.prog o a w K Q else E :=
  step_append_I w hgd s x ho a0.heap.size v zs hs hown u ys hx hr hl hk.size fun v' w' h2 h3 =>
    h v' w' h2 ((only_of_grown h3).above hk (fun b hb => (own_fp hown b hb).1)) (only_of_grown h3)
theorem own0_I {w : World} {base g : Nat} (hg : base ≤ g) (h : Box w g 3 #[]) : OwnI w base (.slice (some ⟨g, 0, none⟩) 0 0) [] := own_made _ _ _ hg h
theorem strs_to {w : World} {A : Option Addr} {n c : Nat} {zs : List ByteArray} (h : Strs w (.slice A n c) zs) (hn : zs.length = n) {i : Nat} (hi : i ≤ n) : Strs w (.slice A i c) (zs.take i) := by
  refine ⟨?_, fun z hz => h.2 z (List.mem_of_mem_take hz)⟩
  rw [List.length_take, hn, Nat.min_eq_left hi, List.map_take]
  have h1 := h.1
  rw [hn] at h1
  exact seq_to h1 hi
theorem strs_from {w : World} {b o n c : Nat} {zs : List ByteArray} (h : Strs w (.slice (some ⟨b, o, none⟩) n c) zs) (hn : zs.length = n) {k : Nat} (hk : k ≤ n) : Strs w (.slice (some ⟨b, o + k, none⟩) (n - k) (c - k)) (zs.drop k) := by
  refine ⟨?_, fun z hz => h.2 z (List.mem_of_mem_drop hz)⟩
  rw [List.length_drop, hn, List.map_drop]
  have h1 := h.1
  rw [hn] at h1
  exact seq_from h1 hk
theorem strs_none {w : World} {A : Option Addr} {zs : List ByteArray} {k : Nat} (hk : zs.length ≤ k) : Strs w (.slice A 0 0) (zs.drop k) := by
  refine ⟨?_, fun z hz => by rw [List.drop_of_length_le hk] at hz; cases hz⟩
  rw [List.length_drop, Nat.sub_eq_zero_of_le hk, List.map_drop]
  exact seq_none (by simpa using hk)
theorem strs_box1 {w : World} {g : Nat} {z : ByteArray} (h : Box w g 9 #[.string z]) (hz : z.size ≤ maxLen) : Strs w (.slice (some ⟨g, 0, none⟩) 1 1) [z] := ⟨seq_one h, fun y hy => by rw [List.mem_singleton] at hy; subst hy; exact hz⟩
theorem step_put_S (a0 w : World) {ops : Array Oper} {o : Oper} {a : Act} {K : Act → World → Prop} {Q : Exit → Act → World → Prop} {E : Prop} (hgd : o.guard = none) (s x : Operand)
    (ho : o.op = .call { callee := .builtin .append, args := #[s, x], argTypes := #[22, 22] })
    (v : Value) (zs : List ByteArray) (hs : a.eval s = v) (hown : OwnS w a0.heap.size v zs) (hk : Kept a0 w) (u : Value) (ys : List ByteArray) (hx : a.eval x = u) (hr : Strs w u ys)
    (hl : zs.length + ys.length ≤ 16777216)
    (h : ∀ v' w', OwnS w' a0.heap.size v' (zs ++ ys) → Kept a0 w' → Only (fp v) w w' → K (a.put o.dst v') w') :
    if Region.wanted o (yielded ops a.tmps) = true then Oper.wp Tryd.prog o a w K Q else E :=
  step_append_S w hgd s x ho a0.heap.size v zs hs hown u ys hx hr hl hk.size fun v' w' h2 h3 =>
    h v' w' h2 ((only_of_grown h3).above hk (fun b hb => (own_fp hown.1 b hb).1)) (only_of_grown h3)
theorem own0_S {w : World} {base g : Nat} (hg : base ≤ g) (h : Box w g 9 #[]) : OwnS w base (.slice (some ⟨g, 0, none⟩) 0 0) [] := ⟨own_made _ _ _ hg h, fun _ h => by cases h⟩
end Go.Proofs.YtfonfekejbmamaaDoor

/- Rows that the library sorts in place; copies with where they lie. -/
namespace Go.Proofs.YtfonfekejbmamaaDoor
set_option linter.unusedVariables false
set_option linter.unusedSimpArgs false
open Go.RowKit

theorem own_lt {w : World} {base g cap n : Nat} {e : TypeId} {xs : List Value} (h : w.ownsRow base e 1 (.slice (some ⟨g, 0, none⟩) n cap) n xs) : g < w.heap.size := by
  rcases h.2 with ⟨e1, _⟩ | ⟨g', cap', cur, e1, hb, hg, _⟩
  · cases e1
  · injection e1 with e1
    injection e1 with e1
    injection e1 with e1
    subst e1
    exact (Array.getElem?_eq_some_iff.1 hg).1
theorem holds_own {α : Type} [Inhabited α] {enc : α → Value} {w : World} {base g cap : Nat} {e : TypeId} {zs : List α} (h : w.ownsRow base e 1 (.slice (some ⟨g, 0, none⟩) zs.length cap) zs.length (zs.map enc)) : Go.Sort.Holds enc w g 0 zs.toArray := by
  intro j hj
  have hj' : j < zs.length := by simpa using hj
  rcases h.2 with ⟨e1, _⟩ | ⟨g', cap', cur, e1, hb, hg, _⟩
  · cases e1
  · injection e1 with e1
    injection e1 with e1
    injection e1 with e1
    subst e1
    refine ⟨?_, ?_⟩
    · rw [Nat.zero_add, h.cellAt j (by omega), List.getElem?_map, List.getElem?_eq_getElem hj']
      simp [hj']
    · simp [World.frozen?, hg]
theorem putRow_own {α : Type} [Inhabited α] (enc : α → Value) {w : World} {base g cap n : Nat} {e : TypeId} {xs : List Value} (h : w.ownsRow base e 1 (.slice (some ⟨g, 0, none⟩) n cap) n xs) {ys : List α} (hl : ys.length = n) (m : Nat) (os : Array Obj) :
    (Go.Sort.grow (Go.Sort.putRow enc (Go.Sort.ahead w m) g 0 ys.toArray) os).ownsRow base e 1 (.slice (some ⟨g, 0, none⟩) n cap) n (ys.map enc) ∧ Only [g] w (Go.Sort.grow (Go.Sort.putRow enc (Go.Sort.ahead w m) g 0 ys.toArray) os) := by
  rcases h.2 with ⟨e1, _⟩ | ⟨g', cap', cur, e1, hb, hg, hnc, hcm, hcs, ht⟩
  · cases e1
  · injection e1 with e1 e2 e3
    injection e1 with e1
    injection e1 with e1
    subst e1 e3
    have hlt : g < w.heap.size := (Array.getElem?_eq_some_iff.1 hg).1
    have hnew : (Go.Sort.grow (Go.Sort.putRow enc (Go.Sort.ahead w m) g 0 ys.toArray) os).heap[g]? = some (.cells (Go.Sort.putCells enc 0 ys.toArray cur) e (0, 0)) := by
      rw [Go.Sort.heap_grow_old _ _ (by simpa using hlt)]
      simp [Go.Sort.putRow, Go.Sort.mapBlock, Array.getElem?_modify, hg, Go.Sort.onCells]
    refine ⟨⟨by simp [hl], .inr ⟨g, cap, _, rfl, hb, hnew, hnc, hcm, by simp [Go.Sort.putCells]; simpa using hcs, ?_⟩⟩, ?_⟩
    · apply List.ext_getElem?
      intro j
      rw [List.getElem?_take]
      by_cases hj : j < n
      · rw [if_pos (by omega), Array.getElem?_toList]
        have hjc : j < cur.size := by omega
        simp [Go.Sort.putCells, Array.getElem?_mapIdx, hjc, hl, hj]
      · rw [if_neg (by omega), List.getElem?_eq_none (by simp [hl]; omega)]
    · refine ⟨rfl, rfl, rfl, by simp [Go.Sort.grow, Go.Sort.putRow, Go.Sort.mapBlock], fun i hi hn => ?_⟩
      rw [Go.Sort.heap_grow_old _ _ (by simpa using hi)]
      have hne : g ≠ i := fun e => hn (by simp [e])
      simp [Go.Sort.putRow, Go.Sort.mapBlock, Array.getElem?_modify, hne]
theorem run_append_locG {P : Program} (w : World) (base : Nat) (t ty e : TypeId) (i : TypeInfo) (z : Value) (size bytes : Nat) (ht : P.underlying t = some (.slice e)) (hi : P.info? e = some i) (hz : i.zero = some z)
    (hsize : i.size = size) (hby : i.bytes = bytes) (hzs : z.cells.size = size) (hsz : 0 < size)
    (v : Value) (n : Nat) (xs : List Value) (hown : w.ownsRow base e size v n xs)
    (u : Value) (m : Nat) (news : List Value) (hr : Seq w u m news) (hl : news.length = m * size) (h1 : ∀ y ∈ news, y.oneCell' = true)
    (h63 : n + m ≤ maxLen) (hbytes : (n + m) * bytes ≤ 140737488355328) (hbase : base ≤ w.heap.size) :
    ∃ v' w', (Builtin.append_ #[t, t] ty #[v, u]).run P w = .ok v' w' ∧ w'.ownsRow base e size v' (n + m) (xs ++ news) ∧ w.grownBy w' v.ownBlock ∧ (v'.ownBlock = v.ownBlock ∨ v'.ownBlock = some w.heap.size) := by
  obtain ⟨A, c, rfl, hnc, hcm, hA, hc⟩ := hr
  rcases A with _ | ad
  · obtain rfl := hA rfl
    obtain rfl : m = 0 := by omega
    obtain rfl : news = [] := List.eq_nil_of_length_eq_zero (by simpa using hl)
    exact ⟨v, w, run_append_of_nil w base t ty e i size ht hi v n xs hown 0, by simpa using hown, World.grownBy.refl w _, .inl rfl⟩
  · have hcells : ∀ j y, news[j]? = some y → w.cell? (ad.add j) = some y := by
      intro j y hy
      have hm : 0 < m := by
        rcases Nat.eq_zero_or_pos m with h0 | h0
        · subst h0
          have : news = [] := List.eq_nil_of_length_eq_zero (by simpa using hl)
          subst this
          simp at hy
        · exact h0
      obtain ⟨b, o', e1, hb, hcell⟩ := hc hm
      injection e1 with e1
      subst e1
      have := hcell j y hy
      rwa [show (⟨b, o', none⟩ : Addr).add j = ⟨b, o' + j, none⟩ from by unfold Addr.add; split <;> simp_all]
    obtain ⟨v', w', hrun, h2, h3, _, h5⟩ := run_append_own_at (P := P) w base t ty e i z size bytes ht hi hz hsize hby hzs hsz v n xs hown ad m c news hl hcells h1 h63 hbytes hbase
    exact ⟨v', w', hrun, h2, h3, h5⟩
end Go.Proofs.YtfonfekejbmamaaDoor

/- Items in memory. -/
namespace Go.Proofs.YtfonfekejbmamaaDoor
set_option linter.unusedVariables false
set_option linter.unusedSimpArgs false
open Go.RowKit

structure ItemD where
  names : List ByteArray
  marks : List Int
  late : Bool
def ItemAt (w : World) (v : Value) (it : ItemD) : Prop := ∃ nv mv, v = .agg #[nv, mv, .bool it.late] ∧ Strs w nv it.names ∧ Ints w mv it.marks
theorem fpA_item (a b : Value) (c : Bool) : fpA (.agg #[a, b, .bool c]) = fp a ++ fp b := by
  simp [fpA, fp, Value.ownBlock]
def OwnT (w : World) (base : Nat) (v : Value) (it : ItemD) : Prop :=
  ∃ nv mv, v = .agg #[nv, mv, .bool it.late] ∧ OwnS w base nv it.names ∧ OwnI w base mv it.marks ∧ (fpA v).Nodup
theorem ItemAt.kept {w w' : World} {v : Value} {it : ItemD} (h : ItemAt w v it) (hk : Kept w w') : ItemAt w' v it := by
  obtain ⟨nv, mv, e, h1, h2⟩ := h
  exact ⟨nv, mv, e, h1.kept hk, h2.kept hk⟩
theorem OwnT.item {w : World} {base : Nat} {v : Value} {it : ItemD} (h : OwnT w base v it) : ItemAt w v it := by
  obtain ⟨nv, mv, e, h1, h2, _⟩ := h
  exact ⟨nv, mv, e, h1.strs, h2.ints⟩
theorem info_item : (Tryd.prog.info? 25).map (fun i => (i.zero, i.size, i.bytes)) = some (some (.agg #[.slice none 0 0, .slice none 0 0, .bool false]), 3, 56) := by kernel_rfl

/-- the three cells of an item -/
def row3 (p : (Value × Value) × ItemD) : List Value := [p.1.1, p.1.2, .bool p.2.late]
def ItemsA (w : World) (A : Option Addr) (its : List ItemD) (cs : List (Value × Value)) : Prop :=
  cs.length = its.length ∧ SeqA w A its.length ((cs.zip its).flatMap row3) ∧ ∀ (k : Nat) (nv mv : Value) (it : ItemD), cs[k]? = some (nv, mv) → its[k]? = some it → Strs w nv it.names ∧ Ints w mv it.marks
def ItemsAt (w : World) (v : Value) (its : List ItemD) : Prop :=
  ∃ cs : List (Value × Value), cs.length = its.length ∧ Seq w v its.length ((cs.zip its).flatMap row3) ∧ ∀ (k : Nat) (nv mv : Value) (it : ItemD), cs[k]? = some (nv, mv) → its[k]? = some it → Strs w nv it.names ∧ Ints w mv it.marks
theorem ItemsAt.kept {w w' : World} {v : Value} {its : List ItemD} (h : ItemsAt w v its) (hk : Kept w w') : ItemsAt w' v its := by
  obtain ⟨cs, e, h1, h2⟩ := h
  exact ⟨cs, e, h1.kept hk, fun k nv mv it q1 q2 => ⟨(h2 k nv mv it q1 q2).1.kept hk, (h2 k nv mv it q1 q2).2.kept hk⟩⟩
theorem ItemsA.kept {w w' : World} {A : Option Addr} {its : List ItemD} {cs : List (Value × Value)} (h : ItemsA w A its cs) (hk : Kept w w') : ItemsA w' A its cs :=
  ⟨h.1, h.2.1.kept hk, fun k nv mv it q1 q2 => ⟨(h.2.2 k nv mv it q1 q2).1.kept hk, (h.2.2 k nv mv it q1 q2).2.kept hk⟩⟩
theorem ItemsAt.out {w : World} {v : Value} {its : List ItemD} (h : ItemsAt w v its) : ∃ A c cs, v = .slice A its.length c ∧ its.length ≤ c ∧ c ≤ maxLen ∧ ItemsA w A its cs := by
  obtain ⟨cs, e, h1, h2⟩ := h
  obtain ⟨A, c, rfl, hnc, hcm, hsa⟩ := h1.out
  exact ⟨A, c, cs, rfl, hnc, hcm, e, hsa, h2⟩
/-- an item of a list, its three cells -/
theorem items_at {w : World} {A : Option Addr} {its : List ItemD} {cs : List (Value × Value)} (hA : ItemsA w A its cs) {k : Nat} (hk : k < its.length) :
    ∃ b o A1 c1 A2 c2 it, A = some ⟨b, o, none⟩ ∧ b < w.heap.size ∧ its[k]? = some it ∧ cs[k]? = some (.slice A1 it.names.length c1, .slice A2 it.marks.length c2) ∧ ItemAt w (.agg #[.slice A1 it.names.length c1, .slice A2 it.marks.length c2, .bool it.late]) it ∧
      w.cell? ⟨b, o + k * 3, none⟩ = some (.slice A1 it.names.length c1) ∧ w.cell? ⟨b, o + k * 3 + 1, none⟩ = some (.slice A2 it.marks.length c2) ∧ w.cell? ⟨b, o + k * 3 + 2, none⟩ = some (.bool it.late) := by
  obtain ⟨hl, h, hc⟩ := hA
  obtain ⟨b, o, e, hb, hcell⟩ := h (by omega)
  have h1 : its[k]? = some its[k] := List.getElem?_eq_getElem hk
  obtain ⟨nv, mv, h2⟩ : ∃ nv mv, cs[k]? = some (nv, mv) := ⟨_, _, List.getElem?_eq_getElem (by omega)⟩
  have h3 := hc k nv mv its[k] h2 h1
  have hz : (cs.zip its)[k]? = some ((nv, mv), its[k]) := by rw [List.getElem?_zip_eq_some]; exact ⟨h2, h1⟩
  have hf := flat_get row3 3 (fun _ => rfl) (cs.zip its) k
  have q0 := hcell (k * 3) nv (by have := hf 0 (by omega); rw [Nat.add_zero, hz] at this; exact this)
  have q1 := hcell (k * 3 + 1) mv (by have := hf 1 (by omega); rw [hz] at this; exact this)
  have q2 := hcell (k * 3 + 2) (.bool its[k].late) (by have := hf 2 (by omega); rw [hz] at this; exact this)
  rw [← Nat.add_assoc] at q1 q2
  have hit : ItemAt w (.agg #[nv, mv, .bool its[k].late]) its[k] := ⟨_, _, rfl, h3.1, h3.2⟩
  obtain ⟨A1, c1, rfl, _⟩ := h3.1.1.out
  obtain ⟨A2, c2, rfl, _⟩ := h3.2.out
  exact ⟨b, o, A1, c1, A2, c2, its[k], e, hb, h1, h2, hit, q0, q1, q2⟩


/-! ### sizes -/
def strsSize (zs : List ByteArray) : Nat := zs.length + (zs.map ByteArray.size).sum
def ItemD.size (it : ItemD) : Nat := strsSize it.names + it.marks.length
def itemsSize (its : List ItemD) : Nat := its.length + (its.map ItemD.size).sum
theorem item_size_le {its : List ItemD} {k : Nat} {it : ItemD} (h : its[k]? = some it) : it.size ≤ itemsSize its := by
  have := mem_le_sum (its.map ItemD.size) it.size (List.mem_map_of_mem (List.mem_of_getElem? h))
  unfold itemsSize
  omega
theorem item_parts (it : ItemD) : it.names.length ≤ it.size ∧ it.marks.length ≤ it.size := by
  unfold ItemD.size strsSize
  omega
set_option maxHeartbeats 400000 in
theorem eqItem_any (v1 v2 : Value) (a : ItemD) (w : World) (h1 : ItemAt w v1 a) (h2 : ItemAt w v2 a) :
    Calls Tryd.prog 10 #[v1, v2] w fun e w' => e = .returned (.bool true) ∧ Kept w w' := by
  obtain ⟨nv, mv, rfl, q1, q2⟩ := h1
  obtain ⟨nv', mv', rfl, q3, q4⟩ := h2
  have H1 := Lib.hid q1
  have H2 := Lib.hid q2
  have H3 := Lib.hid q3
  have H4 := Lib.hid q4
  clear q1 q2 q3 q4
  have K0 : Kept w ((w.alloc (.cells #[nv, mv, .bool a.late] 25)).alloc (.cells #[nv', mv', .bool a.late] 25)) := ((Kept.refl w).alloc _).alloc _
  go_enter Tryd.func10, Tryd.ntmps10
  go_wp2_with fail
  refine (eqStringS_any _ _ a.names a.names _ (H1.out.kept K0) (H3.out.kept K0)).mono ?_
  rintro e w1 ⟨rfl, k1⟩
  have B0 := ((Box.new w w.heap.size 25 #[nv, mv, .bool a.late] rfl).alloc (.cells #[nv', mv', .bool a.late] 25)).kept k1
  have B1 := (Box.new (w.alloc (.cells #[nv, mv, .bool a.late] 25)) (w.heap.size + 1) 25 #[nv', mv', .bool a.late] (by simp)).kept k1
  obtain ⟨c0, f0⟩ := B0.three
  obtain ⟨c1, f1⟩ := B1.three
  have K1 := K0.trans k1
  clear k1 f0 f1
  have hd : decide (a.names = a.names) = true := by simp
  rw [hd]
  clear hd
  go_wp2_with fail
  clear c0 c1
  refine (eqIntS_any _ _ a.marks a.marks _ (H2.out.kept K1) (H4.out.kept K1)).mono ?_
  rintro e w2 ⟨rfl, k2⟩
  obtain ⟨c0, f0⟩ := (B0.kept k2).three
  obtain ⟨c1, f1⟩ := (B1.kept k2).three
  have K2 := K1.trans k2
  have hd : decide (a.marks = a.marks) = true := by simp
  rw [hd]
  clear hd f0 f1
  go_wp2_with fail
  go_ret
  exact ⟨rfl, K2⟩
/-! ### lists of items that the call owns -/
theorem OwnS.far {w w' : World} {base base' : Nat} {v : Value} {zs : List ByteArray} {S : List Nat} (h : OwnS w base v zs) (ho : Only S w w') (hS : ∀ b ∈ S, b < base) (hb : base' ≤ base) : OwnS w' base' v zs := ⟨own_far h.1 ho hS hb, h.2⟩
def fpL (cs : List (Value × Value)) : List Nat := cs.flatMap fun p => fp p.1 ++ fp p.2
theorem fpL_snoc (cs : List (Value × Value)) (a b : Value) : fpL (cs ++ [(a, b)]) = fpL cs ++ (fp a ++ fp b) := by simp [fpL]
def OwnL (w : World) (base : Nat) (v : Value) (its : List ItemD) (S : List Nat) : Prop :=
  ∃ cs : List (Value × Value), cs.length = its.length ∧ w.ownsRow base 25 3 v its.length ((cs.zip its).flatMap row3) ∧
    (∀ (k : Nat) (nv mv : Value) (it : ItemD), cs[k]? = some (nv, mv) → its[k]? = some it → OwnS w base nv it.names ∧ OwnI w base mv it.marks) ∧ S = fp v ++ fpL cs ∧ S.Nodup ∧ ∀ b ∈ S, base ≤ b ∧ b < w.heap.size
theorem OwnL.items {w : World} {base : Nat} {v : Value} {its : List ItemD} {S : List Nat} (h : OwnL w base v its S) : ItemsAt w v its := by
  obtain ⟨cs, h1, h2, h3, _⟩ := h
  exact ⟨cs, h1, Seq.of_own h2, fun k nv mv it q1 q2 => ⟨(h3 k nv mv it q1 q2).1.strs, (h3 k nv mv it q1 q2).2.ints⟩⟩
theorem mem_fpL {cs : List (Value × Value)} {k : Nat} {nv mv : Value} (h : cs[k]? = some (nv, mv)) {b : Nat} (hb : b ∈ fp nv ∨ b ∈ fp mv) : b ∈ fpL cs := by
  unfold fpL
  rw [List.mem_flatMap]
  exact ⟨(nv, mv), List.mem_of_getElem? h, by simpa using hb⟩
theorem OwnL.only {w w' : World} {base : Nat} {v : Value} {its : List ItemD} {S T : List Nat} (h : OwnL w base v its S) (ho : Only T w w') (hd : ∀ b ∈ S, b ∉ T) : OwnL w' base v its S := by
  obtain ⟨cs, h1, h2, h3, rfl, h5, h6⟩ := h
  refine ⟨cs, h1, own_only h2 ho (fun b hb => hd b (List.mem_append_left _ hb)), fun k nv mv it q1 q2 => ⟨(h3 k nv mv it q1 q2).1.only ho (fun b hb => hd b (List.mem_append_right _ (mem_fpL q1 (.inl hb)))), (h3 k nv mv it q1 q2).2.only ho (fun b hb => hd b (List.mem_append_right _ (mem_fpL q1 (.inr hb))))⟩, rfl, h5, fun b hb => ⟨(h6 b hb).1, Nat.lt_of_lt_of_le (h6 b hb).2 ho.size⟩⟩
theorem OwnL.kept {w w' : World} {base : Nat} {v : Value} {its : List ItemD} {S : List Nat} (h : OwnL w base v its S) (hk : Kept w w') : OwnL w' base v its S := h.only (hk.only []) (fun _ _ => List.not_mem_nil)
theorem set3_take {xs ys : List Value} {k n : Nat} {a b c : Value} (hl : xs.length = n * 3) (hk : k < n) (ht : xs.take (k * 3) = ys) :
    (((xs.set (k * 3) a).set (k * 3 + 1) b).set (k * 3 + 2) c).take ((k + 1) * 3) = ys ++ [a, b, c] := by
  have h1 : k * 3 + 2 < xs.length := by omega
  rw [show (k + 1) * 3 = k * 3 + 2 + 1 from by omega]
  rw [take_snoc (x := c) (by rw [List.getElem?_set_self (by simp; omega)]), List.take_set_of_le (Nat.le_refl _)]
  rw [take_snoc (x := b) (by rw [List.getElem?_set_self (by simp; omega)]), List.take_set_of_le (Nat.le_refl _)]
  rw [take_snoc (x := a) (by rw [List.getElem?_set_self (by omega)]), List.take_set_of_le (Nat.le_refl _), ht]
  simp
theorem zip_snoc {cs : List (Value × Value)} {its : List ItemD} {p : Value × Value} {it : ItemD} (h : its[cs.length]? = some it) : (cs ++ [p]).zip its = cs.zip its ++ [(p, it)] := by
  induction cs generalizing its with
  | nil =>
    cases its with
    | nil => simp at h
    | cons x l => simp at h; simp [h]
  | cons q cs ih =>
    cases its with
    | nil => simp at h
    | cons x l =>
      simp at h
      simp [ih h]
theorem getElem?_snoc {α : Type} {l : List α} {x y : α} {k : Nat} (h : (l ++ [x])[k]? = some y) : (l[k]? = some y) ∨ (k = l.length ∧ x = y) := by
  rcases Nat.lt_trichotomy k l.length with h1 | h1 | h1
  · rw [List.getElem?_append_left h1] at h
    exact .inl h
  · subst h1
    simp at h
    exact .inr ⟨rfl, h⟩
  · rw [List.getElem?_eq_none (by simp; omega)] at h
    cases h
end Go.Proofs.YtfonfekejbmamaaDoor

/- Lists of items compared; which items are valid. -/
namespace Go.Proofs.YtfonfekejbmamaaDoor
set_option linter.unusedVariables false
set_option linter.unusedSimpArgs false
open Go.RowKit

set_option maxRecDepth 100000 in
set_option maxHeartbeats 1000000 in
theorem eqItemS_any (v1 v2 : Value) (its : List ItemD) (w : World) (h1 : ItemsAt w v1 its) (h2 : ItemsAt w v2 its) :
    Calls Tryd.prog 22 #[v1, v2] w fun e w' => e = .returned (.bool true) ∧ Kept w w' := by
  obtain ⟨A, c, cs, rfl, hnc, hcm, hA⟩ := h1.out
  obtain ⟨A', c', cs', rfl, hnc', hcm', hA'⟩ := h2.out
  unfold maxLen at hcm hcm'
  have HA := Lib.hid hA
  have HA' := Lib.hid hA'
  clear hA h1 hA' h2
  have hne : ((its.length : Int) != (its.length : Int)) = false := by simp
  go_enter Tryd.func22, Tryd.ntmps22
  go_wp2_with fail
  go_loopw [5] (fun i wr => ∃ k : Nat, k ≤ its.length ∧ i = .int .i64 k ∧ Kept w wr) (fun i _ => its.length - (intOf i).toNat)
  case atStart => exact ⟨0, Nat.zero_le _, rfl, Kept.refl _⟩
  case round =>
    obtain ⟨k, hk, rfl, hkept⟩ := hrel
    by_cases hlt : k < its.length
    · obtain ⟨b, o, A1, c1, A2, c2, it, rfl, hb, h2, h3, hit, q0, q1, q2⟩ := items_at (HA.out.kept hkept) hlt
      obtain ⟨b', o', A1', c1', A2', c2', it', rfl, hb', h2', h3', hit', q0', q1', q2'⟩ := items_at (HA'.out.kept hkept) hlt
      rw [h2] at h2'
      injection h2' with h2'
      subst h2'
      have HI := Lib.hid hit
      have HI' := Lib.hid hit'
      have hlt' : (k : Int) < (its.length : Int) := by omega
      clear h2 h3 h3' hit hit'
      go_wp2_with fail
      go_still_tail 8, (by kernel_rfl)
      go_wp2_with fail
      refine (eqItem_any _ _ it _ (HI.out.kept (Kept.refl wr).drew) (HI'.out.kept (Kept.refl wr).drew)).mono ?_
      rintro e w1 ⟨rfl, k1⟩
      go_wp2_with fail
      go_roundw
      case rel => exact ⟨k + 1, by omega, by go_num, hkept.drew.trans k1⟩
      case measure => simp [intOf]; omega
    · go_wp2_with fail
      go_ret
      exact ⟨rfl, hkept⟩
/-! ### which items are valid -/
def itemB (it : ItemD) : Bool := it.names.all nameB && inB it.names.length 1 3 && (it.marks.length == it.names.length) && it.marks.all (inB · 0 3)
def itemsB (its : List ItemD) : Bool := its.all itemB && decide (its.length ≤ 14)
set_option maxHeartbeats 1000000 in
theorem isItem_any (v : Value) (it : ItemD) (w : World) (h : ItemAt w v it) :
    Calls Tryd.prog 32 #[v] w fun e w' => e = .returned (.bool (itemB it)) ∧ Kept w w' := by
  obtain ⟨nv, mv, rfl, q1, q2⟩ := h
  obtain ⟨A, c, rfl, hnc, hcm, hl⟩ := q1.1.out
  obtain ⟨A2, c2, rfl, hnc2, hcm2, _⟩ := q2.out
  unfold maxLen at hcm hcm2
  have HL := Lib.hid hl
  have HS := Lib.hid q1.2
  have H2 := Lib.hid q2
  clear q1 q2 hl
  go_enter Tryd.func32, Tryd.ntmps32
  go_wp2_with fail
  go_loop [8] (fun i => ∃ k : Nat, k ≤ it.names.length ∧ i = .int .i64 k ∧ (it.names.take k).all nameB = true) (fun i => it.names.length - (intOf i).toNat)
  case atStart => exact ⟨0, Nat.zero_le _, rfl, rfl⟩
  case round =>
    obtain ⟨k, hk, rfl, ha⟩ := hrel
    have HA := Lib.hid ha
    clear ha
    by_cases hlt : k < it.names.length
    · obtain ⟨b, o, z, rfl, hb, hz, hc⟩ := strs_at (HL.out.kept ((Kept.refl w).alloc (.cells #[.slice A it.names.length c, .slice A2 it.marks.length c2, .bool it.late] 25))) hlt
      have hzs := HS.out z (List.mem_of_getElem? hz)
      have HZ := Lib.hid hz
      clear hz
      by_cases hn : nameB z = true
      · go_wp2_with (go_at_call 65; refine (isName_any _ _ hzs).mono ?_; rintro e w' ⟨rfl, rfl⟩)
        go_round
        case rel => exact ⟨k + 1, by omega, by go_num, all_snoc HZ.out HA.out hn⟩
        case measure => simp [intOf]; omega
      · simp only [Bool.not_eq_true] at hn
        go_wp2_with (go_at_call 65; refine (isName_any _ _ hzs).mono ?_; rintro e w' ⟨rfl, rfl⟩)
        go_ret
        exact ⟨ret_bool (by unfold itemB; rw [all_not HZ.out hn]; rfl), (Kept.refl _).alloc _⟩
    · have hall := all_full (p := nameB) (by omega) HA.out
      have HALL := Lib.hid hall
      clear hall
      by_cases h3 : inB it.names.length 1 3 = true <;> by_cases h4 : it.marks.length = it.names.length
      all_goals
        try simp only [Bool.not_eq_true] at h3
        have H4 := Lib.hid h4
        first
          | (have h5 : ((it.marks.length : Int) == (it.names.length : Int)) = true := by simp [h4])
          | (have h5 : ((it.marks.length : Int) == (it.names.length : Int)) = false := beq_eq_false_iff_ne.2 (by omega))
        clear h4
        go_wp2_with (first | (go_at_call 56; refine (within_any _ _ _ _).mono ?_; rintro e w' ⟨rfl, rfl⟩) | (go_at_call 66; refine (allWithin_any _ _ _ _ _ (H2.out.kept ((Kept.refl w).alloc _))).mono ?_; rintro e w' ⟨rfl, rfl⟩))
        go_ret
        exact ⟨ret_bool (by unfold itemB; rw [HALL.out, h3]; simp [H4.out]), (Kept.refl _).alloc _⟩
set_option maxHeartbeats 1000000 in
theorem itGood_any (v : Value) (it : ItemD) (w : World) (h : ItemAt w v it) :
    Calls Tryd.prog 61 #[v] w fun e w' => e = .returned (.bool (itemB it)) ∧ Kept w w' := by
  obtain ⟨nv, mv, rfl, q1, q2⟩ := h
  obtain ⟨A, c, rfl, hnc, hcm, hl⟩ := q1.1.out
  obtain ⟨A2, c2, rfl, hnc2, hcm2, _⟩ := q2.out
  unfold maxLen at hcm hcm2
  have HL := Lib.hid hl
  have HS := Lib.hid q1.2
  have H2 := Lib.hid q2
  clear q1 q2 hl
  go_enter Tryd.func61, Tryd.ntmps61
  go_wp2_with fail
  go_loop [8] (fun i => ∃ k : Nat, k ≤ it.names.length ∧ i = .int .i64 k ∧ (it.names.take k).all nameB = true) (fun i => it.names.length - (intOf i).toNat)
  case atStart => exact ⟨0, Nat.zero_le _, rfl, rfl⟩
  case round =>
    obtain ⟨k, hk, rfl, ha⟩ := hrel
    have HA := Lib.hid ha
    clear ha
    by_cases hlt : k < it.names.length
    · obtain ⟨b, o, z, rfl, hb, hz, hc⟩ := strs_at (HL.out.kept ((Kept.refl w).alloc (.cells #[.slice A it.names.length c, .slice A2 it.marks.length c2, .bool it.late] 25))) hlt
      have hzs := HS.out z (List.mem_of_getElem? hz)
      have HZ := Lib.hid hz
      clear hz
      by_cases hn : nameB z = true
      · go_wp2_with (go_at_call 83; refine (itName_any _ _ hzs).mono ?_; rintro e w' ⟨rfl, rfl⟩)
        go_round
        case rel => exact ⟨k + 1, by omega, by go_num, all_snoc HZ.out HA.out hn⟩
        case measure => simp [intOf]; omega
      · simp only [Bool.not_eq_true] at hn
        go_wp2_with (go_at_call 83; refine (itName_any _ _ hzs).mono ?_; rintro e w' ⟨rfl, rfl⟩)
        go_ret
        exact ⟨ret_bool (by unfold itemB; rw [all_not HZ.out hn]; rfl), (Kept.refl _).alloc _⟩
    · have hall := all_full (p := nameB) (by omega) HA.out
      have HALL := Lib.hid hall
      clear hall
      by_cases h3 : inB it.names.length 1 3 = true <;> by_cases h4 : it.marks.length = it.names.length
      all_goals
        try simp only [Bool.not_eq_true] at h3
        have H4 := Lib.hid h4
        first
          | (have h5 : ((it.marks.length : Int) == (it.names.length : Int)) = true := by simp [h4])
          | (have h5 : ((it.marks.length : Int) == (it.names.length : Int)) = false := beq_eq_false_iff_ne.2 (by omega))
        clear h4
        go_wp2_with (first | (go_at_call 71; refine (l1In_any _ _ _ _).mono ?_; rintro e w' ⟨rfl, rfl⟩) | (go_at_call 72; refine (l1All_any _ _ _ _ _ (H2.out.kept ((Kept.refl w).alloc _))).mono ?_; rintro e w' ⟨rfl, rfl⟩))
        go_ret
        exact ⟨ret_bool (by unfold itemB; rw [HALL.out, h3]; simp [H4.out]), (Kept.refl _).alloc _⟩
end Go.Proofs.YtfonfekejbmamaaDoor

/- How often a name occurs in a list. -/
namespace Go.Proofs.YtfonfekejbmamaaDoor
set_option linter.unusedVariables false
set_option linter.unusedSimpArgs false
open Go.RowKit

def cnt (s : ByteArray) (l : List ByteArray) : Nat := (l.filter fun x => decide (x = s)).length
def cntC (s : ByteArray) (it : ItemD) : Nat := if 1 < it.names.length then cnt s it.names else 0
def times (its : List ItemD) (s : ByteArray) : Nat := (its.map fun it => cnt s it.names).sum
def timesC (its : List ItemD) (s : ByteArray) : Nat := (its.map (cntC s)).sum
theorem cnt_snoc {s z : ByteArray} {l : List ByteArray} {k : Nat} (h : l[k]? = some z) : cnt s (l.take (k + 1)) = cnt s (l.take k) + if z = s then 1 else 0 := by
  unfold cnt
  rw [take_snoc h, List.filter_append]
  by_cases hz : z = s <;> simp [List.filter_cons, hz]
theorem cnt_le (s : ByteArray) (l : List ByteArray) : cnt s l ≤ l.length := List.length_filter_le _ _
theorem itemsB_true {its : List ItemD} (h : itemsB its = true) : its.length ≤ 14 ∧ ∀ it ∈ its, itemB it = true := by
  unfold itemsB at h
  rw [Bool.and_eq_true] at h
  exact ⟨by simpa using h.2, fun it hi => List.all_eq_true.1 h.1 it hi⟩
theorem itemB_true {it : ItemD} (h : itemB it = true) : (∀ z ∈ it.names, nameB z = true) ∧ 1 ≤ it.names.length ∧ it.names.length ≤ 3 ∧ it.marks.length = it.names.length ∧ ∀ m ∈ it.marks, 0 ≤ m ∧ m ≤ 3 := by
  unfold itemB at h
  simp only [Bool.and_eq_true] at h
  obtain ⟨⟨⟨h1, h2⟩, h3⟩, h4⟩ := h
  have h5 := inB_true h2
  exact ⟨fun z hz => List.all_eq_true.1 h1 z hz, by omega, by omega, by simpa using h3, fun m hm => inB_true (List.all_eq_true.1 h4 m hm)⟩
theorem sum_le_mul (l : List Nat) (B : Nat) (h : ∀ x ∈ l, x ≤ B) : l.sum ≤ l.length * B := by
  induction l with
  | nil => simp
  | cons y l ih =>
    have h1 := h y (by simp)
    have h2 := ih (fun x hx => h x (by simp [hx]))
    rw [List.sum_cons, List.length_cons, Nat.succ_mul]
    omega
theorem times_bd {its : List ItemD} (hb : itemsB its = true) (s : ByteArray) (k : Nat) : ((its.take k).map fun it => cnt s it.names).sum ≤ 42 ∧ ((its.take k).map (cntC s)).sum ≤ 42 := by
  obtain ⟨h1, h2⟩ := itemsB_true hb
  have hl : (its.take k).length ≤ 14 := by rw [List.length_take]; omega
  have hc : ∀ it ∈ its.take k, cnt s it.names ≤ 3 := fun it hi => Nat.le_trans (cnt_le s _) (itemB_true (h2 it (List.mem_of_mem_take hi))).2.2.1
  constructor
  · have := sum_le_mul ((its.take k).map fun it => cnt s it.names) 3 (by
      intro x hx
      obtain ⟨it, hi, rfl⟩ := List.mem_map.1 hx
      exact hc it hi)
    rw [List.length_map] at this
    omega
  · have := sum_le_mul ((its.take k).map (cntC s)) 3 (by
      intro x hx
      obtain ⟨it, hi, rfl⟩ := List.mem_map.1 hx
      unfold cntC
      split
      · exact hc it hi
      · omega)
    rw [List.length_map] at this
    omega
def tmV (its : List ItemD) (s : ByteArray) : Int := if itemsB its && nameB s then (times its s : Int) else 0
def tmC (its : List ItemD) (s : ByteArray) : Int := if itemsB its && nameB s then (timesC its s : Int) else 0
end Go.Proofs.YtfonfekejbmamaaDoor

/- Items: slices.Sort and slices.Compact at rows of strings; NamesIn, both sides. -/
namespace Go.Proofs.YtfonfekejbmamaaDoor
set_option linter.unusedVariables false
set_option linter.unusedSimpArgs false
open Go.RowKit Go.Lib Go.Sort

theorem ownS_cases {w : World} {base : Nat} {v : Value} {zs : List ByteArray} (h : OwnS w base v zs) : (v = .slice none 0 0 ∧ zs = []) ∨ ∃ g cap, v = .slice (some ⟨g, 0, none⟩) zs.length cap ∧ zs.length ≤ cap ∧ cap ≤ maxLen := by
  rcases h.1.2 with ⟨e1, e2⟩ | ⟨g, cap, cur, e1, _, _, e4, e5, _⟩
  · exact .inl ⟨e1, List.eq_nil_of_length_eq_zero e2⟩
  · exact .inr ⟨g, cap, e1, e4, e5⟩
theorem own_shrink {w : World} {base g cap n m : Nat} {e : TypeId} {xs : List Value} (h : w.ownsRow base e 1 (.slice (some ⟨g, 0, none⟩) n cap) n xs) (hm : m ≤ n) : w.ownsRow base e 1 (.slice (some ⟨g, 0, none⟩) m cap) m (xs.take m) := by
  obtain ⟨hl, h2⟩ := h
  rcases h2 with ⟨e1, _⟩ | ⟨g', cap', cur, e1, hb, hg, hnc, hcm, hcs, ht⟩
  · cases e1
  · injection e1 with e1 e2 e3
    injection e1 with e1
    injection e1 with e1
    subst e1 e3
    refine ⟨by rw [List.length_take, hl]; omega, .inr ⟨g, cap, cur, rfl, hb, hg, by omega, hcm, hcs, ?_⟩⟩
    rw [← ht, List.take_take]
    congr 1
    omega
theorem enc_bl (zs : List ByteArray) : (zs.map bl).map encStr = zs.map Value.string := by
  rw [List.map_map]
  exact List.map_congr_left fun z _ => congrArg Value.string (bs_bl z)
theorem enc_bs (ls : List LB) : ls.map encStr = (ls.map bs).map Value.string := by
  rw [List.map_map]
  rfl
theorem names_len {zs : List LB} : (compact zs).length ≤ zs.length := by
  unfold compact compactUpTo
  rw [List.length_map]
  exact Nat.le_trans (List.length_filter_le _ _) (by simp)
def allN (its : List ItemD) : List ByteArray := its.flatMap ItemD.names
def niV (its : List ItemD) : List ByteArray := if itemsB its then namesD (allN its) else []
theorem niV_yes {its : List ItemD} (h : itemsB its = true) : niV its = namesD (allN its) := by unfold niV; rw [h]; rfl
theorem niV_no {its : List ItemD} (h : itemsB its = false) : niV its = [] := by unfold niV; rw [h]; rfl
theorem allN_snoc {its : List ItemD} {k : Nat} {it : ItemD} (h : its[k]? = some it) : allN (its.take (k + 1)) = allN (its.take k) ++ it.names := by
  unfold allN
  rw [take_snoc h, List.flatMap_append]
  simp
theorem allN_len : ∀ {its : List ItemD}, (∀ it ∈ its, itemB it = true) → (allN its).length ≤ 3 * its.length
  | [], _ => by simp [allN]
  | it :: t, h => by
    have h1 := allN_len (its := t) (fun x hx => h x (List.mem_cons_of_mem _ hx))
    have h2 := (itemB_true (h it (by simp)))
    have h3 : it.names.length ≤ 3 := by have := h2.2.2.1; omega
    unfold allN at *
    rw [List.flatMap_cons, List.length_append, List.length_cons]
    omega
theorem ret_vbN {v : Value} {b b' : Bool} (h : b = b') : Ending.returned (.tuple #[v, .bool b]) = .returned (.tuple #[v, .bool b']) := by rw [h]
theorem nilS (w : World) (base : Nat) : OwnS w base (.slice none 0 0) [] := ⟨⟨by simp, .inl ⟨rfl, rfl⟩⟩, fun _ h => by cases h⟩
theorem OwnS.base {w : World} {base base' : Nat} {v : Value} {zs : List ByteArray} (h : OwnS w base v zs) (hb : base' ≤ base) : OwnS w base' v zs := ⟨own_base h.1 hb, h.2⟩
theorem Only.above' {g : Nat} {a0 a b : World} (h : Only [g] a b) (k : Kept a0 a) (hg : a0.heap.size ≤ g) : Kept a0 b :=
  h.above k (fun x hx => by rw [List.mem_singleton] at hx; subst hx; exact hg)
set_option maxRecDepth 100000 in
theorem wpList_append_SL (w : World) {ops : Array Oper} {rest : List Oper} {o : Oper} {a : Act} {Q : Exit → Act → World → Prop} (hgd : o.guard = none) (s x : Operand)
    (ho : o.op = .call { callee := .builtin .append, args := #[s, x], argTypes := #[22, 22] })
    (base : Nat) (v : Value) (zs : List ByteArray) (hs : a.eval s = v) (hown : OwnS w base v zs) (u : Value) (ys : List ByteArray) (hx : a.eval x = u) (hr : Strs w u ys)
    (hl : zs.length + ys.length ≤ 16777216) (hbase : base ≤ w.heap.size)
    (h : ∀ v' w', OwnS w' base v' (zs ++ ys) → w.grownBy w' v.ownBlock → (v.ownBlock ≠ none → v'.ownBlock ≠ none) → wpList Tryd.prog ops Q rest (a.put o.dst v') w') : wpList Tryd.prog ops Q (o :: rest) a w := by
  refine wpList_plain hgd fun K hK => ?_
  obtain ⟨i0, hi, hz0, hz1, hz2⟩ := info_parts info_str
  obtain ⟨v', w', hrun, h2, h3, h4⟩ := run_append_locG (P := Tryd.prog) w base 22 o.type 9 i0 _ 1 16 Tryd.underlying22 hi hz0 hz1 hz2 rfl (by omega) v zs.length _ hown.1 u ys.length (ys.map Value.string) hr.1 (by simp) (fun y hy => by obtain ⟨_, _, rfl⟩ := List.mem_map.1 hy; rfl) (by unfold maxLen; omega) (by omega) hbase
  unfold Oper.wp execOp
  simp only [ho, resolve, invoke, builtin, Sem.run_bind, Sem.run_pure, Result.andThen_ok, List.map_toArray, List.map_cons, List.map_nil, hs, hx, hrun]
  refine hK _ _ (h v' w' ?_ h3 (fun hv => ?_))
  · refine ⟨by rw [List.length_append, List.map_append]; exact h2, fun e he => ?_⟩
    rcases List.mem_append.1 he with he | he
    · exact hown.2 e he
    · exact hr.2 e he
  · rcases h4 with h4 | h4
    · rw [h4]; exact hv
    · rw [h4]; simp
end Go.Proofs.YtfonfekejbmamaaDoor
