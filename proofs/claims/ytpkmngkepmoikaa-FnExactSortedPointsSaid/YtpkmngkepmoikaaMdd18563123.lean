/- Contracts of functions that the proof leans on. No condition. -/
import Derived.Test.YtpkmngkepmoikaaMe692c399c9
import Derived.Sort.Grow
import Derived.Deep.AppendLies
import Derived.Test.YtpkmngkepmoikaaShelf
import Derived.ProofKit
import Derived.OpenShut
import Derived.ChangeOld
/- Rows that the library sorts in place; copies with where they lie. -/
namespace Go.Proofs.Ytpkmngkepmoikaa
set_option linter.unusedVariables false
set_option linter.unusedSimpArgs false
open Go.RowKit

theorem own_lt {w : World} {base g cap n : Nat} {e : TypeId} {xs : List Value} (h : w.ownsRow base e 1 (.slice (some ⟨g, 0, none⟩) n cap) n xs) : g < w.heap.size := by
  rcases h.2 with ⟨e1, _⟩ | ⟨g', cap', cur, e1, hb, hg, _⟩
  · cases e1
  · injection e1 with e1
    injection e1 with e1
    injection e1 with e1
    subst e1
    exact (Array.getElem?_eq_some_iff.1 hg).1
theorem holds_own {α : Type} [Inhabited α] {enc : α → Value} {w : World} {base g cap : Nat} {e : TypeId} {zs : List α} (h : w.ownsRow base e 1 (.slice (some ⟨g, 0, none⟩) zs.length cap) zs.length (zs.map enc)) : Go.Sort.Holds enc w g 0 zs.toArray := by
  intro j hj
  have hj' : j < zs.length := by simpa using hj
  rcases h.2 with ⟨e1, _⟩ | ⟨g', cap', cur, e1, hb, hg, _⟩
  · cases e1
  · injection e1 with e1
    injection e1 with e1
    injection e1 with e1
    subst e1
    refine ⟨?_, ?_⟩
    · rw [Nat.zero_add, h.cellAt j (by omega), List.getElem?_map, List.getElem?_eq_getElem hj']
      simp [hj']
    · simp [World.frozen?, hg]
theorem putRow_own {α : Type} [Inhabited α] (enc : α → Value) {w : World} {base g cap n : Nat} {e : TypeId} {xs : List Value} (h : w.ownsRow base e 1 (.slice (some ⟨g, 0, none⟩) n cap) n xs) {ys : List α} (hl : ys.length = n) (m : Nat) (os : Array Obj) :
    (Go.Sort.grow (Go.Sort.putRow enc (Go.Sort.ahead w m) g 0 ys.toArray) os).ownsRow base e 1 (.slice (some ⟨g, 0, none⟩) n cap) n (ys.map enc) ∧ Only [g] w (Go.Sort.grow (Go.Sort.putRow enc (Go.Sort.ahead w m) g 0 ys.toArray) os) := by
  rcases h.2 with ⟨e1, _⟩ | ⟨g', cap', cur, e1, hb, hg, hnc, hcm, hcs, ht⟩
  · cases e1
  · injection e1 with e1 e2 e3
    injection e1 with e1
    injection e1 with e1
    subst e1 e3
    have hlt : g < w.heap.size := (Array.getElem?_eq_some_iff.1 hg).1
    have hnew : (Go.Sort.grow (Go.Sort.putRow enc (Go.Sort.ahead w m) g 0 ys.toArray) os).heap[g]? = some (.cells (Go.Sort.putCells enc 0 ys.toArray cur) e (0, 0)) := by
      rw [Go.Sort.heap_grow_old _ _ (by simpa using hlt)]
      simp [Go.Sort.putRow, Go.Sort.mapBlock, Array.getElem?_modify, hg, Go.Sort.onCells]
    refine ⟨⟨by simp [hl], .inr ⟨g, cap, _, rfl, hb, hnew, hnc, hcm, by simp [Go.Sort.putCells]; simpa using hcs, ?_⟩⟩, ?_⟩
    · apply List.ext_getElem?
      intro j
      rw [List.getElem?_take]
      by_cases hj : j < n
      · rw [if_pos (by omega), Array.getElem?_toList]
        have hjc : j < cur.size := by omega
        simp [Go.Sort.putCells, Array.getElem?_mapIdx, hjc, hl, hj]
      · rw [if_neg (by omega), List.getElem?_eq_none (by simp [hl]; omega)]
    · refine ⟨rfl, rfl, rfl, by simp [Go.Sort.grow, Go.Sort.putRow, Go.Sort.mapBlock], fun i hi hn => ?_⟩
      rw [Go.Sort.heap_grow_old _ _ (by simpa using hi)]
      have hne : g ≠ i := fun e => hn (by simp [e])
      simp [Go.Sort.putRow, Go.Sort.mapBlock, Array.getElem?_modify, hne]
theorem run_append_locG {P : Program} (w : World) (base : Nat) (t ty e : TypeId) (i : TypeInfo) (z : Value) (size bytes : Nat) (ht : P.underlying t = some (.slice e)) (hi : P.info? e = some i) (hz : i.zero = some z)
    (hsize : i.size = size) (hby : i.bytes = bytes) (hzs : z.cells.size = size) (hsz : 0 < size)
    (v : Value) (n : Nat) (xs : List Value) (hown : w.ownsRow base e size v n xs)
    (u : Value) (m : Nat) (news : List Value) (hr : Seq w u m news) (hl : news.length = m * size) (h1 : ∀ y ∈ news, y.oneCell' = true)
    (h63 : n + m ≤ maxLen) (hbytes : (n + m) * bytes ≤ 140737488355328) (hbase : base ≤ w.heap.size) :
    ∃ v' w', (Builtin.append_ #[t, t] ty #[v, u]).run P w = .ok v' w' ∧ w'.ownsRow base e size v' (n + m) (xs ++ news) ∧ w.grownBy w' v.ownBlock ∧ (v'.ownBlock = v.ownBlock ∨ v'.ownBlock = some w.heap.size) := by
  obtain ⟨A, c, rfl, hnc, hcm, hA, hc⟩ := hr
  rcases A with _ | ad
  · obtain rfl := hA rfl
    obtain rfl : m = 0 := by omega
    obtain rfl : news = [] := List.eq_nil_of_length_eq_zero (by simpa using hl)
    exact ⟨v, w, run_append_of_nil w base t ty e i size ht hi v n xs hown 0, by simpa using hown, World.grownBy.refl w _, .inl rfl⟩
  · have hcells : ∀ j y, news[j]? = some y → w.cell? (ad.add j) = some y := by
      intro j y hy
      have hm : 0 < m := by
        rcases Nat.eq_zero_or_pos m with h0 | h0
        · subst h0
          have : news = [] := List.eq_nil_of_length_eq_zero (by simpa using hl)
          subst this
          simp at hy
        · exact h0
      obtain ⟨b, o', e1, hb, hcell⟩ := hc hm
      injection e1 with e1
      subst e1
      have := hcell j y hy
      rwa [show (⟨b, o', none⟩ : Addr).add j = ⟨b, o' + j, none⟩ from by unfold Addr.add; split <;> simp_all]
    obtain ⟨v', w', hrun, h2, h3, _, h5⟩ := run_append_own_at (P := P) w base t ty e i z size bytes ht hi hz hsize hby hzs hsz v n xs hown ad m c news hl hcells h1 h63 hbytes hbase
    exact ⟨v', w', hrun, h2, h3, h5⟩
set_option maxRecDepth 100000 in
theorem wpList_append_IL (w : World) {ops : Array Oper} {rest : List Oper} {o : Oper} {a : Act} {Q : Exit → Act → World → Prop} (hgd : o.guard = none) (s x : Operand)
    (ho : o.op = .call { callee := .builtin .append, args := #[s, x], argTypes := #[23, 23] })
    (base : Nat) (v : Value) (zs : List Int) (hs : a.eval s = v) (hown : OwnI w base v zs) (u : Value) (ys : List Int) (hx : a.eval x = u) (hr : Ints w u ys)
    (hl : zs.length + ys.length ≤ 16777216) (hbase : base ≤ w.heap.size)
    (h : ∀ v' w', OwnI w' base v' (zs ++ ys) → w.grownBy w' v.ownBlock → (v.ownBlock ≠ none → v'.ownBlock ≠ none) → wpList Try.prog ops Q rest (a.put o.dst v') w') : wpList Try.prog ops Q (o :: rest) a w := by
  refine wpList_plain hgd fun K hK => ?_
  obtain ⟨i0, hi, hz0, hz1, hz2⟩ := info_parts info_int
  obtain ⟨v', w', hrun, h2, h3, h4⟩ := run_append_locG (P := Try.prog) w base 23 o.type 3 i0 _ 1 8 Try.underlying23 hi hz0 hz1 hz2 rfl (by omega) v zs.length _ hown u ys.length (ys.map (Value.int .i64)) hr (by simp) (fun y hy => by obtain ⟨_, _, rfl⟩ := List.mem_map.1 hy; rfl) (by unfold maxLen; omega) (by omega) hbase
  unfold Oper.wp execOp
  simp only [ho, resolve, invoke, builtin, Sem.run_bind, Sem.run_pure, Result.andThen_ok, List.map_toArray, List.map_cons, List.map_nil, hs, hx, hrun]
  refine hK _ _ (h v' w' ?_ h3 (fun hv => ?_))
  · unfold OwnI; rw [List.length_append, List.map_append]; exact h2
  · rcases h4 with h4 | h4
    · rw [h4]; exact hv
    · rw [h4]; simp
set_option maxHeartbeats 1000000 in
theorem copyIntsL_any (v : Value) (zs : List Int) (w : World) (h : Ints w v zs) (hn : zs.length ≤ 1048576) :
    Calls Try.prog 48 #[v] w fun e w' => ∃ g cap, e = .returned (.slice (some ⟨g, 0, none⟩) zs.length cap) ∧ OwnI w' w.heap.size (.slice (some ⟨g, 0, none⟩) zs.length cap) zs ∧ Kept w w' := by
  have H := Lib.hid h
  obtain ⟨A, c, rfl, _, _, _⟩ := h.out
  clear h
  go_enter Try.func48, Try.ntmps48
  go_wp2_with (at_builtin; refine wpList_append_IL _ rfl _ _ rfl w.heap.size _ [] rfl (own_made _ _ 1 (Nat.le_refl _) (Box.new _ _ _ _ rfl)) _ zs rfl (H.out.kept ((Kept.refl _).alloc _)) (by simp; omega) (by simp) ?_; intro v' w' ho' hg hn')
  have kg := ((Kept.refl w).alloc (.cells #[] 3)).grew (own_made (base := w.heap.size) _ _ 1 (Nat.le_refl _) (Box.new _ _ _ _ rfl)) hg (Nat.le_refl _)
  have hv : v'.ownBlock ≠ none := hn' (fun h => by cases h)
  rw [List.nil_append] at ho'
  obtain ⟨g, cap, e, O⟩ : ∃ g cap, v' = .slice (some ⟨g, 0, none⟩) zs.length cap ∧ Hid (OwnI w' w.heap.size v' zs) := by
    rcases ho'.2 with ⟨rfl, _⟩ | ⟨g, cap, cur, e, _⟩
    · exact absurd rfl hv
    · exact ⟨g, cap, e, Lib.hid ho'⟩
  subst e
  clear ho' hn' hg hv
  go_ret
  exact ⟨g, cap, rfl, O.out, kg⟩
end Go.Proofs.Ytpkmngkepmoikaa

/- Points: slices.Sort and slices.Reverse at rows of the call's own; SortedPoints of the program and of the reference. -/
namespace Go.Proofs.Ytpkmngkepmoikaa
set_option linter.unusedVariables false
set_option linter.unusedSimpArgs false
open Go.RowKit

theorem sortI_any (g cap : Nat) (zs : List Int) (w : World) (base : Nat) (h : OwnI w base (.slice (some ⟨g, 0, none⟩) zs.length cap) zs) (hl : zs.length ≤ 1000000) :
    Calls Try.prog 49 #[.slice (some ⟨g, 0, none⟩) zs.length cap] w fun e w' => e = .returned (.tuple #[]) ∧ OwnI w' base (.slice (some ⟨g, 0, none⟩) zs.length cap) (zs.mergeSort fun x y => decide (x ≤ y)) ∧ Only [g] w w' := by
  refine (Try.slices_Sort_int g 0 cap zs w (holds_own (α := Int) h) (own_lt h) (by omega)).mono ?_
  rintro e w' ⟨rfl, n, os, rfl⟩
  have q := putRow_own (α := Int) (Value.int .i64) h (ys := zs.mergeSort fun x y => decide (x ≤ y)) (List.length_mergeSort _) n os
  refine ⟨rfl, ?_, q.2⟩
  unfold OwnI
  rw [List.length_mergeSort]
  exact q.1
theorem reverseI_any (g cap : Nat) (zs : List Int) (w : World) (base : Nat) (h : OwnI w base (.slice (some ⟨g, 0, none⟩) zs.length cap) zs) (hl : zs.length ≤ 1000000) :
    Calls Try.prog 50 #[.slice (some ⟨g, 0, none⟩) zs.length cap] w fun e w' => e = .returned (.tuple #[]) ∧ OwnI w' base (.slice (some ⟨g, 0, none⟩) zs.length cap) zs.reverse ∧ Only [g] w w' := by
  refine (Try.slices_Reverse_int g 0 cap zs w (holds_own (α := Int) h) (by omega)).mono ?_
  rintro e w' ⟨rfl, n, rfl⟩
  have q := putRow_own (α := Int) (Value.int .i64) h (ys := zs.reverse) (List.length_reverse) n #[]
  rw [Sort.grow_empty] at q
  refine ⟨rfl, ?_, q.2⟩
  unfold OwnI
  rw [List.length_reverse]
  exact q.1
theorem ret_vbS {v : Value} {b b' : Bool} (h : b = b') : Ending.returned (.tuple #[v, .bool b]) = .returned (.tuple #[v, .bool b']) := by rw [h]
def sortD (zs : List Int) : List Int := (zs.mergeSort fun x y => decide (x ≤ y)).reverse
def spV (zs : List Int) : List Int := if ptsB zs then sortD zs else []
theorem spV_yes {zs : List Int} (h : ptsB zs = true) : spV zs = sortD zs := by unfold spV; rw [h]; rfl
theorem spV_no {zs : List Int} (h : ptsB zs = false) : spV zs = [] := by unfold spV; rw [h]; rfl
theorem spV_len (zs : List Int) : (spV zs).length ≤ 60 := by
  by_cases h : ptsB zs = true
  · rw [spV_yes h]
    unfold sortD
    rw [List.length_reverse, List.length_mergeSort]
    exact (ptsB_true h).1
  · simp only [Bool.not_eq_true] at h
    rw [spV_no h]
    simp
set_option maxHeartbeats 1000000 in
theorem specSortedPoints_any (v : Value) (zs : List Int) (w : World) (h : Ints w v zs) :
    Calls Try.prog 17 #[v] w fun e w' => ∃ v', e = .returned (.tuple #[v', .bool (ptsB zs)]) ∧ OwnI w' w.heap.size v' (spV zs) ∧ Kept w w' := by
  have H := Lib.hid h
  obtain ⟨A, c, rfl, hnc, hcm, _⟩ := h.out
  clear h
  go_enter Try.func17, Try.ntmps17
  go_wp2_with fail
  refine (poList_any _ zs _ H.out).mono ?_
  rintro e w' ⟨rfl, rfl⟩
  by_cases hb : ptsB zs = true
  case neg =>
    simp only [Bool.not_eq_true] at hb
    have HB := Lib.hid hb
    rw [hb]
    clear hb
    go_wp2_with fail
    go_ret2
    exact ⟨_, ret_vbS HB.out.symm, by rw [spV_no HB.out]; exact ⟨by simp, .inl ⟨rfl, rfl⟩⟩, Kept.refl _⟩
  have HB := Lib.hid hb
  have hl := (ptsB_true hb).1
  rw [hb]
  clear hb
  go_wp2_with fail
  refine (poSorted_any _ zs _ H.out hl).mono ?_
  rintro e w1 ⟨v1, os, rfl, o1, p1, d1, k1⟩
  have O1 := Lib.hid o1
  have E1 : Hid (spV zs = os) := Lib.hid (by rw [spV_yes HB.out]; exact (desc_is p1 d1).symm)
  clear o1 p1 d1
  go_wp2_with fail
  go_ret2
  exact ⟨_, ret_vbS HB.out.symm, by rw [E1.out]; exact O1.out, k1⟩
set_option maxHeartbeats 1000000 in
theorem implSortedPoints_any (v : Value) (zs : List Int) (w : World) (h : Ints w v zs) :
    Calls Try.prog 19 #[v] w fun e w' => ∃ v', e = .returned (.tuple #[v', .bool (ptsB zs)]) ∧ OwnI w' w.heap.size v' (spV zs) ∧ Kept w w' := by
  have H := Lib.hid h
  obtain ⟨A, c, rfl, hnc, hcm, _⟩ := h.out
  clear h
  go_enter Try.func19, Try.ntmps19
  go_wp2_with fail
  refine (isPointsList_any _ zs _ H.out).mono ?_
  rintro e w' ⟨rfl, rfl⟩
  by_cases hb : ptsB zs = true
  case neg =>
    simp only [Bool.not_eq_true] at hb
    have HB := Lib.hid hb
    rw [hb]
    clear hb
    go_wp2_with fail
    go_ret2
    exact ⟨_, ret_vbS HB.out.symm, by rw [spV_no HB.out]; exact ⟨by simp, .inl ⟨rfl, rfl⟩⟩, Kept.refl _⟩
  have HB := Lib.hid hb
  have hl := (ptsB_true hb).1
  rw [hb]
  clear hb
  go_wp2_with fail
  refine (copyIntsL_any _ zs _ H.out (by omega)).mono ?_
  rintro e w1 ⟨g, cap, rfl, o1, k1⟩
  have O1 := Lib.hid o1
  have hg1 : w.heap.size ≤ g := (own_fp o1 g (by simp [fp_some])).1
  clear o1
  go_wp2_with fail
  refine (sortI_any g cap zs w1 _ O1.out (by omega)).mono ?_
  rintro e w2 ⟨rfl, o2, on2⟩
  have k2 := on2.above k1 (fun b hb => by rw [List.mem_singleton] at hb; subst hb; exact hg1)
  have hl2 : (zs.mergeSort fun x y => decide (x ≤ y)).length = zs.length := List.length_mergeSort _
  have O2 : Hid (OwnI w2 w.heap.size (.slice (some ⟨g, 0, none⟩) (zs.mergeSort fun x y => decide (x ≤ y)).length cap) (zs.mergeSort fun x y => decide (x ≤ y))) := Lib.hid (by rw [hl2]; exact o2)
  have c3 := reverseI_any g cap (zs.mergeSort fun x y => decide (x ≤ y)) w2 _ O2.out (by omega)
  rw [hl2] at c3
  have C3 := Lib.hid c3
  have HL2 := Lib.hid hl2
  clear o2 on2 hl2 c3
  go_wp2_with fail
  refine (C3.out).mono ?_
  rintro e w3 ⟨rfl, o3, on3⟩
  have k3 := on3.above k2 (fun b hb => by rw [List.mem_singleton] at hb; subst hb; exact hg1)
  have O3 := Lib.hid o3
  clear o3 on3
  go_wp2_with fail
  go_ret2
  exact ⟨_, ret_vbS HB.out.symm, by rw [spV_yes HB.out]; exact O3.out, k3⟩
end Go.Proofs.Ytpkmngkepmoikaa

/- Points: SortedPoints, the law. -/
namespace Go.Proofs.Ytpkmngkepmoikaa
set_option linter.unusedVariables false
set_option linter.unusedSimpArgs false
open Go.RowKit

set_option maxHeartbeats 4000000 in
theorem lawSortedPoints_any {w : World} {v0 : Value} (z0 : List Int) (h0 : Ints w v0 z0) :
    Calls Try.prog 4 #[v0] w fun e w' => e = .returned (.bool true) ∧ Kept w w' := by
  have H0 := Lib.hid h0
  obtain ⟨A0, c0, rfl, hnc0, hcm0, _⟩ := h0.out
  unfold maxLen at hcm0
  clear h0
  go_enter Try.func4, Try.ntmps4
  have K0 := Kept.refl w
  by_cases hbig0 : z0.length ≤ 1048576
  case neg =>
    go_wp2_with fail
    go_ret
    first | exact ⟨rfl, K0⟩ | exact ⟨rfl, K0.alloc _⟩ | exact ⟨rfl, (K0.alloc _).alloc _⟩
  have hX := spV_len z0
  go_wp2_with fail
  refine (toIntS_any _ z0 _ (H0.out.kept K0) (by omega)).mono ?_
  rintro e w1 ⟨u1, rfl, o1, k1⟩
  have sz1 := k1.size
  have K1 := K0.trans k1
  have R1 := Lib.hid o1.ints
  clear o1
  go_wp2_with fail
  refine (specSortedPoints_any _ z0 _ R1.out).mono ?_
  rintro e w2 ⟨u2, rfl, o2, k2⟩
  replace R1 := Lib.hid (R1.out.kept k2)
  have sz2 := k2.size
  have K2 := K1.trans k2
  clear R1
  have RS := Lib.hid o2.ints
  clear o2
  have KS := Kept.refl w2
  go_wp2_with fail
  refine (toIntS_any _ z0 _ (H0.out.kept K2) (by omega)).mono ?_
  rintro e w3 ⟨u3, rfl, o3, k3⟩
  replace KS := KS.trans k3
  have sz3 := k3.size
  have K3 := K2.trans k3
  have F3 := Lib.hid (own_fp o3)
  have O3 := Lib.hid o3
  clear o3
  go_wp2_with fail
  refine (implSortedPoints_any _ z0 _ O3.out.ints).mono ?_
  rintro e w4 ⟨u4, rfl, o4, k4⟩
  replace O3 := Lib.hid (O3.out.kept k4)
  replace KS := KS.trans k4
  have sz4 := k4.size
  have K4 := K3.trans k4
  have F4 := Lib.hid (own_fp o4)
  have O4 := Lib.hid o4
  clear o4
  go_wp2_with fail
  refine (eqIntS_any _ _ (spV z0) (spV z0) _ O4.out.ints (RS.out.kept KS)).mono ?_
  rintro e w5 ⟨rfl, k5⟩
  replace O3 := Lib.hid (O3.out.kept k5)
  replace O4 := Lib.hid (O4.out.kept k5)
  replace KS := KS.trans k5
  have sz5 := k5.size
  have K5 := K4.trans k5
  rw [show decide (spV z0 = spV z0) = true from by simp]
  go_wp2_with fail
  refine (toIntS_any _ z0 _ (H0.out.kept K5) (by omega)).mono ?_
  rintro e w6 ⟨u6, rfl, o6, k6⟩
  replace O3 := Lib.hid (O3.out.kept k6)
  replace O4 := Lib.hid (O4.out.kept k6)
  replace KS := KS.trans k6
  have sz6 := k6.size
  have K6 := K5.trans k6
  have R6 := Lib.hid o6.ints
  clear o6
  go_wp2_with fail
  refine (eqIntS_any _ _ (z0) (z0) _ O3.out.ints R6.out).mono ?_
  rintro e w7 ⟨rfl, k7⟩
  replace R6 := Lib.hid (R6.out.kept k7)
  replace O3 := Lib.hid (O3.out.kept k7)
  replace O4 := Lib.hid (O4.out.kept k7)
  replace KS := KS.trans k7
  have sz7 := k7.size
  have K7 := K6.trans k7
  rw [show decide (z0 = z0) = true from by simp]
  clear R6
  go_wp2_with fail
  refine (markIntS_any _ z0 _ _ _ O3.out (by omega) (by omega) (by omega)).mono ?_
  rintro e w8 ⟨rfl, o8, on8⟩
  have sz8 := on8.size
  replace O4 := Lib.hid (O4.out.only on8 (fun b hb hb' => by have := F4.out b hb; have := F3.out b hb'; omega))
  replace KS := on8.above KS (fun b hb => by have := F3.out b hb; omega)
  have K8 := on8.above K7 (fun b hb => by have := F3.out b hb; omega)
  replace O3 := Lib.hid o8
  clear o8 on8
  go_wp2_with fail
  refine (eqIntS_any _ _ (spV z0) (spV z0) _ O4.out.ints (RS.out.kept KS)).mono ?_
  rintro e w9 ⟨rfl, k9⟩
  replace O3 := Lib.hid (O3.out.kept k9)
  replace O4 := Lib.hid (O4.out.kept k9)
  replace KS := KS.trans k9
  have sz9 := k9.size
  have K9 := K8.trans k9
  rw [show decide (spV z0 = spV z0) = true from by simp]
  go_wp2_with fail
  refine (markIntS_any _ (spV z0) _ _ _ O4.out (by omega) (by omega) (by omega)).mono ?_
  rintro e w10 ⟨rfl, o10, on10⟩
  have sz10 := on10.size
  replace O3 := Lib.hid (O3.out.only on10 (fun b hb hb' => by have := F3.out b hb; have := F4.out b hb'; omega))
  replace KS := on10.above KS (fun b hb => by have := F4.out b hb; omega)
  have K10 := on10.above K9 (fun b hb => by have := F4.out b hb; omega)
  replace O4 := Lib.hid o10
  clear o10 on10
  go_wp2_with fail
  refine (heldIntS_any _ _ ((spV z0)).length _ O4.out.ints (by omega) (by omega) (by omega)).mono ?_
  rintro e w11 ⟨rfl, k11⟩
  replace k11 := kept_of k11
  replace O3 := Lib.hid (O3.out.kept k11)
  replace O4 := Lib.hid (O4.out.kept k11)
  replace KS := KS.trans k11
  have sz11 := k11.size
  have K11 := K10.trans k11
  go_wp2_with fail
  refine (toIntS_any _ z0 _ (H0.out.kept K11) (by omega)).mono ?_
  rintro e w12 ⟨u12, rfl, o12, k12⟩
  replace O3 := Lib.hid (O3.out.kept k12)
  replace O4 := Lib.hid (O4.out.kept k12)
  replace KS := KS.trans k12
  have sz12 := k12.size
  have K12 := K11.trans k12
  have R12 := Lib.hid o12.ints
  clear o12
  go_wp2_with fail
  refine (implSortedPoints_any _ z0 _ R12.out).mono ?_
  rintro e w13 ⟨u13, rfl, o13, k13⟩
  replace R12 := Lib.hid (R12.out.kept k13)
  replace O3 := Lib.hid (O3.out.kept k13)
  replace O4 := Lib.hid (O4.out.kept k13)
  replace KS := KS.trans k13
  have sz13 := k13.size
  have K13 := K12.trans k13
  clear R12
  have RH := Lib.hid o13.ints
  clear o13
  go_wp2_with fail
  refine (eqIntS_any _ _ (spV z0) (spV z0) _ RH.out (RS.out.kept KS)).mono ?_
  rintro e w14 ⟨rfl, k14⟩
  replace RH := Lib.hid (RH.out.kept k14)
  replace O3 := Lib.hid (O3.out.kept k14)
  replace O4 := Lib.hid (O4.out.kept k14)
  replace KS := KS.trans k14
  have sz14 := k14.size
  have K14 := K13.trans k14
  rw [show decide (spV z0 = spV z0) = true from by simp]
  go_wp2_with fail
  refine (heldIntS_any _ _ ((spV z0)).length _ O4.out.ints (by omega) (by omega) (by omega)).mono ?_
  rintro e w15 ⟨rfl, k15⟩
  replace k15 := kept_of k15
  replace RH := Lib.hid (RH.out.kept k15)
  replace O3 := Lib.hid (O3.out.kept k15)
  replace O4 := Lib.hid (O4.out.kept k15)
  replace KS := KS.trans k15
  have sz15 := k15.size
  have K15 := K14.trans k15
  go_wp2_with fail
  go_ret
  exact ⟨rfl, K15⟩
end Go.Proofs.Ytpkmngkepmoikaa

/- Arguments opened: a slice of integers. -/
namespace Go.Proofs.Ytpkmngkepmoikaa
set_option linter.unusedVariables false
set_option linter.unusedSimpArgs false
set_option maxRecDepth 100000
open Go.ChangeShapes Go.WideShapes Go.ChangeAt Go.RowKit

theorem block_lt {w : World} {a : Addr} {v : Value} (h : w.cell? a = some v) : a.block < w.heap.size := by
  rcases Nat.lt_or_ge a.block w.heap.size with hlt | hge
  · exact hlt
  · unfold World.cell? at h
    rw [Array.getElem?_eq_none hge] at h
    cases h
theorem add_at {b o : Nat} (i : Nat) : (⟨b, o, none⟩ : Addr).add i = ⟨b, o + i, none⟩ := by
  unfold Addr.add
  split <;> simp_all
theorem spot_of {w : World} {x : Addr} {u : Value} (h : w.cell? (x.add 0) = some u) : ∃ b o, x = ⟨b, o, none⟩ := by
  obtain ⟨b, o, s⟩ := x
  have hs : s = none := by simpa [Addr.add] using World.cell?_spot h
  exact ⟨b, o, by rw [hs]⟩
theorem seq_of_cells {w : World} {x : Addr} {len cap size : Nat} {xs : List Value} (hl : len ≤ cap) (hm : cap ≤ maxLen) (hlen : xs.length = len * size) (hsz : 0 < size) (h : ∀ j u, xs[j]? = some u → w.cell? (x.add j) = some u) : Seq w (.slice (some x) len cap) len xs := by
  refine ⟨_, cap, rfl, hl, hm, (fun h => by cases h), fun hn => ?_⟩
  have h0 : 0 < xs.length := by rw [hlen]; exact Nat.mul_pos hn hsz
  obtain ⟨b, o, rfl⟩ := spot_of (h 0 _ (List.getElem?_eq_getElem h0))
  have hc := h 0 _ (List.getElem?_eq_getElem h0)
  refine ⟨b, o, rfl, ?_, fun j u hu => by rw [← add_at]; exact h j u hu⟩
  rw [add_at] at hc
  exact block_lt hc
section
variable {H : Type} {enc : TypeId × Value → H} {W : World} {r : Reach} {b0 base : Nat} {spare : Nat → Bool} {held : Bool} {v : Value} {d : DataW H} {p : List MemPlace} {x : DataW H × List MemPlace}
theorem ints_of_trod {fuel : Nat} (hf : DataW.trod enc Try.prog W base spare held fuel 23 [v] = some x) : ∃ zs, Ints W v zs := by
  rcases open_ints Try.underlying23 Try.underlying3 (by kernel_rfl) hf with ⟨hcs, _⟩ | ⟨ad, len0, cap0, zs, hcs, _, hl, hm, hz, _, hcell, hwz⟩
  · simp at hcs
    subst hcs
    exact ⟨[], Seq.nil _⟩
  · simp at hcs
    subst hcs
    have hge : len0 ≤ zs.length := by rw [hz]; split <;> omega
    refine ⟨zs.take len0, ?_⟩
    have hlen : (zs.take len0).length = len0 := by rw [List.length_take]; omega
    have hS := seq_of_cells (w := W) (x := ad) (len := len0) (cap := cap0) (size := 1) (xs := (zs.take len0).map (Value.int .i64)) hl hm (by rw [List.length_map, hlen]; omega) (by omega) (fun j u hu => by
      rw [List.getElem?_map] at hu
      obtain ⟨z, hz1, rfl⟩ := Option.map_eq_some_iff.1 hu
      have hj : j < len0 := by
        have := (List.getElem?_eq_some_iff.1 hz1).1
        rw [hlen] at this
        exact this
      rw [List.getElem?_take_of_lt hj] at hz1
      have := hcell j (by omega)
      rw [List.getD_eq_getElem?_getD, hz1] at this
      exact this)
    unfold Ints
    rw [hlen]
    exact hS
theorem open_I (hv : Value.okWide Try.prog W r b0 23 v) (h : DataW.Trod enc Try.prog W base spare held 23 v d p) : ∃ zs, Ints W v zs := by
  obtain ⟨a0, len0, cap0, rfl⟩ := okWide_slice Try.underlying23 hv
  obtain ⟨fuel, hf⟩ := h
  exact ints_of_trod hf
end
end Go.Proofs.Ytpkmngkepmoikaa
