/- Contracts of functions that the proof leans on. No condition. -/
import Derived.Test.YtldinfdbkffdpaaGreatDoorMd28646e00f
import Derived.Sort.Walk0
import Derived.Lib.SlicesCompact
import Derived.Lib.Strings
import Derived.Below
import Derived.Shelf.Sort.Plain
import Derived.Shelf.Slices.CompactS
import Derived.Test.YtldinfdbkffdpaaGreatDoorShelf
import Derived.Deep.RegionHeld3
import Derived.Deep.DeepCutAuto
/- Contracts of chapter 1: percents. -/
namespace Go.Proofs.YtldinfdbkffdpaaGreatDoor
set_option linter.unusedVariables false
set_option linter.unusedSimpArgs false
open Go.RowKit

def pctIn (n percent mode : Int) : Bool := inB n (-1000000) 1000000 && inB percent 0 1000 && inB mode (-1) 1
def pctOk (n percent mode : Int) : Bool := pctIn n percent mode && inB (poMd (n * percent) 100 mode) (-1000000) 1000000
def pctV (n percent mode : Int) : Int := if pctOk n percent mode then poMd (n * percent) 100 mode else 0
theorem pct_bd {n percent : Int} (h1 : inB n (-1000000) 1000000 = true) (h2 : inB percent 0 1000 = true) : -1000000000 ≤ n * percent ∧ n * percent ≤ 1000000000 := by
  have q1 := inB_true h1
  have q2 := inB_true h2
  have := mul_bd (a := n) (d := percent) (A := 1000000) (D := 1000) (by omega) (by omega) (by omega) (by omega)
  omega
theorem specPercent_any (n percent mode : Int) (w : World) :
    Calls Tryz.prog 20 #[.int .i64 n, .int .i64 percent, .int .i64 mode] w fun e w' => e = .returned (.tuple #[.int .i64 (pctV n percent mode), .bool (pctOk n percent mode)]) ∧ Kept w w' := by
  by_cases h1 : inB n (-1000000) 1000000 = true <;> by_cases h2 : inB percent 0 1000 = true <;> by_cases h3 : inB mode (-1) 1 = true
  · obtain ⟨q1, q2⟩ := pct_bd h1 h2
    by_cases h4 : inB (poMd (n * percent) 100 mode) (-1000000) 1000000 = true
    all_goals
      try simp only [Bool.not_eq_true] at h4
      go_enter Tryz.func20, Tryz.ntmps20
      go_wp2_with (first | (go_at_call 28; refine (poGood_any _ _).mono ?_; rintro e w' ⟨rfl, rfl⟩) | (go_at_call 49; refine (l1In_any _ _ _ _).mono ?_; rintro e w' ⟨rfl, rfl⟩) | (go_at_call 50; refine (poIsMode_any _ _).mono ?_; rintro e w' ⟨rfl, rfl⟩) | (go_at_call 51; refine (poMode_any _ _ _ _ (by omega) (by omega) (by omega) (by omega) h3).mono ?_; rintro e w' ⟨rfl, rfl⟩))
      go_ret2
      exact ⟨by simp [pctV, pctOk, pctIn, h1, h2, h3, h4], Kept.refl _⟩
  all_goals
    simp only [Bool.not_eq_true] at *
    go_enter Tryz.func20, Tryz.ntmps20
    go_wp2_with (first | (go_at_call 28; refine (poGood_any _ _).mono ?_; rintro e w' ⟨rfl, rfl⟩) | (go_at_call 49; refine (l1In_any _ _ _ _).mono ?_; rintro e w' ⟨rfl, rfl⟩) | (go_at_call 50; refine (poIsMode_any _ _).mono ?_; rintro e w' ⟨rfl, rfl⟩))
    go_ret2
    exact ⟨by simp [pctV, pctOk, pctIn, h1, h2, h3], Kept.refl _⟩
theorem all_one (x lo hi : Int) : [x].all (inB · lo hi) = inB x lo hi := by simp
theorem implPercent_any (n percent mode : Int) (w : World) :
    Calls Tryz.prog 19 #[.int .i64 n, .int .i64 percent, .int .i64 mode] w fun e w' => e = .returned (.tuple #[.int .i64 (pctV n percent mode), .bool (pctOk n percent mode)]) ∧ Kept w w' := by
  by_cases h1 : inB n (-1000000) 1000000 = true <;> by_cases h2 : inB percent 0 1000 = true <;> by_cases h3 : inB mode (-1) 1 = true
  · obtain ⟨q1, q2⟩ := pct_bd h1 h2
    by_cases h4 : inB (poMd (n * percent) 100 mode) (-1000000) 1000000 = true
    all_goals
      try simp only [Bool.not_eq_true] at h4
      go_enter Tryz.func19, Tryz.ntmps19
      go_wp2_with (first | (go_at_call 26; refine (arePoints_any _ [_] _ (ints_new _ _ (by simp) _ _)).mono ?_; rintro e w' ⟨rfl, rfl⟩; rw [all_one]) | (go_at_call 46; refine (within_any _ _ _ _).mono ?_; rintro e w' ⟨rfl, rfl⟩) | (go_at_call 47; refine (isMode_any _ _).mono ?_; rintro e w' ⟨rfl, rfl⟩) | (go_at_call 48; refine (roundPart_any _ _ _ _ (by omega) (by omega) (by omega) (by omega) h3).mono ?_; rintro e w' ⟨rfl, rfl⟩))
      go_ret2
      exact ⟨by simp [pctV, pctOk, pctIn, h1, h2, h3, h4], by repeat (first | exact Kept.refl _ | apply Kept.alloc)⟩
  all_goals
    simp only [Bool.not_eq_true] at *
    go_enter Tryz.func19, Tryz.ntmps19
    go_wp2_with (first | (go_at_call 26; refine (arePoints_any _ [_] _ (ints_new _ _ (by simp) _ _)).mono ?_; rintro e w' ⟨rfl, rfl⟩; rw [all_one]) | (go_at_call 46; refine (within_any _ _ _ _).mono ?_; rintro e w' ⟨rfl, rfl⟩) | (go_at_call 47; refine (isMode_any _ _).mono ?_; rintro e w' ⟨rfl, rfl⟩))
    go_ret2
    exact ⟨by simp [pctV, pctOk, pctIn, h1, h2, h3], (Kept.refl _).alloc _⟩
end Go.Proofs.YtldinfdbkffdpaaGreatDoor

/- Plain facts on sorted lists of names. -/
namespace Go.Proofs.YtldinfdbkffdpaaGreatDoor
set_option linter.unusedVariables false
set_option linter.unusedSimpArgs false
open Go.Lib

abbrev LB := List UInt8
theorem lb_irrefl (a : LB) : ¬ a < a := List.lt_irrefl a
theorem lb_trans {a b c : LB} (h1 : a < b) (h2 : b < c) : a < c := List.lt_trans h1 h2
theorem lb_tri {a b : LB} (h1 : ¬ a < b) (h2 : ¬ b < a) : a = b := List.le_antisymm h2 h1
theorem lb_lt_of {a b c : LB} (h1 : ¬ b < a) (h2 : b < c) : a < c := List.lt_of_le_of_lt h1 h2
def SL (l : List LB) : Prop := l.Pairwise (· < ·)
theorem sl_unique : ∀ (l m : List LB), SL l → SL m → (∀ x, x ∈ l ↔ x ∈ m) → l = m
  | [], [], _, _, _ => rfl
  | [], y :: m, _, _, h => absurd ((h y).2 (by simp)) (by simp)
  | x :: l, [], _, _, h => absurd ((h x).1 (by simp)) (by simp)
  | x :: l, y :: m, hl, hm, h => by
    have hl' := List.pairwise_cons.1 hl
    have hm' := List.pairwise_cons.1 hm
    have e : x = y := by
      rcases List.mem_cons.1 ((h x).1 (by simp)) with e | e
      · exact e
      · rcases List.mem_cons.1 ((h y).2 (by simp)) with e2 | e2
        · exact e2.symm
        · exact absurd (lb_trans (hm'.1 x e) (hl'.1 y e2)) (lb_irrefl _)
    subst e
    rw [sl_unique l m hl'.2 hm'.2 (fun z => ⟨fun hz => ?_, fun hz => ?_⟩)]
    · rcases List.mem_cons.1 ((h z).1 (by simp [hz])) with e | e
      · subst e; exact absurd (hl'.1 _ hz) (lb_irrefl _)
      · exact e
    · rcases List.mem_cons.1 ((h z).2 (by simp [hz])) with e | e
      · subst e; exact absurd (hm'.1 _ hz) (lb_irrefl _)
      · exact e
def sortL (zs : List LB) : List LB := zs.mergeSort fun x y => decide (x ≤ y)
theorem sortL_le (zs : List LB) : (sortL zs).Pairwise fun x y => ¬ y < x := by
  have h := List.pairwise_mergeSort (le := fun x y : LB => decide (x ≤ y)) (by intro a b c h1 h2; simp at *; exact List.le_trans h1 h2) (by intro a b; simp; exact List.le_total a b) zs
  exact h.imp (by intro a b h; simpa using h)
theorem compact_upto {d : Array LB} (hd : ∀ i j, i ≤ j → j < d.size → ¬ d[j]! < d[i]!) : ∀ m, m ≤ d.size → SL (compactUpTo d m) ∧ (∀ x, x ∈ compactUpTo d m ↔ ∃ j, j < m ∧ d[j]! = x)
  | 0, _ => ⟨by simp [compactUpTo, SL], fun x => by simp [compactUpTo]⟩
  | m + 1, hm => by
    obtain ⟨h1, h2⟩ := compact_upto hd m (by omega)
    rw [compactUpTo_succ]
    by_cases hk : keeps d m = true
    · rw [if_pos hk]
      refine ⟨?_, fun x => ?_⟩
      · unfold SL
        rw [List.pairwise_append]
        refine ⟨h1, List.pairwise_singleton _ _, fun a ha b hb => ?_⟩
        rw [List.mem_singleton] at hb
        subst hb
        obtain ⟨j, hj, rfl⟩ := (h2 a).1 ha
        have hm0 : m ≠ 0 := by omega
        have hne : d[m]! ≠ d[m - 1]! := by
          have := hk
          unfold keeps at this
          simp only [decide_eq_true_eq] at this
          rcases this with e | e
          · exact absurd e hm0
          · exact e
        have hlt : d[m - 1]! < d[m]! := by
          by_cases hx : d[m - 1]! < d[m]!
          · exact hx
          · exact absurd (lb_tri (hd (m - 1) m (by omega) (by omega)) hx) hne
        exact lb_lt_of (hd j (m - 1) (by omega) (by omega)) hlt
      · rw [List.mem_append, List.mem_singleton, h2]
        refine ⟨fun h => ?_, fun ⟨j, hj, e⟩ => ?_⟩
        · rcases h with ⟨j, hj, e⟩ | e
          · exact ⟨j, by omega, e⟩
          · exact ⟨m, by omega, e.symm⟩
        · rcases Nat.lt_or_eq_of_le (Nat.le_of_lt_succ hj) with h | h
          · exact .inl ⟨j, h, e⟩
          · subst h; exact .inr e.symm
    · rw [if_neg hk, List.append_nil]
      refine ⟨h1, fun x => ?_⟩
      rw [h2]
      refine ⟨fun ⟨j, hj, e⟩ => ⟨j, by omega, e⟩, fun ⟨j, hj, e⟩ => ?_⟩
      rcases Nat.lt_or_eq_of_le (Nat.le_of_lt_succ hj) with h | h
      · exact ⟨j, h, e⟩
      · subst h
        unfold keeps at hk
        simp only [decide_eq_true_eq, not_or] at hk
        exact ⟨j - 1, by omega, (Decidable.not_not.1 hk.2).symm.trans e⟩
theorem compact_sort (zs : List LB) : SL (compact (sortL zs)) ∧ ∀ x, x ∈ compact (sortL zs) ↔ x ∈ zs := by
  have hp := sortL_le zs
  have hd : ∀ i j, i ≤ j → j < (sortL zs).toArray.size → ¬ (sortL zs).toArray[j]! < (sortL zs).toArray[i]! := by
    intro i j hij hj
    have hj' : j < (sortL zs).length := by simpa using hj
    have hi' : i < (sortL zs).length := by omega
    rw [getElem!_pos (sortL zs).toArray j hj, getElem!_pos (sortL zs).toArray i (by simpa using hi')]
    rcases Nat.lt_or_eq_of_le hij with h | h
    · exact List.pairwise_iff_getElem.1 hp i j hi' hj' h
    · subst h; exact lb_irrefl _
  obtain ⟨h1, h2⟩ := compact_upto hd _ (Nat.le_refl _)
  refine ⟨h1, fun x => ?_⟩
  have h3 := h2 x
  have e : compact (sortL zs) = compactUpTo (sortL zs).toArray (sortL zs).toArray.size := rfl
  rw [e, h3]
  have hmem : x ∈ sortL zs ↔ x ∈ zs := (List.mergeSort_perm _ _).mem_iff
  rw [← hmem]
  refine ⟨fun ⟨j, hj, e⟩ => ?_, fun h => ?_⟩
  · have hj' : j < (sortL zs).length := by simpa using hj
    rw [getElem!_pos _ j hj] at e
    subst e
    exact List.getElem_mem hj'
  · obtain ⟨j, hj, e⟩ := List.getElem_of_mem h
    refine ⟨j, by simpa using hj, ?_⟩
    rw [getElem!_pos _ j (by simpa using hj)]
    exact e

/-! ### in the program's own strings -/
def bl (z : ByteArray) : LB := z.data.toList
def bs (l : LB) : ByteArray := ⟨l.toArray⟩
theorem bs_bl (z : ByteArray) : bs (bl z) = z := mk_data z
theorem bl_bs (l : LB) : bl (bs l) = l := rfl
theorem bl_inj {x y : ByteArray} (h : bl x = bl y) : x = y := by rw [← bs_bl x, ← bs_bl y, h]
def namesD (zs : List ByteArray) : List ByteArray := (compact (sortL (zs.map bl))).map bs
/-- strictly increasing, with just the strings of zs -/
def IsNames (os zs : List ByteArray) : Prop := SL (os.map bl) ∧ ∀ x, x ∈ os ↔ x ∈ zs
theorem isNames_eq {os zs : List ByteArray} (h : IsNames os zs) : os = namesD zs := by
  obtain ⟨h1, h2⟩ := h
  obtain ⟨c1, c2⟩ := compact_sort (zs.map bl)
  have e : os.map bl = compact (sortL (zs.map bl)) := by
    refine sl_unique _ _ h1 c1 fun x => ?_
    rw [c2, List.mem_map, List.mem_map]
    exact ⟨fun ⟨y, hy, e⟩ => ⟨y, (h2 y).1 hy, e⟩, fun ⟨y, hy, e⟩ => ⟨y, (h2 y).2 hy, e⟩⟩
  unfold namesD
  rw [← e, List.map_map]
  conv => lhs; rw [← List.map_id os]
  exact List.map_congr_left fun x _ => (bs_bl x).symm
theorem names_mem {zs : List ByteArray} {x : ByteArray} (h : x ∈ namesD zs) : x ∈ zs := by
  unfold namesD at h
  obtain ⟨l, hl, rfl⟩ := List.mem_map.1 h
  obtain ⟨y, hy, e⟩ := List.mem_map.1 (((compact_sort (zs.map bl)).2 l).1 hl)
  subst e
  rw [bs_bl]
  exact hy
def nlt (x y : ByteArray) : Bool := Op.bytesLess x.toList y.toList
theorem nlt_iff (x y : ByteArray) : nlt x y = true ↔ bl x < bl y := by
  unfold nlt
  rw [bytesLess_eq, toList_data, toList_data]
  simp [bl]
theorem isNames_in {os zs : List ByteArray} {n : ByteArray} (h : IsNames os zs) (hn : n ∈ os) : IsNames os (zs ++ [n]) :=
  ⟨h.1, fun x => by rw [h.2, List.mem_append, List.mem_singleton]; exact ⟨.inl, fun e => e.elim id (fun e => e ▸ (h.2 n).1 hn)⟩⟩
theorem isNames_ins {os zs : List ByteArray} {n : ByteArray} {k : Nat} (h : IsNames os zs) (hk : k ≤ os.length) (h1 : ∀ j x, j < k → os[j]? = some x → nlt x n = true) (h2 : ∀ x, os[k]? = some x → nlt x n = false ∧ x ≠ n) : IsNames (os.take k ++ n :: os.drop k) (zs ++ [n]) := by
  obtain ⟨hs, hm⟩ := h
  have hafter : ∀ y ∈ os.drop k, bl n < bl y := by
    intro y hy
    obtain ⟨j, hj⟩ := List.getElem?_of_mem hy
    rw [List.getElem?_drop] at hj
    have hlt := (List.getElem?_eq_some_iff.1 hj).1
    have hk' : k < os.length := by omega
    have hk1 : os[k]? = some os[k] := List.getElem?_eq_getElem hk'
    obtain ⟨ha, hb⟩ := h2 _ hk1
    have hnk : bl n < bl os[k] := by
      by_cases hx : bl n < bl os[k]
      · exact hx
      · have hy : ¬ bl os[k] < bl n := fun hc => by rw [(nlt_iff _ _).2 hc] at ha; cases ha
        exact absurd (bl_inj (lb_tri hy hx)) hb
    cases j with
    | zero =>
      rw [Nat.add_zero, hk1] at hj
      injection hj with hj
      subst hj
      exact hnk
    | succ j =>
      have hp := List.pairwise_iff_getElem.1 hs k (k + (j + 1)) (by simpa using hk') (by simpa using hlt) (by omega)
      have e := (List.getElem?_eq_some_iff.1 hj).2
      simp only [List.getElem_map] at hp
      rw [e] at hp
      exact lb_trans hnk hp
  refine ⟨?_, fun x => ?_⟩
  · rw [List.map_append, List.map_cons]
    unfold SL
    rw [List.pairwise_append]
    refine ⟨?_, ?_, ?_⟩
    · rw [List.map_take]; exact hs.sublist (List.take_sublist _ _)
    · rw [List.pairwise_cons]
      refine ⟨fun y hy => ?_, ?_⟩
      · obtain ⟨z, hz, rfl⟩ := List.mem_map.1 hy
        exact hafter z hz
      · rw [List.map_drop]; exact hs.sublist (List.drop_sublist _ _)
    · intro a ha b hb
      obtain ⟨x, hx, rfl⟩ := List.mem_map.1 ha
      obtain ⟨i, hi⟩ := List.getElem?_of_mem hx
      have hik : i < k := by
        have := (List.getElem?_eq_some_iff.1 hi).1
        rw [List.length_take] at this
        omega
      rw [List.getElem?_take_of_lt hik] at hi
      have hxn := (nlt_iff _ _).1 (h1 i x hik hi)
      rcases List.mem_cons.1 hb with e | e
      · subst e; exact hxn
      · obtain ⟨z, hz, rfl⟩ := List.mem_map.1 e
        exact lb_trans hxn (hafter z hz)
  · have e : x ∈ os.take k ++ n :: os.drop k ↔ x ∈ os ∨ x = n := by
      rw [List.mem_append, List.mem_cons]
      conv => rhs; rw [← List.take_append_drop k os, List.mem_append]
      constructor
      · rintro (h | h | h)
        · exact .inl (.inl h)
        · exact .inr h
        · exact .inl (.inr h)
      · rintro ((h | h) | h)
        · exact .inl h
        · exact .inr (.inr h)
        · exact .inr (.inl h)
    rw [e, hm, List.mem_append, List.mem_singleton]
theorem isNames_nil : IsNames [] [] := ⟨List.Pairwise.nil, fun _ => Iff.rfl⟩
end Go.Proofs.YtldinfdbkffdpaaGreatDoor

/- Items: slices.Sort and slices.Compact at rows of strings; NamesIn, both sides. -/
namespace Go.Proofs.YtldinfdbkffdpaaGreatDoor
set_option linter.unusedVariables false
set_option linter.unusedSimpArgs false
open Go.RowKit Go.Lib Go.Sort

theorem ownS_cases {w : World} {base : Nat} {v : Value} {zs : List ByteArray} (h : OwnS w base v zs) : (v = .slice none 0 0 ∧ zs = []) ∨ ∃ g cap, v = .slice (some ⟨g, 0, none⟩) zs.length cap ∧ zs.length ≤ cap ∧ cap ≤ maxLen := by
  rcases h.1.2 with ⟨e1, e2⟩ | ⟨g, cap, cur, e1, _, _, e4, e5, _⟩
  · exact .inl ⟨e1, List.eq_nil_of_length_eq_zero e2⟩
  · exact .inr ⟨g, cap, e1, e4, e5⟩
theorem own_shrink {w : World} {base g cap n m : Nat} {e : TypeId} {xs : List Value} (h : w.ownsRow base e 1 (.slice (some ⟨g, 0, none⟩) n cap) n xs) (hm : m ≤ n) : w.ownsRow base e 1 (.slice (some ⟨g, 0, none⟩) m cap) m (xs.take m) := by
  obtain ⟨hl, h2⟩ := h
  rcases h2 with ⟨e1, _⟩ | ⟨g', cap', cur, e1, hb, hg, hnc, hcm, hcs, ht⟩
  · cases e1
  · injection e1 with e1 e2 e3
    injection e1 with e1
    injection e1 with e1
    subst e1 e3
    refine ⟨by rw [List.length_take, hl]; omega, .inr ⟨g, cap, cur, rfl, hb, hg, by omega, hcm, hcs, ?_⟩⟩
    rw [← ht, List.take_take]
    congr 1
    omega
theorem enc_bl (zs : List ByteArray) : (zs.map bl).map encStr = zs.map Value.string := by
  rw [List.map_map]
  exact List.map_congr_left fun z _ => congrArg Value.string (bs_bl z)
theorem enc_bs (ls : List LB) : ls.map encStr = (ls.map bs).map Value.string := by
  rw [List.map_map]
  rfl
theorem names_len {zs : List LB} : (compact zs).length ≤ zs.length := by
  unfold compact compactUpTo
  rw [List.length_map]
  exact Nat.le_trans (List.length_filter_le _ _) (by simp)
theorem ret_vbN {v : Value} {b b' : Bool} (h : b = b') : Ending.returned (.tuple #[v, .bool b]) = .returned (.tuple #[v, .bool b']) := by rw [h]
theorem nilS (w : World) (base : Nat) : OwnS w base (.slice none 0 0) [] := ⟨⟨by simp, .inl ⟨rfl, rfl⟩⟩, fun _ h => by cases h⟩
theorem OwnS.base {w : World} {base base' : Nat} {v : Value} {zs : List ByteArray} (h : OwnS w base v zs) (hb : base' ≤ base) : OwnS w base' v zs := ⟨own_base h.1 hb, h.2⟩
theorem Only.above' {g : Nat} {a0 a b : World} (h : Only [g] a b) (k : Kept a0 a) (hg : a0.heap.size ≤ g) : Kept a0 b :=
  h.above k (fun x hx => by rw [List.mem_singleton] at hx; subst hx; exact hg)
set_option maxRecDepth 100000 in
theorem wpList_append_SL (w : World) {ops : Array Oper} {rest : List Oper} {o : Oper} {a : Act} {Q : Exit → Act → World → Prop} (hgd : o.guard = none) (s x : Operand)
    (ho : o.op = .call { callee := .builtin .append, args := #[s, x], argTypes := #[57, 57] })
    (base : Nat) (v : Value) (zs : List ByteArray) (hs : a.eval s = v) (hown : OwnS w base v zs) (u : Value) (ys : List ByteArray) (hx : a.eval x = u) (hr : Strs w u ys)
    (hl : zs.length + ys.length ≤ 16777216) (hbase : base ≤ w.heap.size)
    (h : ∀ v' w', OwnS w' base v' (zs ++ ys) → w.grownBy w' v.ownBlock → (v.ownBlock ≠ none → v'.ownBlock ≠ none) → wpList Tryz.prog ops Q rest (a.put o.dst v') w') : wpList Tryz.prog ops Q (o :: rest) a w := by
  refine wpList_plain hgd fun K hK => ?_
  obtain ⟨i0, hi, hz0, hz1, hz2⟩ := info_parts info_str
  obtain ⟨v', w', hrun, h2, h3, h4⟩ := run_append_locG (P := Tryz.prog) w base 57 o.type 9 i0 _ 1 16 Tryz.underlying57 hi hz0 hz1 hz2 rfl (by omega) v zs.length _ hown.1 u ys.length (ys.map Value.string) hr.1 (by simp) (fun y hy => by obtain ⟨_, _, rfl⟩ := List.mem_map.1 hy; rfl) (by unfold maxLen; omega) (by omega) hbase
  unfold Oper.wp execOp
  simp only [ho, resolve, invoke, builtin, Sem.run_bind, Sem.run_pure, Result.andThen_ok, List.map_toArray, List.map_cons, List.map_nil, hs, hx, hrun]
  refine hK _ _ (h v' w' ?_ h3 (fun hv => ?_))
  · refine ⟨by rw [List.length_append, List.map_append]; exact h2, fun e he => ?_⟩
    rcases List.mem_append.1 he with he | he
    · exact hown.2 e he
    · exact hr.2 e he
  · rcases h4 with h4 | h4
    · rw [h4]; exact hv
    · rw [h4]; simp
end Go.Proofs.YtldinfdbkffdpaaGreatDoor

/- Texts: numerals read, a text split: the reference's and the program's. -/
namespace Go.Proofs.YtldinfdbkffdpaaGreatDoor
set_option linter.unusedVariables false
set_option linter.unusedSimpArgs false
set_option linter.unnecessarySimpa false
open Go.RowKit Go.Lib

theorem dval_lt' (l : List UInt8) (h : l.all isDg = true) : dval l < 10 ^ l.length := by
  induction l using snocInd with
  | h0 => decide
  | h1 l b ih =>
    rw [List.all_append] at h
    simp at h
    have hb := (isDg_iff b).1 h.2
    have := ih (by simpa using h.1)
    rw [dval_snoc, List.length_append, List.length_singleton, Nat.pow_succ]
    omega
theorem dval_take {s : ByteArray} {k m : Nat} (hk : k ≤ m) (hm : m ≤ 12) (h : (s.data.toList.take k).all isDg = true) : dval (s.data.toList.take k) < 1000000000000 := by
  have h1 := dval_lt' _ h
  have h2 : (s.data.toList.take k).length ≤ 12 := by rw [List.length_take]; omega
  exact Nat.lt_of_lt_of_le h1 (Nat.pow_le_pow_right (by decide) h2)
def ntB (k : Nat) (s : ByteArray) : Bool := (readNum k s.data.toList).isSome
def ntV (k : Nat) (s : ByteArray) : Int := ((readNum k s.data.toList).getD 0 : Nat)
theorem nt_none {k : Nat} {s : ByteArray} (h : readNum k s.data.toList = none) : (0 : Int) = ntV k s ∧ false = ntB k s := by unfold ntV ntB; rw [h]; exact ⟨rfl, rfl⟩
theorem nt_some {k : Nat} {s : ByteArray} {n : Nat} (h : readNum k s.data.toList = some n) : (n : Int) = ntV k s ∧ true = ntB k s := by unfold ntV ntB; rw [h]; exact ⟨rfl, rfl⟩
theorem rn_big {k : Nat} {l : List UInt8} (h : l.length = 0 ∨ k < l.length) : readNum k l = none := by
  unfold readNum
  rw [if_pos]
  rcases h with h | h
  · exact .inl h
  · exact .inr (.inl h)
theorem rn_zero {k : Nat} {l : List UInt8} (h : 1 < l.length) (h0 : l[0]? = some 48) : readNum k l = none := by
  unfold readNum
  rw [if_pos]
  exact .inr (.inr (.inl ⟨h, by rw [List.head?_eq_getElem?, h0]⟩))
theorem rn_bad {k j : Nat} {l : List UInt8} {b : UInt8} (h : l[j]? = some b) (hb : isDg b = false) : readNum k l = none := by
  unfold readNum
  rw [if_pos]
  refine .inr (.inr (.inr ?_))
  rw [Bool.eq_false_iff]
  intro ha
  have := List.all_eq_true.1 ha b (List.mem_of_getElem? h)
  rw [hb] at this
  cases this
theorem rn_ok {k : Nat} {l : List UInt8} (h1 : 0 < l.length) (h2 : l.length ≤ k) (h3 : 1 < l.length → l[0]? ≠ some 48) (h4 : l.all isDg = true) : readNum k l = some (dval l) := by
  unfold readNum
  rw [if_neg]
  rintro (h | h | ⟨a, b⟩ | h)
  · omega
  · omega
  · rw [List.head?_eq_getElem?] at b; exact h3 a b
  · rw [h4] at h; cases h
theorem dg_of {b : UInt8} (h1 : 48 ≤ b.toNat) (h2 : b.toNat ≤ 57) : isDg b = true := (isDg_iff b).2 ⟨h1, h2⟩
theorem dg_not {b : UInt8} (h : b.toNat < 48 ∨ 57 < b.toNat) : isDg b = false := by
  rw [Bool.eq_false_iff]
  intro hb
  have := (isDg_iff b).1 hb
  omega
theorem dv_snoc {l : List UInt8} {k : Nat} {b : UInt8} (h : l[k]? = some b) : dval (l.take (k + 1)) = 10 * dval (l.take k) + (b.toNat - 48) := by
  rw [take_snoc h, dval_snoc]
theorem ret_ibT {a a' : Int} {b b' : Bool} (h : a = a' ∧ b = b') : Ending.returned (.tuple #[.int .i64 a, .bool b]) = .returned (.tuple #[.int .i64 a', .bool b']) := by rw [h.1, h.2]
theorem ret_i {a a' : Int} (h : a = a') : Ending.returned (.int .i64 a) = .returned (.int .i64 a') := by rw [h]
theorem byte3 (c : Nat) : c < 48 ∨ 57 < c ∨ (48 ≤ c ∧ c ≤ 57) := by omega
theorem ne_zero {s : ByteArray} (h : s ≠ ⟨#[]⟩) : 0 < s.size := by
  rcases Nat.eq_zero_or_pos s.size with h0 | h0
  · exact absurd (ByteArray.ext (Array.eq_empty_of_size_eq_zero h0)) h
  · exact h0
/-- what a reading of at most k digits gives: the number, or -1 -/
def rdV (k : Nat) (s : ByteArray) : Int := match readNum k s.data.toList with | none => -1 | some n => (n : Int)
theorem rd_none {k : Nat} {s : ByteArray} (h : readNum k s.data.toList = none) : (-1 : Int) = rdV k s := by unfold rdV; rw [h]
theorem rd_some {k : Nat} {s : ByteArray} {n : Nat} (h : readNum k s.data.toList = some n) : (n : Int) = rdV k s := by unfold rdV; rw [h]
set_option maxHeartbeats 4000000 in
theorem natural_any (s : ByteArray) (w : World) (hs : s.size ≤ maxLen) :
    Calls Tryz.prog 32 #[.string s] w fun e w' => e = .returned (.tuple #[.int .i64 (ntV 12 s), .bool (ntB 12 s)]) ∧ w = w' := by
  unfold maxLen at hs
  have hlen : s.data.toList.length = s.size := by rw [size_eq]
  have HL := Lib.hid hlen
  clear hlen
  by_cases h0 : s = ⟨#[]⟩
  · subst h0
    go_enter Tryz.func32, Tryz.ntmps32
    go_wp2
    go_ret2
    exact ⟨ret_ibT <| nt_none (rn_big (.inl rfl)), rfl⟩
  have hp := ne_zero h0
  have he : s.toList.isEmpty = false := by
    rw [toList_data]
    cases hq : s.data.toList with
    | nil => have := HL.out; rw [hq] at this; simp at this; omega
    | cons _ _ => rfl
  by_cases hk : 12 < s.size
  · go_enter Tryz.func32, Tryz.ntmps32
    go_wp2
    go_ret2
    exact ⟨ret_ibT <| nt_none (rn_big (.inr (by rw [HL.out]; exact hk))), rfl⟩
  have HZ0 := Lib.hid (byte_get s 0 hp)
  by_cases h1 : 1 < s.size ∧ s[0].toNat = 48
  · obtain ⟨h1, h2⟩ := h1
    have hq : ((s[0].toNat : Int) == 48) = true := (by rw [beq_iff_eq]; omega)
    go_enter Tryz.func32, Tryz.ntmps32
    go_wp2
    go_ret2
    exact ⟨ret_ibT <| nt_none (rn_zero (by rw [HL.out]; exact h1) (by rw [HZ0.out]; exact congrArg some (UInt8.toNat_inj.1 h2))), rfl⟩
  have H3 : Hid (1 < s.data.toList.length → s.data.toList[0]? ≠ some 48) := Lib.hid (fun a b => h1 ⟨by rw [← HL.out]; exact a, by rw [HZ0.out] at b; rw [Option.some.inj b]; rfl⟩)
  have hcase : (s.size < 2 ∧ s[0].toNat < 48) ∨ (s.size < 2 ∧ s[0].toNat = 48) ∨ (s.size < 2 ∧ 48 < s[0].toNat) ∨ (1 < s.size ∧ s[0].toNat < 48) ∨ (1 < s.size ∧ 48 < s[0].toNat) := by omega
  clear h1
  rcases hcase with ⟨h1, h2⟩ | ⟨h1, h2⟩ | ⟨h1, h2⟩ | ⟨h1, h2⟩ | ⟨h1, h2⟩
  all_goals
    first
      | have hq : ((s[0].toNat : Int) == 48) = false := (by rw [beq_eq_false_iff_ne]; omega)
      | have hq : ((s[0].toNat : Int) == 48) = true := (by rw [beq_iff_eq]; omega)
    go_enter Tryz.func32, Tryz.ntmps32
    go_wp2
    go_loop [4, 5] (fun n i => ∃ k : Nat, k ≤ s.size ∧ i = .int .i64 k ∧ n = .int .i64 (dval (s.data.toList.take k) : Nat) ∧ (s.data.toList.take k).all isDg = true) (fun _ i => s.size - (RowKit.intOf i).toNat)
    case atStart => exact ⟨0, Nat.zero_le _, rfl, rfl, rfl⟩
    case round =>
      obtain ⟨k, hk2, rfl, rfl, ha⟩ := hrel
      have hv := dval_take hk2 (by omega) ha
      have HA := Lib.hid ha
      clear ha
      by_cases hlt : k < s.size
      · have HZ := Lib.hid (byte_get s k hlt)
        have HD := Lib.hid (dv_snoc HZ.out)
        have hlt' : (k : Int) < (s.size : Int) := by omega
        rcases byte3 s[k].toNat with hc | hc | hc
        · generalize dval (s.data.toList.take k) = v at *
          go_wp2
          go_ret2
          exact ⟨ret_ibT <| nt_none (rn_bad HZ.out (dg_not (.inl hc))), rfl⟩
        · generalize dval (s.data.toList.take k) = v at *
          go_wp2
          go_ret2
          exact ⟨ret_ibT <| nt_none (rn_bad HZ.out (dg_not (.inr hc))), rfl⟩
        · generalize dval (s.data.toList.take k) = v at *
          go_wp2
          go_round
          case rel => exact ⟨k + 1, by omega, by go_num, by rw [HD.out]; go_num, all_snoc HZ.out HA.out (dg_of hc.1 hc.2)⟩
          case measure => simp [RowKit.intOf]; omega
      · obtain rfl : k = s.size := by omega
        have e : s.data.toList.take s.size = s.data.toList := List.take_of_length_le (by rw [HL.out]; exact Nat.le_refl _)
        rw [e] at HA hv ⊢
        have HE := Lib.hid (rn_ok (k := 12) (by rw [HL.out]; omega) (by rw [HL.out]; omega) H3.out HA.out)
        generalize dval s.data.toList = v at *
        go_wp2
        go_ret2
        exact ⟨ret_ibT <| nt_some HE.out, rfl⟩
set_option maxHeartbeats 4000000 in
theorem l1Read_any (s : ByteArray) (w : World) (hs : s.size ≤ maxLen) :
    Calls Tryz.prog 64 #[.string s] w fun e w' => e = .returned (.int .i64 (rdV 6 s)) ∧ w = w' := by
  unfold maxLen at hs
  have hlen : s.data.toList.length = s.size := by rw [size_eq]
  have HL := Lib.hid hlen
  clear hlen
  by_cases h0 : s = ⟨#[]⟩
  · subst h0
    have HI : Hid (inB 0 1 6 = false) := Lib.hid rfl
    go_enter Tryz.func64, Tryz.ntmps64
    go_wp2_with (go_at_call 49; refine (l1In_any _ _ _ _).mono ?_; rintro e w' ⟨rfl, rfl⟩; rw [HI.out])
    go_ret
    exact ⟨ret_i <| rd_none (rn_big (.inl rfl)), rfl⟩
  have hp := ne_zero h0
  have he : s.toList.isEmpty = false := by
    rw [toList_data]
    cases hq : s.data.toList with
    | nil => have := HL.out; rw [hq] at this; simp at this; omega
    | cons _ _ => rfl
  by_cases hk : 6 < s.size
  · have HI : Hid (inB (s.size : Int) 1 6 = false) := Lib.hid (by unfold inB; simp; omega)
    go_enter Tryz.func64, Tryz.ntmps64
    go_wp2_with (go_at_call 49; refine (l1In_any _ _ _ _).mono ?_; rintro e w' ⟨rfl, rfl⟩; rw [HI.out])
    go_ret
    exact ⟨ret_i <| rd_none (rn_big (.inr (by rw [HL.out]; exact hk))), rfl⟩
  have HI : Hid (inB (s.size : Int) 1 6 = true) := Lib.hid (by unfold inB; simp; omega)
  have HZ0 := Lib.hid (byte_get s 0 hp)
  by_cases h1 : 1 < s.size ∧ s[0].toNat = 48
  · obtain ⟨h1, h2⟩ := h1
    have hq : ((s[0].toNat : Int) == 48) = true := (by rw [beq_iff_eq]; omega)
    go_enter Tryz.func64, Tryz.ntmps64
    go_wp2_with (go_at_call 49; refine (l1In_any _ _ _ _).mono ?_; rintro e w' ⟨rfl, rfl⟩; rw [HI.out])
    go_ret
    exact ⟨ret_i <| rd_none (rn_zero (by rw [HL.out]; exact h1) (by rw [HZ0.out]; exact congrArg some (UInt8.toNat_inj.1 h2))), rfl⟩
  have H3 : Hid (1 < s.data.toList.length → s.data.toList[0]? ≠ some 48) := Lib.hid (fun a b => h1 ⟨by rw [← HL.out]; exact a, by rw [HZ0.out] at b; rw [Option.some.inj b]; rfl⟩)
  have hcase : (s.size < 2 ∧ s[0].toNat < 48) ∨ (s.size < 2 ∧ s[0].toNat = 48) ∨ (s.size < 2 ∧ 48 < s[0].toNat) ∨ (1 < s.size ∧ s[0].toNat < 48) ∨ (1 < s.size ∧ 48 < s[0].toNat) := by omega
  clear h1
  rcases hcase with ⟨h1, h2⟩ | ⟨h1, h2⟩ | ⟨h1, h2⟩ | ⟨h1, h2⟩ | ⟨h1, h2⟩
  all_goals
    first
      | have hq : ((s[0].toNat : Int) == 48) = false := (by rw [beq_eq_false_iff_ne]; omega)
      | have hq : ((s[0].toNat : Int) == 48) = true := (by rw [beq_iff_eq]; omega)
    go_enter Tryz.func64, Tryz.ntmps64
    go_wp2_with (go_at_call 49; refine (l1In_any _ _ _ _).mono ?_; rintro e w' ⟨rfl, rfl⟩; rw [HI.out])
    go_loop [3, 4] (fun n i => ∃ k : Nat, k ≤ s.size ∧ i = .int .i64 k ∧ n = .int .i64 (dval (s.data.toList.take k) : Nat) ∧ (s.data.toList.take k).all isDg = true) (fun _ i => s.size - (RowKit.intOf i).toNat)
    case atStart => exact ⟨0, Nat.zero_le _, rfl, rfl, rfl⟩
    case round =>
      obtain ⟨k, hk2, rfl, rfl, ha⟩ := hrel
      have hv := dval_take hk2 (by omega) ha
      have HA := Lib.hid ha
      clear ha
      by_cases hlt : k < s.size
      · have HZ := Lib.hid (byte_get s k hlt)
        have HD := Lib.hid (dv_snoc HZ.out)
        have hlt' : (k : Int) < (s.size : Int) := by omega
        rcases byte3 s[k].toNat with hc | hc | hc
        · generalize dval (s.data.toList.take k) = v at *
          go_wp2
          go_ret
          exact ⟨ret_i <| rd_none (rn_bad HZ.out (dg_not (.inl hc))), rfl⟩
        · generalize dval (s.data.toList.take k) = v at *
          go_wp2
          go_ret
          exact ⟨ret_i <| rd_none (rn_bad HZ.out (dg_not (.inr hc))), rfl⟩
        · generalize dval (s.data.toList.take k) = v at *
          go_wp2
          go_round
          case rel => exact ⟨k + 1, by omega, by go_num, by rw [HD.out]; go_num, all_snoc HZ.out HA.out (dg_of hc.1 hc.2)⟩
          case measure => simp [RowKit.intOf]; omega
      · obtain rfl : k = s.size := by omega
        have e : s.data.toList.take s.size = s.data.toList := List.take_of_length_le (by rw [HL.out]; exact Nat.le_refl _)
        rw [e] at HA hv ⊢
        have HE := Lib.hid (rn_ok (k := 6) (by rw [HL.out]; omega) (by rw [HL.out]; omega) H3.out HA.out)
        generalize dval s.data.toList = v at *
        go_wp2
        go_ret
        exact ⟨ret_i <| rd_some HE.out, rfl⟩
end Go.Proofs.YtldinfdbkffdpaaGreatDoor

/- Texts: a text split at a byte, the reference's way. -/
namespace Go.Proofs.YtldinfdbkffdpaaGreatDoor
set_option linter.unusedVariables false
set_option linter.unusedSimpArgs false
set_option linter.unnecessarySimpa false
open Go.RowKit Go.Lib

theorem splitOn_snoc_ne {b c : UInt8} (hc : c ≠ b) : ∀ {p : List UInt8} {L : List (List UInt8)} {x : List UInt8}, splitOn b p = L ++ [x] → splitOn b (p ++ [c]) = L ++ [x ++ [c]]
  | [], L, x, h => by
    have e : ([[]] : List (List UInt8)) = L ++ [x] := h
    cases L with
    | nil => simp at e; subst e; simp [splitOn, hc]
    | cons y L => simp at e
  | d :: p, L, x, h => by
    by_cases hd : d = b
    · subst hd
      rw [splitOn_cons_eq] at h
      cases L with
      | nil => simp at h; exact absurd h.2 (splitOn_ne _ _)
      | cons y L =>
        simp only [List.cons_append, List.cons.injEq] at h
        obtain ⟨h1, h2⟩ := h
        subst h1
        rw [List.cons_append, splitOn_cons_eq, splitOn_snoc_ne hc h2]
        rfl
    · rw [splitOn_cons_ne hd] at h
      cases hs : splitOn b p with
      | nil => exact absurd hs (splitOn_ne _ _)
      | cons y t =>
        rw [hs, prep] at h
        cases L with
        | nil =>
          simp at h
          obtain ⟨h1, h2⟩ := h
          subst h1 h2
          rw [List.cons_append, splitOn_cons_ne hd, splitOn_snoc_ne (L := []) (x := y) hc (by rw [hs]; rfl)]
          rfl
        | cons z L =>
          simp at h
          obtain ⟨h1, h2⟩ := h
          subst h1 h2
          rw [List.cons_append, splitOn_cons_ne hd, splitOn_snoc_ne (L := y :: L) (x := x) hc (by rw [hs]; rfl)]
          rfl
/-- the piece from a to b -/
def pc (s : ByteArray) (a b : Nat) : List UInt8 := (s.data.toList.take b).drop a
theorem pc_ext (s : ByteArray) (a b : Nat) : s.extract a b = tx (pc s a b) := by
  apply ByteArray.ext
  apply Array.ext'
  unfold pc tx
  simp [List.extract_eq_take_drop, List.drop_take]
theorem pc_size (s : ByteArray) (a b : Nat) (h : b ≤ s.size) : (pc s a b).length = b - a := by
  unfold pc
  rw [List.length_drop, List.length_take, ← size_eq, Nat.min_eq_left h]
theorem pc_snoc {s : ByteArray} {a k : Nat} {c : UInt8} (h : s.data.toList[k]? = some c) (hk : k ≤ s.size) (ha : a ≤ k) : pc s a (k + 1) = pc s a k ++ [c] := by
  unfold pc
  rw [take_snoc h, List.drop_append_of_le_length (by rw [List.length_take, ← size_eq]; omega)]
theorem pc_none (s : ByteArray) (k : Nat) : pc s k k = [] := by
  unfold pc
  exact List.drop_of_length_le (by rw [List.length_take]; omega)
theorem pc_all (s : ByteArray) (a : Nat) : pc s a s.size = s.data.toList.drop a := by
  unfold pc
  rw [List.take_of_length_le (by rw [size_eq]; exact Nat.le_refl _)]
def spB (b : UInt8) (s : ByteArray) : List ByteArray := (splitOn b s.data.toList).map tx
set_option maxRecDepth 100000 in
set_option maxHeartbeats 8000000 in
theorem l1Split_any (s : ByteArray) (b : UInt8) (w : World) (hs : s.size ≤ 1048576) :
    Calls Tryz.prog 63 #[.string s, .int .u8 b.toNat] w fun e w' => ∃ v', e = .returned v' ∧ OwnS w' w.heap.size v' (spB b s) ∧ Kept w w' := by
  have HS := Lib.hid hs
  go_enter Tryz.func63, Tryz.ntmps63
  go_wp2_with fail
  go_loopw [5, 6, 7] (fun s5 s6 s7 wr => ∃ (k a : Nat) (L : List (List UInt8)), k ≤ s.size ∧ a ≤ k ∧ s7 = .int .i64 k ∧ s6 = .int .i64 a ∧ splitOn b (s.data.toList.take k) = L ++ [pc s a k] ∧ OwnS wr w.heap.size s5 (L.map tx) ∧ Kept w wr) (fun _ _ i _ => s.size - (RowKit.intOf i).toNat)
  case atStart => exact ⟨0, 0, [], Nat.zero_le _, Nat.le_refl _, rfl, rfl, rfl, nilS _ _, Kept.refl _⟩
  case round =>
    obtain ⟨k, a, L, hk, ha, rfl, rfl, hsp, ho, hkept⟩ := hrel
    have hll : L.length ≤ k := by
      have h1 := splitOn_length_le b (s.data.toList.take k)
      rw [hsp, List.length_append, List.length_singleton, List.length_take, ← size_eq] at h1
      omega
    have HO := Lib.hid ho
    have HSP := Lib.hid hsp
    have hps : (tx (pc s a k)).size ≤ maxLen := by rw [tx_size, pc_size s a k hk]; unfold maxLen; omega
    have HPS := Lib.hid hps
    clear ho hsp hps
    by_cases hlt : k < s.size
    · have HZ := Lib.hid (byte_get s k hlt)
      have hlt' : (k : Int) < (s.size : Int) := by omega
      by_cases hc : s[k] = b
      · have hcb : s[k].toNat = b.toNat := by rw [hc]
        have HSN : Hid (splitOn b (s.data.toList.take (k + 1)) = (L ++ [pc s a k]) ++ [pc s (k + 1) (k + 1)]) := Lib.hid (by rw [take_snoc HZ.out, hc, splitOn_snoc, HSP.out, pc_none])
        have HC := Lib.hid hc
        have HE := Lib.hid (pc_ext s a k)
        have ha' : (a : Int) ≤ (k : Int) := by omega
        clear hc
        go_wp2_with (at_builtin; refine wpList_append_SL _ rfl _ _ rfl w.heap.size _ (L.map tx) rfl (HO.out.kept ((Kept.refl _).alloc _)) _ [tx (pc s a k)] rfl (by first | (rw [HE.out]; exact strs_box1 (Box.new _ _ _ _ rfl) HPS.out) | exact strs_box1 (HE.out ▸ Box.new _ _ _ _ rfl) HPS.out) (by rw [List.length_map]; simp only [List.length_cons, List.length_nil]; omega) (by have := hkept.size; simp; omega) ?_; intro v3 w3 o3 g3 n3)
        have k3 := (hkept.alloc (.cells #[.string (s.extract a k)] 9)).grew (HO.out.kept ((Kept.refl _).alloc _)).1 g3 (Nat.le_refl _)
        have O3 : Hid (OwnS w3 w.heap.size v3 ((L ++ [pc s a k]).map tx)) := Lib.hid (by rw [List.map_append]; exact o3)
        clear o3 n3 g3
        go_wp2_with fail
        go_roundw
        case rel => exact ⟨k + 1, k + 1, _, by omega, Nat.le_refl _, by go_num, by go_num, HSN.out, O3.out, k3⟩
        case measure => simp [RowKit.intOf]; omega
      · have hcb : ¬ s[k].toNat = b.toNat := fun e => hc (UInt8.toNat_inj.1 e)
        have HSN : Hid (splitOn b (s.data.toList.take (k + 1)) = L ++ [pc s a (k + 1)]) := Lib.hid (by rw [take_snoc HZ.out, splitOn_snoc_ne hc HSP.out, pc_snoc HZ.out hk ha])
        clear hc
        go_wp2_with fail
        go_roundw
        case rel => exact ⟨k + 1, a, L, by omega, by omega, by go_num, rfl, HSN.out, HO.out, hkept⟩
        case measure => simp [RowKit.intOf]; omega
    · obtain rfl : k = s.size := by omega
      have HE := Lib.hid (pc_ext s a s.size)
      have ha' : (a : Int) ≤ (s.size : Int) := by omega
      have HF : Hid ((L.map tx) ++ [tx (pc s a s.size)] = spB b s) := Lib.hid (by
        unfold spB
        have e : s.data.toList.take s.size = s.data.toList := List.take_of_length_le (by rw [size_eq]; exact Nat.le_refl _)
        have h1 := HSP.out
        rw [e] at h1
        rw [h1, List.map_append]
        rfl)
      go_wp2_with (at_builtin; refine wpList_append_SL _ rfl _ _ rfl w.heap.size _ (L.map tx) rfl (HO.out.kept ((Kept.refl _).alloc _)) _ [tx (pc s a s.size)] rfl (by first | (rw [HE.out]; exact strs_box1 (Box.new _ _ _ _ rfl) HPS.out) | exact strs_box1 (HE.out ▸ Box.new _ _ _ _ rfl) HPS.out) (by rw [List.length_map]; simp only [List.length_cons, List.length_nil]; omega) (by have := hkept.size; simp; omega) ?_; intro v3 w3 o3 g3 n3)
      have k3 := (hkept.alloc (.cells #[.string (s.extract a s.size)] 9)).grew (HO.out.kept ((Kept.refl _).alloc _)).1 g3 (Nat.le_refl _)
      rw [HF.out] at o3
      have O3 := Lib.hid o3
      clear o3 n3 g3
      go_wp2_with fail
      go_ret
      exact ⟨_, rfl, O3.out, k3⟩
end Go.Proofs.YtldinfdbkffdpaaGreatDoor

/- Points: reading their text: plain laws; the reference's side. -/
namespace Go.Proofs.YtldinfdbkffdpaaGreatDoor
set_option linter.unusedVariables false
set_option linter.unusedSimpArgs false
set_option linter.unnecessarySimpa false
open Go.RowKit Go.Lib

theorem tp_hit {l : List UInt8} (h : l[0]? = some 45) : trimPrefix l [45] = l.drop 1 ∧ hasPrefix l [45] = true := by
  cases l with
  | nil => cases h
  | cons c r =>
    have hc : c = 45 := by simpa using h
    subst hc
    unfold trimPrefix hasPrefix
    simp [List.isPrefixOf]
theorem tp_miss {l : List UInt8} (h : l[0]? ≠ some 45) : trimPrefix l [45] = l ∧ hasPrefix l [45] = false := by
  cases l with
  | nil => exact ⟨rfl, rfl⟩
  | cons c r =>
    have hc : c ≠ 45 := by simpa using h
    have hne : (45 == c) = false := beq_eq_false_iff_ne.2 (Ne.symm hc)
    unfold trimPrefix hasPrefix
    simp [List.isPrefixOf, hne]
def dg2 (p q : UInt8) : Nat := 10 * (p.toNat - 48) + (q.toNat - 48)
theorem pt_shape {l : List UInt8} {n : Int} (hg : ptGood n) (h : ptxt n = l) :
    ∃ u : Nat, u ≤ 1000000 ∧ splitOn 46 (trimPrefix l [45]) = [decDigits (u / 100), [UInt8.ofNat (48 + u / 10 % 10), UInt8.ofNat (48 + u % 10)]] ∧ hasPrefix l [45] = decide (n < 0) ∧ n = if hasPrefix l [45] then -(u : Int) else (u : Int) := by
  subst h
  obtain ⟨h1, h2⟩ := ptxt_sign n
  unfold ptGood at hg
  refine ⟨n.natAbs, by omega, by rw [h1, ptN_split, two_digits], h2, ?_⟩
  rw [h2]
  by_cases hn : n < 0
  · rw [decide_eq_true hn]; simp; omega
  · rw [decide_eq_false hn]; simp; omega
/-- where one of the steps fails, there is no number with the text -/
theorem rd_no {l : List UInt8} (h : ∀ p c d a, splitOn 46 (trimPrefix l [45]) = [p, [c, d]] → readNum 6 p = some a → isDg c = true → isDg d = true → False) : IsRead l 0 false := by
  refine .inr ⟨rfl, rfl, fun n hg e => ?_⟩
  obtain ⟨u, hu, hs, _, _⟩ := pt_shape hg e
  exact h _ _ _ (u / 100) hs (readNum_dec (k := 5) (by omega)) (isDg_of (Nat.mod_lt _ (by decide))) (isDg_of (Nat.mod_lt _ (by decide)))
/-- what the steps compute is the only candidate -/
theorem rd_only {l p : List UInt8} {c d : UInt8} {a : Nat} {n : Int} (hs : splitOn 46 (trimPrefix l [45]) = [p, [c, d]]) (ha : readNum 6 p = some a) (hg : ptGood n) (e : ptxt n = l) :
    n = if hasPrefix l [45] then -((100 * a + dg2 c d : Nat) : Int) else ((100 * a + dg2 c d : Nat) : Int) := by
  obtain ⟨u, hu, hs', _, hn⟩ := pt_shape hg e
  rw [hs] at hs'
  simp only [List.cons.injEq, and_true] at hs'
  obtain ⟨rfl, rfl, rfl⟩ := hs'
  rw [readNum_dec (k := 5) (by omega)] at ha
  have ha := Option.some.inj ha
  have hd : 100 * a + dg2 (UInt8.ofNat (48 + u / 10 % 10)) (UInt8.ofNat (48 + u % 10)) = u := by
    unfold dg2
    rw [toNat_of (Nat.mod_lt _ (by decide)), toNat_of (Nat.mod_lt _ (by decide))]
    omega
  rw [hd]
  exact hn
theorem rd_yes {l p : List UInt8} {c d : UInt8} {a : Nat} {v : Int} (hs : splitOn 46 (trimPrefix l [45]) = [p, [c, d]]) (ha : readNum 6 p = some a)
    (hv : v = if hasPrefix l [45] then -((100 * a + dg2 c d : Nat) : Int) else ((100 * a + dg2 c d : Nat) : Int)) :
    (ptGood v ∧ ptxt v = l → IsRead l v true) ∧ (¬ (ptGood v ∧ ptxt v = l) → IsRead l 0 false) := by
  refine ⟨fun h => .inl ⟨rfl, h.1, h.2⟩, fun h => .inr ⟨rfl, rfl, fun n hg e => ?_⟩⟩
  have := rd_only hs ha hg e
  rw [← hv] at this
  subst this
  exact h ⟨hg, e⟩
theorem rdV_neg {k : Nat} {s : ByteArray} : rdV k s < 0 ↔ readNum k s.data.toList = none := by
  unfold rdV
  cases readNum k s.data.toList with
  | none => simp
  | some n => simp
end Go.Proofs.YtldinfdbkffdpaaGreatDoor
