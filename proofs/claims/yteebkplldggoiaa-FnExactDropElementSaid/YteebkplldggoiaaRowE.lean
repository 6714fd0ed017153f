/- slices.Delete of one element and slices.Insert of one element, on rows of the call's own. -/
import Derived.Test.YteebkplldggoiaaRow
import Derived.Test.YteebkplldggoiaaH
namespace Go.Proofs.Yteebkplldggoiaa
open Go.RowKit

theorem zerocellsE : (Builtin.zeroCells (Value.agg #[.string ByteArray.empty, .int .i64 0, .int .i64 0, .int .i64 0]).cells 1).toList = (Value.agg #[.string ByteArray.empty, .int .i64 0, .int .i64 0, .int .i64 0]).cells.toList := by kernel_rfl
theorem zeroE (w : World) : (zeroValue 53).run Try.prog w = .ok (Value.agg #[.string ByteArray.empty, .int .i64 0, .int .i64 0, .int .i64 0]) w := by kernel_rfl
set_option maxRecDepth 100000 in
set_option maxHeartbeats 4000000 in
theorem delRowE (xs : List Value) (n i cap g : Nat) (w : World) (base : Nat) (ho : w.ownsRow base 53 4 (.slice (some ⟨g, 0, none⟩) n cap) n xs) (hi : i < n) (h1 : ∀ v ∈ xs, v.oneCell' = true) :
    Calls Try.prog 74 #[.slice (some ⟨g, 0, none⟩) n cap, .int .i64 i, .int .i64 ((i : Int) + 1)] w fun e w' =>
      e = .returned (.slice (some ⟨g, 0, none⟩) (n - 1) cap) ∧ w'.ownsRow base 53 4 (.slice (some ⟨g, 0, none⟩) (n - 1) cap) (n - 1) (xs.take (i * 4) ++ xs.drop ((i + 1) * 4)) ∧ Only [g] w w' := by
  obtain ⟨cur, B, hnc, hcm, hsz, htk⟩ := own_box ho
  have hg : base ≤ g := (ho.lt g rfl).1
  have hxl : xs.length = n * 4 := ho.1
  obtain ⟨i0, hi0, hz0, hz1, hz2⟩ := info_parts info_elem
  have hcml := hcm
  unfold maxLen at hcm
  -- the cells behind the element
  obtain ⟨news, hnews⟩ : ∃ news, news = xs.drop ((i + 1) * 4) := ⟨_, rfl⟩
  have hlen : news.length = (n - (i + 1)) * 4 := by rw [hnews, List.length_drop, hxl]; omega
  have hcl : cur.toList.length = cap * 4 := by simpa using hsz
  have hlt : n * 4 ≤ cap * 4 := Nat.mul_le_mul_right _ hnc
  have hB : Box w.drew g 53 cur := B
  have hcell : Hid (∀ t u, news[t]? = some u → w.drew.cell? ⟨g, (i + 1) * 4 + t, none⟩ = some u) := fun t u hu => by
    refine hB.at_ ?_
    have ht := (List.getElem?_eq_some_iff.1 hu).1
    rw [hlen] at ht
    rw [hnews, List.getElem?_drop, ← htk, List.getElem?_take_of_lt (by omega)] at hu
    exact hu
  have s2 : Hid (∀ u ∈ news, u.oneCell' = true) := fun u hu => h1 u (by rw [hnews] at hu; exact List.mem_of_mem_drop hu)
  have s3 : Hid (∀ t, t < news.length → (w.drew.cell? ⟨g, 0 + i * 4 + t, none⟩).isSome = true ∧ w.drew.frozen? ⟨g, 0 + i * 4 + t, none⟩ = false) := fun t ht => by
    rw [hlen] at ht
    exact ⟨hB.some (by omega), hB.free _⟩
  obtain ⟨W1, hW1⟩ : ∃ W1, W1 = w.drew.setCells g (0 + i * 4) news := ⟨_, rfl⟩
  have B1 : Box W1 g 53 (sets cur (0 + i * 4) news) := hW1 ▸ Box.sets news _ _ _ hB
  have Q1 : Only [g] w W1 := hW1 ▸ only_drew_sets g news _ w
  have hcl1 : ∀ ty c, (Builtin.clear_ #[28] ty #[.slice (some ⟨g, (n - 1) * 4, none⟩) 1 c]).run Try.prog W1 = .ok (.tuple #[]) (W1.setCells g ((n - 1) * 4) (Value.agg #[.string ByteArray.empty, .int .i64 0, .int .i64 0, .int .i64 0]).cells.toList) := fun ty c =>
    run_clear1 W1 _ _ ty (Value.agg #[.string ByteArray.empty, .int .i64 0, .int .i64 0, .int .i64 0]) Try.underlying28 zeroE g _ c zerocellsE (by decide) (fun j hj => B1.some (by rw [sets_size]; have : (Value.agg #[.string ByteArray.empty, .int .i64 0, .int .i64 0, .int .i64 0]).cells.toList.length = 4 := rfl; omega)) (fun j _ => B1.free _)
  have hfin : Hid ((sets (sets cur (0 + i * 4) news) ((n - 1) * 4) (Value.agg #[.string ByteArray.empty, .int .i64 0, .int .i64 0, .int .i64 0]).cells.toList).toList.take ((n - 1) * 4) = xs.take (i * 4) ++ xs.drop ((i + 1) * 4)) := by
    have hz : (Value.agg #[.string ByteArray.empty, .int .i64 0, .int .i64 0, .int .i64 0]).cells.toList.length = 4 := rfl
    rw [sets_take (by rw [sets_size, hz]; omega) (Nat.le_refl _), sets_full (by rw [hlen]; omega) (by rw [hlen]; omega), Nat.zero_add, ← hnews, ← htk, List.take_take, Nat.min_eq_left (by omega)]
    exact rfl
  have B2 : Box (W1.setCells g ((n - 1) * 4) (Value.agg #[.string ByteArray.empty, .int .i64 0, .int .i64 0, .int .i64 0]).cells.toList) g 53 (sets (sets cur (0 + i * 4) news) ((n - 1) * 4) (Value.agg #[.string ByteArray.empty, .int .i64 0, .int .i64 0, .int .i64 0]).cells.toList) := Box.sets _ _ _ _ B1
  have HW := Lib.hid hW1
  have HEND : Hid ((W1.setCells g ((n - 1) * 4) (Value.agg #[.string ByteArray.empty, .int .i64 0, .int .i64 0, .int .i64 0]).cells.toList).ownsRow base 53 4 (.slice (some ⟨g, 0, none⟩) (n - 1) cap) (n - 1) (xs.take (i * 4) ++ xs.drop ((i + 1) * 4)) ∧ Only [g] w (W1.setCells g ((n - 1) * 4) (Value.agg #[.string ByteArray.empty, .int .i64 0, .int .i64 0, .int .i64 0]).cells.toList)) :=
    ⟨own_of_box B2 hg (by omega) hcml (by rw [sets_size, sets_size]; exact hsz) hfin.out, Q1.trans (only_sets g _ _ W1)⟩
  have HL := Lib.hid hlen
  clear hW1 hlen hnews ho htk hsz hcl hlt hxl B hB B1 B2 Q1 hfin
  have hne : ((i : Int) == (i : Int) + 1) = false := beq_eq_false_iff_ne.2 (by omega)
  have hn1 : (i : Int) + 1 ≤ (n : Int) := by omega
  have htn : ((i : Int) + 1).toNat = i + 1 := by omega
  have hii : i + (n - (i + 1)) = n - 1 := by omega
  have hic : i ≤ cap := by omega
  have h0i : (0 : Int) ≤ (i : Int) + 1 := by omega
  have hjc : i + 1 ≤ cap := by omega
  have hjn : i + 1 ≤ n := by omega
  by_cases hcap : cap = i + 1
  · subst hcap
    have hii1 : (i : Int) ≤ (i : Int) + 1 := by omega
    have hnil : news = [] := List.eq_nil_of_length_eq_zero (by rw [HL.out]; omega)
    have SR : Hid (∀ t u, news[t]? = some u → w.drew.cell? ((⟨g, 0, none⟩ : Addr).add t) = some u) := fun t u hu => by rw [hnil] at hu; simp at hu
    clear hnil
    go_enter Try.func74, Try.ntmps74
    go_wp2_with fail
    go_region_law (refine step_append_room rfl (.tmp 22) (.tmp 25) 28 rfl 53 i0 4 Try.underlying28 hi0 hz1 g 0 i (i + 1) (by simp [Act.eval, Act.put]) ⟨g, 0, none⟩ (n - (i + 1)) (i + 1 - (i + 1)) news (by simp [Act.eval, Act.put]; omega) HL.out SR.out s2.out (by omega) s3.out ?_; rw [← HW.out, hii])
    have hcl2 := hcl1
    have hcn : ¬ i + 1 = n - 1 := by omega
    have hnn : n - (n - 1) = 1 := by omega
    have hb1 : (((n - 1 : Nat) : Int)) ≤ (n : Int) := by omega
    have hb2 : n - 1 ≤ n := by omega
    go_wp2
    go_ret
    exact ⟨rfl, HEND.out.1, HEND.out.2⟩
  · have SR : Hid (∀ t u, news[t]? = some u → w.drew.cell? ((⟨g, (i + 1) * 4, none⟩ : Addr).add t) = some u) := fun t u hu => by rw [add_lit]; exact hcell.out t u hu
    go_enter Try.func74, Try.ntmps74
    go_wp2_with fail
    go_region_law (refine step_append_room rfl (.tmp 22) (.tmp 25) 28 rfl 53 i0 4 Try.underlying28 hi0 hz1 g 0 i cap (by simp [Act.eval, Act.put]) ⟨g, (i + 1) * 4, none⟩ (n - (i + 1)) (cap - (i + 1)) news (by simp [Act.eval, Act.put, hcap]) HL.out SR.out s2.out (by omega) s3.out ?_; rw [← HW.out, hii])
    have hcl2 := hcl1
    have hcn : ¬ cap = n - 1 := by omega
    have hnn : n - (n - 1) = 1 := by omega
    have hb1 : (((n - 1 : Nat) : Int)) ≤ (n : Int) := by omega
    have hb2 : n - 1 ≤ n := by omega
    go_wp2
    go_ret
    exact ⟨rfl, HEND.out.1, HEND.out.2⟩
set_option maxRecDepth 100000 in
set_option maxHeartbeats 4000000 in
theorem insEndE (xs vs : List Value) (n cap g vb : Nat) (w : World) (base : Nat) (ho : w.ownsRow base 53 4 (.slice (some ⟨g, 0, none⟩) n cap) n xs) (hb : base ≤ w.heap.size) (hn : n ≤ 1000000)
    (hV : Box w vb 53 vs.toArray) (hvl : vs.length = 4) (h1v : ∀ v ∈ vs, v.oneCell' = true) :
    Calls Try.prog 75 #[.slice (some ⟨g, 0, none⟩) n cap, .int .i64 n, .slice (some ⟨vb, 0, none⟩) 1 1] w fun e w' =>
      ∃ v', e = .returned v' ∧ w'.ownsRow base 53 4 v' (n + 1) (xs ++ vs) ∧ w.grownBy w' (some g) := by
  obtain ⟨i0, hi0, hz0, hz1, hz2⟩ := info_parts info_elem
  have HO := Lib.hid ho
  have hnc : n ≤ cap := (own_box ho).choose_spec.2.1
  have hcm : cap ≤ maxLen := (own_box ho).choose_spec.2.2.1
  unfold maxLen at hcm
  have hS : Hid (Seq w (.slice (some ⟨vb, 0, none⟩) 1 1) 1 vs) := ⟨_, 1, rfl, Nat.le_refl _, by unfold maxLen; omega, (fun h => by cases h), fun _ => ⟨vb, 0, rfl, hV.lt, fun j u hu => by rw [Nat.zero_add]; exact hV.at_ (by simpa using hu)⟩⟩
  clear ho hV
  go_enter Try.func75, Try.ntmps75
  go_wp2_with (at_builtin; refine wpList_append_seq _ rfl _ _ 28 rfl base 53 i0 _ 4 40 Try.underlying28 hi0 hz0 hz1 hz2 rfl (by omega) _ n xs rfl HO.out _ 1 vs rfl hS.out (by omega) h1v (by unfold maxLen; omega) (by omega) hb ?_; intro v' w' q1 q2 q3)
  all_goals
    go_ret
    exact ⟨_, rfl, q1, q2⟩
set_option maxRecDepth 100000 in
set_option maxHeartbeats 4000000 in
theorem insRoomE (xs vs : List Value) (n i cap g vb : Nat) (w : World) (base : Nat) (ho : w.ownsRow base 53 4 (.slice (some ⟨g, 0, none⟩) n cap) n xs) (hi : i < n) (hn : n ≤ 1000000) (hroom : n + 1 ≤ cap)
    (h1 : ∀ v ∈ xs, v.oneCell' = true) (hV : Box w vb 53 vs.toArray) (hvl : vs.length = 4) (h1v : ∀ v ∈ vs, v.oneCell' = true) (hvb : vb ≠ g) :
    Calls Try.prog 75 #[.slice (some ⟨g, 0, none⟩) n cap, .int .i64 i, .slice (some ⟨vb, 0, none⟩) 1 1] w fun e w' =>
      ∃ v', e = .returned v' ∧ w'.ownsRow base 53 4 v' (n + 1) (xs.take (i * 4) ++ vs ++ xs.drop (i * 4)) ∧ Only [g] w w' := by
  obtain ⟨cur, B, hnc, hcm, hsz, htk⟩ := own_box ho
  have hg : base ≤ g := (ho.lt g rfl).1
  have hxl : xs.length = n * 4 := ho.1
  obtain ⟨i0, hi0, hz0, hz1, hz2⟩ := info_parts info_elem
  have hsize : (Try.prog.info? 53).map (·.size) = some 4 := by rw [hi0]; simp [hz1]
  have hcml := hcm
  unfold maxLen at hcm
  have hcl : cur.toList.length = cap * 4 := by simpa using hsz
  have hlt : (n + 1) * 4 ≤ cap * 4 := Nat.mul_le_mul_right _ hroom
  obtain ⟨rest, hrest⟩ : ∃ rest, rest = xs.drop (i * 4) := ⟨_, rfl⟩
  have hrl : rest.length = (n - i) * 4 := by rw [hrest, List.length_drop, hxl]; omega
  have hov : ∀ lb cb, (callFunc 91 #[.slice (some ⟨vb, 0, none⟩) 1 1, .slice (some ⟨g, (i + 1) * 4, none⟩) lb cb]).run Try.prog w = .ok (.value (.bool false)) w := fun lb cb => by
    rw [run_callFunc_extern Try.func91 (by kernel_rfl) (by kernel_rfl) (by kernel_rfl) (e := Extern.SlicesOverlaps.overlaps #[28, 28] #[4]) (by kernel_rfl),
      Lib.run_overlaps_apart w 28 4 53 Try.underlying28 4 (fun w => by simp [sizeOf, typeInfo, hi0, hz1]) ⟨vb, 0, none⟩ ⟨g, (i + 1) * 4, none⟩ 1 1 lb cb hvb 53 53 4 (cap * 4) (by unfold Box at hV; simp [World.shape?, hV, hvl]) (by unfold Box at B; simp [World.shape?, B, hsz]) (by omega) (hV.free _) (hV.free _)]
    rfl
  have hcp1 : ∀ ty dc sc, (Builtin.copy_ #[28, 28] ty #[.slice (some ⟨g, (i + 1) * 4, none⟩) (n - i) dc, .slice (some ⟨g, i * 4, none⟩) (n + 1 - i) sc]).run Try.prog w.drew = .ok (goInt ((n - i : Nat) : Int)) (w.drew.setCells g ((i + 1) * 4) rest) := fun ty dc sc =>
    run_copyN w.drew _ _ ty 53 4 g ((i + 1) * 4) (n - i) dc ⟨g, i * 4, none⟩ (n + 1 - i) sc (n - i) rest Try.underlying28 hsize (by simp only [Nat.min_def]; split <;> omega) hrl
      (fun j v hj => by
        rw [add_lit]
        refine B.at_ ?_
        have hjl := (List.getElem?_eq_some_iff.1 hj).1
        rw [hrest, List.getElem?_drop, ← htk, List.getElem?_take_of_lt (by omega)] at hj
        exact hj)
      (fun j hj => B.some (by omega)) (fun j _ => B.free _) (fun v hv => h1 v (by rw [hrest] at hv; exact List.mem_of_mem_drop hv))
  obtain ⟨W1, hW1⟩ : ∃ W1, W1 = w.drew.setCells g ((i + 1) * 4) rest := ⟨_, rfl⟩
  rw [← hW1] at hcp1
  have B1 : Box W1 g 53 (sets cur ((i + 1) * 4) rest) := hW1 ▸ Box.sets rest _ w.drew _ B
  have Q1 : Only [g] w W1 := hW1 ▸ only_drew_sets g rest _ w
  have V1 := hV.only Q1 (by simpa using hvb)
  have hcp2 : ∀ ty dc, (Builtin.copy_ #[28, 28] ty #[.slice (some ⟨g, i * 4, none⟩) (n + 1 - i) dc, .slice (some ⟨vb, 0, none⟩) 1 1]).run Try.prog W1 = .ok (goInt 1) (W1.setCells g (i * 4) vs) := fun ty dc =>
    run_copyN W1 _ _ ty 53 4 g (i * 4) (n + 1 - i) dc ⟨vb, 0, none⟩ 1 1 1 vs Try.underlying28 hsize (by simp only [Nat.min_def]; split <;> omega) (by omega)
      (fun j v hj => by
        rw [add_lit, Nat.zero_add]
        exact V1.at_ (by simpa using hj))
      (fun j hj => B1.some (by rw [sets_size]; omega)) (fun j _ => B1.free _) h1v
  have HEND : Hid ((W1.setCells g (i * 4) vs).ownsRow base 53 4 (.slice (some ⟨g, 0, none⟩) (n + 1) cap) (n + 1) (xs.take (i * 4) ++ vs ++ xs.drop (i * 4)) ∧ Only [g] w (W1.setCells g (i * 4) vs)) := by
    refine ⟨own_of_box (Box.sets vs _ _ _ B1) hg hroom hcml (by rw [sets_size, sets_size]; exact hsz) ?_, Q1.trans (only_sets g _ _ W1)⟩
    rw [sets_toList _ _ _ (by rw [sets_size]; omega), ← hrest, show i * 4 + vs.length = (i + 1) * 4 from by omega, sets_drop (by omega)]
    rw [sets_take (by omega) (by omega), ← htk, List.take_take, Nat.min_eq_left (by omega), ← List.append_assoc]
    exact List.take_left' (by rw [List.length_append, List.length_append, List.length_take, hcl]; omega)
  have HW := Lib.hid hW1
  clear hW1 hrl hrest ho htk hsz hcl hxl B B1 Q1 V1 hV hvl h1 h1v
  have hz1' : ((1 : Int) == 0) = false := rfl
  have hz2' : ((i : Int) == (n : Int)) = false := beq_eq_false_iff_ne.2 (by omega)
  have hz3 : ¬ ((cap : Int) < (n : Int) + 1) := by omega
  have hw1 : IntKind.i64.wrap ((i : Int) + 1) = (i : Int) + 1 := IntWalk.i64_in _ (by omega)
  have hb1 : (0 : Int) ≤ (i : Int) + 1 := by omega
  have htn : ((i : Int) + 1).toNat = i + 1 := by omega
  have htn2 : ((n : Int) + 1).toNat = n + 1 := by omega
  have hb2 : ¬ (cap = i + 1) := by omega
  have hb4 : ¬ (cap = i) := by omega
  have hb5 : (i : Int) + 1 ≤ (n : Int) + 1 := by omega
  have hb6 : (i : Int) ≤ (n : Int) + 1 := by omega
  have hb7 : i ≤ n := by omega
  have hb8 : (n : Int) + 1 ≤ (cap : Int) := by omega
  go_enter Try.func75, Try.ntmps75
  go_wp2_with (simp only [hov])
  go_region_law (refine step_copy_run rfl _ _ 28 28 rfl _ _ (by simp [Act.eval, Act.put]) (by simp [Act.eval, Act.put]) (hcp1 _ _ _) ?_)
  go_wp2_with (at_builtin; refine wpList_copy_run _ rfl _ _ 28 28 rfl _ _ rfl rfl (hcp2 _ _) ?_)
  go_ret
  exact ⟨_, rfl, HEND.out.1, HEND.out.2⟩
set_option maxRecDepth 100000 in
set_option maxHeartbeats 4000000 in
theorem insGrowE (xs vs : List Value) (n i cap g vb : Nat) (w : World) (base : Nat) (ho : w.ownsRow base 53 4 (.slice (some ⟨g, 0, none⟩) n cap) n xs) (hi : i < n) (hn : n ≤ 1000000) (hroom : cap < n + 1) (hbase : base ≤ w.heap.size)
    (h1 : ∀ v ∈ xs, v.oneCell' = true) (hV : Box w vb 53 vs.toArray) (hvl : vs.length = 4) (h1v : ∀ v ∈ vs, v.oneCell' = true) :
    Calls Try.prog 75 #[.slice (some ⟨g, 0, none⟩) n cap, .int .i64 i, .slice (some ⟨vb, 0, none⟩) 1 1] w fun e w' =>
      ∃ v', e = .returned v' ∧ w'.ownsRow base 53 4 v' (n + 1) (xs.take (i * 4) ++ vs ++ xs.drop (i * 4)) ∧ Only [] w w' := by
  obtain ⟨cur, B, hnc, hcm, hsz, htk⟩ := own_box ho
  have hxl : xs.length = n * 4 := ho.1
  obtain ⟨i0, hi0, hz0, hz1, hz2⟩ := info_parts info_elem
  have hsize : (Try.prog.info? 53).map (·.size) = some 4 := by rw [hi0]; simp [hz1]
  obtain rfl : cap = n := by omega
  unfold maxLen at hcm
  have hcl : cur.toList.length = cap * 4 := by simpa using hsz
  have htk' : cur.toList = xs := by rw [← htk, List.take_of_length_le (by omega)]
  obtain ⟨rest, hrest⟩ : ∃ rest, rest = xs.drop (i * 4) := ⟨_, rfl⟩
  have hrl : rest.length = (cap - i) * 4 := by rw [hrest, List.length_drop, hxl]; omega
  have hkk : (cap : Int) + 1 - (i : Int) = ((cap + 1 - i : Nat) : Int) := by omega
  have hik : i + (cap + 1 - i) = cap + 1 := by omega
  have hold : (Builtin.firstCells i0.size i (.slice (some ⟨g, 0, none⟩) i cap)).run Try.prog w.drew = .ok (xs.take (i * 4)).toArray w.drew := by
    rw [hz1]
    refine run_firstCells_some w.drew 4 i ⟨g, 0, none⟩ i cap (xs.take (i * 4)) (by rw [List.length_take]; omega) (fun j v hj => ?_)
    rw [add_lit, Nat.zero_add]
    refine B.at_ ?_
    rw [htk']
    rw [List.getElem?_take] at hj
    split at hj
    · exact hj
    · cases hj
  obtain ⟨G, hG⟩ : ∃ G, G = grownCap w (cap + 1) cap 53 := ⟨_, rfl⟩
  obtain ⟨ROW, hROW⟩ : ∃ ROW : Array Value, ROW = (xs.take (i * 4)).toArray ++ Builtin.zeroCells (Value.agg #[.string ByteArray.empty, .int .i64 0, .int .i64 0, .int .i64 0]).cells (cap + 1 - i) ++ Builtin.zeroCells (Value.agg #[.string ByteArray.empty, .int .i64 0, .int .i64 0, .int .i64 0]).cells (G - (cap + 1)) := ⟨_, rfl⟩
  have hrz : ∀ ty, (Builtin.append_ #[28, 3] ty #[.slice (some ⟨g, 0, none⟩) i cap, .int .i64 ((cap : Int) + 1 - (i : Int))]).run Try.prog w =
      .ok (.slice (some ⟨w.heap.size, 0, none⟩) (cap + 1) G) (w.drew.alloc (.cells ROW 53)) := fun ty => by
    have h := Lib.run_append_grow_zeros w 28 3 ty 53 i0 _ .i64 .i64 Try.underlying28 Try.underlying3 hi0 hz0 (some ⟨g, 0, none⟩) i cap (xs.take (i * 4)) hold (cap + 1 - i) (by omega) (by omega) (by omega) (by omega) (by rw [hz2]; omega) (by rw [hz2, hik]; exact growslice_fits hroom (by omega))
    rw [hik, ← hG, ← hROW] at h
    rw [hkk]
    exact h
  have hGn : cap + 1 ≤ G := by rw [hG]; exact grownCap_ge w _ _ _
  have hG63 : G ≤ maxLen := by rw [hG]; exact grownCap_le_maxLen w (cap + 1) cap 53 (by unfold maxLen; omega)
  have hzs : ∀ k, (Builtin.zeroCells (Value.agg #[.string ByteArray.empty, .int .i64 0, .int .i64 0, .int .i64 0]).cells k).size = k * 4 := fun k => by unfold Builtin.zeroCells; rw [Array.size_map, Array.size_range]; rfl
  have hRs : ROW.size = G * 4 := by
    rw [hROW, Array.size_append, Array.size_append, hzs, hzs, List.size_toArray, List.length_take, hxl]
    omega
  have hRt : ROW.toList.take (i * 4) = xs.take (i * 4) := by
    rw [hROW, Array.toList_append, Array.toList_append, List.append_assoc]
    exact List.take_left' (by rw [List.length_take]; omega)
  have hgw : g < w.heap.size := B.lt
  have hvw : vb < w.heap.size := hV.lt
  obtain ⟨W1, hW1⟩ : ∃ W1, W1 = (w.alloc (.cells ROW 53)).drew := ⟨_, rfl⟩
  have B1 : Box W1 w.heap.size 53 ROW := hW1 ▸ Box.new w w.heap.size 53 ROW rfl
  have k1 : Kept w W1 := hW1 ▸ ((Kept.refl w).alloc _).drew
  have BG := B.kept k1
  have V1 := hV.kept k1
  have hcpA : ∀ ty dc, (Builtin.copy_ #[28, 28] ty #[.slice (some ⟨w.heap.size, i * 4, none⟩) (cap + 1 - i) dc, .slice (some ⟨vb, 0, none⟩) 1 1]).run Try.prog W1 = .ok (goInt 1) (W1.setCells w.heap.size (i * 4) vs) := fun ty dc =>
    run_copyN W1 _ _ ty 53 4 w.heap.size (i * 4) (cap + 1 - i) dc ⟨vb, 0, none⟩ 1 1 1 vs Try.underlying28 hsize (by simp only [Nat.min_def]; split <;> omega) (by omega)
      (fun j v hj => by
        rw [add_lit, Nat.zero_add]
        exact V1.at_ (by simpa using hj))
      (fun j hj => B1.some (by omega)) (fun j _ => B1.free _) h1v
  obtain ⟨W2, hW2⟩ : ∃ W2, W2 = W1.setCells w.heap.size (i * 4) vs := ⟨_, rfl⟩
  rw [← hW2] at hcpA
  have B2 : Box W2 w.heap.size 53 (sets ROW (i * 4) vs) := hW2 ▸ Box.sets vs _ W1 _ B1
  have Q2 : Only [w.heap.size] W1 W2 := hW2 ▸ only_sets w.heap.size vs _ W1
  have BG2 := BG.only Q2 (by simp; omega)
  have hcpB : ∀ ty dc sc, (Builtin.copy_ #[28, 28] ty #[.slice (some ⟨w.heap.size, (i + 1) * 4, none⟩) (cap - i) dc, .slice (some ⟨g, i * 4, none⟩) (cap - i) sc]).run Try.prog W2.drew = .ok (goInt ((cap - i : Nat) : Int)) (W2.drew.setCells w.heap.size ((i + 1) * 4) rest) := fun ty dc sc =>
    run_copyN W2.drew _ _ ty 53 4 w.heap.size ((i + 1) * 4) (cap - i) dc ⟨g, i * 4, none⟩ (cap - i) sc (cap - i) rest Try.underlying28 hsize (by simp only [Nat.min_def]; split <;> omega) hrl
      (fun j v hj => by
        rw [add_lit]
        refine BG2.at_ ?_
        rw [htk']
        rw [hrest, List.getElem?_drop] at hj
        exact hj)
      (fun j hj => B2.some (by rw [sets_size]; omega)) (fun j _ => B2.free _) (fun v hv => h1 v (by rw [hrest] at hv; exact List.mem_of_mem_drop hv))
  have HEND : Hid ((W2.drew.setCells w.heap.size ((i + 1) * 4) rest).ownsRow base 53 4 (.slice (some ⟨w.heap.size, 0, none⟩) (cap + 1) G) (cap + 1) (xs.take (i * 4) ++ vs ++ xs.drop (i * 4)) ∧ Only [] w (W2.drew.setCells w.heap.size ((i + 1) * 4) rest)) := by
    refine ⟨own_of_box (Box.sets rest _ _ _ (show Box W2.drew _ _ _ from B2)) hbase hGn hG63 (by rw [sets_size, sets_size]; exact hRs) ?_, ?_⟩
    · rw [sets_full (by rw [sets_size, hRs]; omega) (by omega), sets_full (by rw [hRs]; omega) (by omega), hRt, ← hrest]
    · have := (Q2.above k1 (by simp))
      exact (((only_drew_sets w.heap.size rest ((i + 1) * 4) W2).above this (by simp))).only []
  have hGi : ¬ (G = i) := by omega
  have hGim : ¬ (G = i + 1) := by omega
  have hci : ¬ (cap = i) := by omega
  clear hG hROW hrl hrest ho htk htk' hcl hxl B B1 B2 Q2 V1 hV hvl h1 h1v hold BG BG2 hRs hRt hzs
  have HW1 := Lib.hid hW1
  have HW2 := Lib.hid hW2
  unfold maxLen at hG63
  rw [hW1] at hcpA
  clear hkk hik
  have hz1' : ((1 : Int) == 0) = false := rfl
  have hz2' : ((i : Int) == (cap : Int)) = false := beq_eq_false_iff_ne.2 (by omega)
  have hw1 : IntKind.i64.wrap ((i : Int) + 1) = (i : Int) + 1 := IntWalk.i64_in _ (by omega)
  have hb1 : (0 : Int) ≤ (i : Int) + 1 := by omega
  have htn : ((i : Int) + 1).toNat = i + 1 := by omega
  have hb5 : (i : Int) + 1 ≤ (cap : Int) + 1 := by omega
  have hb6 : (i : Int) ≤ (cap : Int) + 1 := by omega
  have hb7 : i ≤ cap := by omega
  have hb3 : (i : Int) ≤ (cap : Int) := by omega
  clear hW1 hW2
  go_enter Try.func75, Try.ntmps75
  go_wp2_with (first | (at_builtin; refine Lib.wpList_append_run _ rfl _ _ _ _ rfl _ _ rfl rfl _ _ (hrz _) ?_) | (at_builtin; refine wpList_copy_run _ rfl _ _ 28 28 rfl _ _ rfl rfl (hcpA _ _) ?_))
  go_region_law (refine step_copy_run rfl _ _ 28 28 rfl _ _ (by simp [Act.eval, Act.put]) (by simp [Act.eval, Act.put]) (hcpB _ _ _) ?_)
  go_wp2
  go_ret
  exact ⟨_, rfl, HEND.out.1, HEND.out.2⟩
end Go.Proofs.Yteebkplldggoiaa
