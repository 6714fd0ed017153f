/- Contracts of functions that the proof leans on. No condition. -/
import Derived.Test.YtpkmngkepmoikaaM72bab009e0
/- slices.Delete of one element and slices.Insert of one element, on rows of the call's own. -/
namespace Go.Proofs.Ytpkmngkepmoikaa
set_option linter.unusedVariables false
set_option linter.unusedSimpArgs false
open Go.RowKit

theorem zerocellsE : (Builtin.zeroCells (Value.agg #[.string ByteArray.empty, .int .i64 0, .int .i64 0, .int .i64 0]).cells 1).toList = (Value.agg #[.string ByteArray.empty, .int .i64 0, .int .i64 0, .int .i64 0]).cells.toList := by kernel_rfl
set_option maxRecDepth 100000 in
set_option maxHeartbeats 4000000 in
theorem insEndE (xs vs : List Value) (n cap g vb : Nat) (w : World) (base : Nat) (ho : w.ownsRow base 36 4 (.slice (some ⟨g, 0, none⟩) n cap) n xs) (hb : base ≤ w.heap.size) (hn : n ≤ 1000000)
    (hV : Box w vb 36 vs.toArray) (hvl : vs.length = 4) (h1v : ∀ v ∈ vs, v.oneCell' = true) :
    Calls Try.prog 41 #[.slice (some ⟨g, 0, none⟩) n cap, .int .i64 n, .slice (some ⟨vb, 0, none⟩) 1 1] w fun e w' =>
      ∃ v', e = .returned v' ∧ w'.ownsRow base 36 4 v' (n + 1) (xs ++ vs) ∧ w.grownBy w' (some g) := by
  obtain ⟨i0, hi0, hz0, hz1, hz2⟩ := info_parts info_elem
  have HO := Lib.hid ho
  have hnc : n ≤ cap := (own_box ho).choose_spec.2.1
  have hcm : cap ≤ maxLen := (own_box ho).choose_spec.2.2.1
  unfold maxLen at hcm
  have hS : Hid (Seq w (.slice (some ⟨vb, 0, none⟩) 1 1) 1 vs) := ⟨_, 1, rfl, Nat.le_refl _, by unfold maxLen; omega, (fun h => by cases h), fun _ => ⟨vb, 0, rfl, hV.lt, fun j u hu => by rw [Nat.zero_add]; exact hV.at_ (by simpa using hu)⟩⟩
  clear ho hV
  go_enter Try.func41, Try.ntmps41
  go_wp2_with (at_builtin; refine wpList_append_seq _ rfl _ _ 30 rfl base 36 i0 _ 4 40 Try.underlying30 hi0 hz0 hz1 hz2 rfl (by omega) _ n xs rfl HO.out _ 1 vs rfl hS.out (by omega) h1v (by unfold maxLen; omega) (by omega) hb ?_; intro v' w' q1 q2 q3)
  all_goals
    go_ret
    exact ⟨_, rfl, q1, q2⟩
set_option maxRecDepth 100000 in
set_option maxHeartbeats 4000000 in
theorem insRoomE (xs vs : List Value) (n i cap g vb : Nat) (w : World) (base : Nat) (ho : w.ownsRow base 36 4 (.slice (some ⟨g, 0, none⟩) n cap) n xs) (hi : i < n) (hn : n ≤ 1000000) (hroom : n + 1 ≤ cap)
    (h1 : ∀ v ∈ xs, v.oneCell' = true) (hV : Box w vb 36 vs.toArray) (hvl : vs.length = 4) (h1v : ∀ v ∈ vs, v.oneCell' = true) (hvb : vb ≠ g) :
    Calls Try.prog 41 #[.slice (some ⟨g, 0, none⟩) n cap, .int .i64 i, .slice (some ⟨vb, 0, none⟩) 1 1] w fun e w' =>
      ∃ v', e = .returned v' ∧ w'.ownsRow base 36 4 v' (n + 1) (xs.take (i * 4) ++ vs ++ xs.drop (i * 4)) ∧ Only [g] w w' := by
  obtain ⟨cur, B, hnc, hcm, hsz, htk⟩ := own_box ho
  have hg : base ≤ g := (ho.lt g rfl).1
  have hxl : xs.length = n * 4 := ho.1
  obtain ⟨i0, hi0, hz0, hz1, hz2⟩ := info_parts info_elem
  have hsize : (Try.prog.info? 36).map (·.size) = some 4 := by rw [hi0]; simp [hz1]
  have hcml := hcm
  unfold maxLen at hcm
  have hcl : cur.toList.length = cap * 4 := by simpa using hsz
  have hlt : (n + 1) * 4 ≤ cap * 4 := Nat.mul_le_mul_right _ hroom
  obtain ⟨rest, hrest⟩ : ∃ rest, rest = xs.drop (i * 4) := ⟨_, rfl⟩
  have hrl : rest.length = (n - i) * 4 := by rw [hrest, List.length_drop, hxl]; omega
  have hov : ∀ lb cb, (callFunc 73 #[.slice (some ⟨vb, 0, none⟩) 1 1, .slice (some ⟨g, (i + 1) * 4, none⟩) lb cb]).run Try.prog w = .ok (.value (.bool false)) w := fun lb cb => by
    rw [run_callFunc_extern Try.func73 (by kernel_rfl) (by kernel_rfl) (by kernel_rfl) (e := Extern.SlicesOverlaps.overlaps #[30, 30] #[4]) (by kernel_rfl),
      Lib.run_overlaps_apart w 30 4 36 Try.underlying30 4 (fun w => by simp [sizeOf, typeInfo, hi0, hz1]) ⟨vb, 0, none⟩ ⟨g, (i + 1) * 4, none⟩ 1 1 lb cb hvb 36 36 4 (cap * 4) (by unfold Box at hV; simp [World.shape?, hV, hvl]) (by unfold Box at B; simp [World.shape?, B, hsz]) (by omega) (hV.free _) (hV.free _)]
    rfl
  have hcp1 : ∀ ty dc sc, (Builtin.copy_ #[30, 30] ty #[.slice (some ⟨g, (i + 1) * 4, none⟩) (n - i) dc, .slice (some ⟨g, i * 4, none⟩) (n + 1 - i) sc]).run Try.prog w.drew = .ok (goInt ((n - i : Nat) : Int)) (w.drew.setCells g ((i + 1) * 4) rest) := fun ty dc sc =>
    run_copyN w.drew _ _ ty 36 4 g ((i + 1) * 4) (n - i) dc ⟨g, i * 4, none⟩ (n + 1 - i) sc (n - i) rest Try.underlying30 hsize (by simp only [Nat.min_def]; split <;> omega) hrl
      (fun j v hj => by
        rw [add_lit]
        refine B.at_ ?_
        have hjl := (List.getElem?_eq_some_iff.1 hj).1
        rw [hrest, List.getElem?_drop, ← htk, List.getElem?_take_of_lt (by omega)] at hj
        exact hj)
      (fun j hj => B.some (by omega)) (fun j _ => B.free _) (fun v hv => h1 v (by rw [hrest] at hv; exact List.mem_of_mem_drop hv))
  obtain ⟨W1, hW1⟩ : ∃ W1, W1 = w.drew.setCells g ((i + 1) * 4) rest := ⟨_, rfl⟩
  rw [← hW1] at hcp1
  have B1 : Box W1 g 36 (sets cur ((i + 1) * 4) rest) := hW1 ▸ Box.sets rest _ w.drew _ B
  have Q1 : Only [g] w W1 := hW1 ▸ only_drew_sets g rest _ w
  have V1 := hV.only Q1 (by simpa using hvb)
  have hcp2 : ∀ ty dc, (Builtin.copy_ #[30, 30] ty #[.slice (some ⟨g, i * 4, none⟩) (n + 1 - i) dc, .slice (some ⟨vb, 0, none⟩) 1 1]).run Try.prog W1 = .ok (goInt 1) (W1.setCells g (i * 4) vs) := fun ty dc =>
    run_copyN W1 _ _ ty 36 4 g (i * 4) (n + 1 - i) dc ⟨vb, 0, none⟩ 1 1 1 vs Try.underlying30 hsize (by simp only [Nat.min_def]; split <;> omega) (by omega)
      (fun j v hj => by
        rw [add_lit, Nat.zero_add]
        exact V1.at_ (by simpa using hj))
      (fun j hj => B1.some (by rw [sets_size]; omega)) (fun j _ => B1.free _) h1v
  have HEND : Hid ((W1.setCells g (i * 4) vs).ownsRow base 36 4 (.slice (some ⟨g, 0, none⟩) (n + 1) cap) (n + 1) (xs.take (i * 4) ++ vs ++ xs.drop (i * 4)) ∧ Only [g] w (W1.setCells g (i * 4) vs)) := by
    refine ⟨own_of_box (Box.sets vs _ _ _ B1) hg hroom hcml (by rw [sets_size, sets_size]; exact hsz) ?_, Q1.trans (only_sets g _ _ W1)⟩
    rw [sets_toList _ _ _ (by rw [sets_size]; omega), ← hrest, show i * 4 + vs.length = (i + 1) * 4 from by omega, sets_drop (by omega)]
    rw [sets_take (by omega) (by omega), ← htk, List.take_take, Nat.min_eq_left (by omega), ← List.append_assoc]
    exact List.take_left' (by rw [List.length_append, List.length_append, List.length_take, hcl]; omega)
  have HW := Lib.hid hW1
  clear hW1 hrl hrest ho htk hsz hcl hxl B B1 Q1 V1 hV hvl h1 h1v
  have hz1' : ((1 : Int) == 0) = false := rfl
  have hz2' : ((i : Int) == (n : Int)) = false := beq_eq_false_iff_ne.2 (by omega)
  have hz3 : ¬ ((cap : Int) < (n : Int) + 1) := by omega
  have hw1 : IntKind.i64.wrap ((i : Int) + 1) = (i : Int) + 1 := IntWalk.i64_in _ (by omega)
  have hb1 : (0 : Int) ≤ (i : Int) + 1 := by omega
  have htn : ((i : Int) + 1).toNat = i + 1 := by omega
  have htn2 : ((n : Int) + 1).toNat = n + 1 := by omega
  have hb2 : ¬ (cap = i + 1) := by omega
  have hb4 : ¬ (cap = i) := by omega
  have hb5 : (i : Int) + 1 ≤ (n : Int) + 1 := by omega
  have hb6 : (i : Int) ≤ (n : Int) + 1 := by omega
  have hb7 : i ≤ n := by omega
  have hb8 : (n : Int) + 1 ≤ (cap : Int) := by omega
  go_enter Try.func41, Try.ntmps41
  go_wp2_with (simp only [hov])
  go_region_law (refine step_copy_run rfl _ _ 30 30 rfl _ _ (by simp [Act.eval, Act.put]) (by simp [Act.eval, Act.put]) (hcp1 _ _ _) ?_)
  go_wp2_with (at_builtin; refine wpList_copy_run _ rfl _ _ 30 30 rfl _ _ rfl rfl (hcp2 _ _) ?_)
  go_ret
  exact ⟨_, rfl, HEND.out.1, HEND.out.2⟩
set_option maxRecDepth 100000 in
set_option maxHeartbeats 4000000 in
theorem insGrowE (xs vs : List Value) (n i cap g vb : Nat) (w : World) (base : Nat) (ho : w.ownsRow base 36 4 (.slice (some ⟨g, 0, none⟩) n cap) n xs) (hi : i < n) (hn : n ≤ 1000000) (hroom : cap < n + 1) (hbase : base ≤ w.heap.size)
    (h1 : ∀ v ∈ xs, v.oneCell' = true) (hV : Box w vb 36 vs.toArray) (hvl : vs.length = 4) (h1v : ∀ v ∈ vs, v.oneCell' = true) :
    Calls Try.prog 41 #[.slice (some ⟨g, 0, none⟩) n cap, .int .i64 i, .slice (some ⟨vb, 0, none⟩) 1 1] w fun e w' =>
      ∃ v', e = .returned v' ∧ w'.ownsRow base 36 4 v' (n + 1) (xs.take (i * 4) ++ vs ++ xs.drop (i * 4)) ∧ Only [] w w' := by
  obtain ⟨cur, B, hnc, hcm, hsz, htk⟩ := own_box ho
  have hxl : xs.length = n * 4 := ho.1
  obtain ⟨i0, hi0, hz0, hz1, hz2⟩ := info_parts info_elem
  have hsize : (Try.prog.info? 36).map (·.size) = some 4 := by rw [hi0]; simp [hz1]
  obtain rfl : cap = n := by omega
  unfold maxLen at hcm
  have hcl : cur.toList.length = cap * 4 := by simpa using hsz
  have htk' : cur.toList = xs := by rw [← htk, List.take_of_length_le (by omega)]
  obtain ⟨rest, hrest⟩ : ∃ rest, rest = xs.drop (i * 4) := ⟨_, rfl⟩
  have hrl : rest.length = (cap - i) * 4 := by rw [hrest, List.length_drop, hxl]; omega
  have hkk : (cap : Int) + 1 - (i : Int) = ((cap + 1 - i : Nat) : Int) := by omega
  have hik : i + (cap + 1 - i) = cap + 1 := by omega
  have hold : (Builtin.firstCells i0.size i (.slice (some ⟨g, 0, none⟩) i cap)).run Try.prog w.drew = .ok (xs.take (i * 4)).toArray w.drew := by
    rw [hz1]
    refine run_firstCells_some w.drew 4 i ⟨g, 0, none⟩ i cap (xs.take (i * 4)) (by rw [List.length_take]; omega) (fun j v hj => ?_)
    rw [add_lit, Nat.zero_add]
    refine B.at_ ?_
    rw [htk']
    rw [List.getElem?_take] at hj
    split at hj
    · exact hj
    · cases hj
  obtain ⟨G, hG⟩ : ∃ G, G = grownCap w (cap + 1) cap 36 := ⟨_, rfl⟩
  obtain ⟨ROW, hROW⟩ : ∃ ROW : Array Value, ROW = (xs.take (i * 4)).toArray ++ Builtin.zeroCells (Value.agg #[.string ByteArray.empty, .int .i64 0, .int .i64 0, .int .i64 0]).cells (cap + 1 - i) ++ Builtin.zeroCells (Value.agg #[.string ByteArray.empty, .int .i64 0, .int .i64 0, .int .i64 0]).cells (G - (cap + 1)) := ⟨_, rfl⟩
  have hrz : ∀ ty, (Builtin.append_ #[30, 3] ty #[.slice (some ⟨g, 0, none⟩) i cap, .int .i64 ((cap : Int) + 1 - (i : Int))]).run Try.prog w =
      .ok (.slice (some ⟨w.heap.size, 0, none⟩) (cap + 1) G) (w.drew.alloc (.cells ROW 36)) := fun ty => by
    have h := Lib.run_append_grow_zeros w 30 3 ty 36 i0 _ .i64 .i64 Try.underlying30 Try.underlying3 hi0 hz0 (some ⟨g, 0, none⟩) i cap (xs.take (i * 4)) hold (cap + 1 - i) (by omega) (by omega) (by omega) (by omega) (by rw [hz2]; omega) (by rw [hz2, hik]; exact growslice_fits hroom (by omega))
    rw [hik, ← hG, ← hROW] at h
    rw [hkk]
    exact h
  have hGn : cap + 1 ≤ G := by rw [hG]; exact grownCap_ge w _ _ _
  have hG63 : G ≤ maxLen := by rw [hG]; exact grownCap_le_maxLen w (cap + 1) cap 36 (by unfold maxLen; omega)
  have hzs : ∀ k, (Builtin.zeroCells (Value.agg #[.string ByteArray.empty, .int .i64 0, .int .i64 0, .int .i64 0]).cells k).size = k * 4 := fun k => by unfold Builtin.zeroCells; rw [Array.size_map, Array.size_range]; rfl
  have hRs : ROW.size = G * 4 := by
    rw [hROW, Array.size_append, Array.size_append, hzs, hzs, List.size_toArray, List.length_take, hxl]
    omega
  have hRt : ROW.toList.take (i * 4) = xs.take (i * 4) := by
    rw [hROW, Array.toList_append, Array.toList_append, List.append_assoc]
    exact List.take_left' (by rw [List.length_take]; omega)
  have hgw : g < w.heap.size := B.lt
  have hvw : vb < w.heap.size := hV.lt
  obtain ⟨W1, hW1⟩ : ∃ W1, W1 = (w.alloc (.cells ROW 36)).drew := ⟨_, rfl⟩
  have B1 : Box W1 w.heap.size 36 ROW := hW1 ▸ Box.new w w.heap.size 36 ROW rfl
  have k1 : Kept w W1 := hW1 ▸ ((Kept.refl w).alloc _).drew
  have BG := B.kept k1
  have V1 := hV.kept k1
  have hcpA : ∀ ty dc, (Builtin.copy_ #[30, 30] ty #[.slice (some ⟨w.heap.size, i * 4, none⟩) (cap + 1 - i) dc, .slice (some ⟨vb, 0, none⟩) 1 1]).run Try.prog W1 = .ok (goInt 1) (W1.setCells w.heap.size (i * 4) vs) := fun ty dc =>
    run_copyN W1 _ _ ty 36 4 w.heap.size (i * 4) (cap + 1 - i) dc ⟨vb, 0, none⟩ 1 1 1 vs Try.underlying30 hsize (by simp only [Nat.min_def]; split <;> omega) (by omega)
      (fun j v hj => by
        rw [add_lit, Nat.zero_add]
        exact V1.at_ (by simpa using hj))
      (fun j hj => B1.some (by omega)) (fun j _ => B1.free _) h1v
  obtain ⟨W2, hW2⟩ : ∃ W2, W2 = W1.setCells w.heap.size (i * 4) vs := ⟨_, rfl⟩
  rw [← hW2] at hcpA
  have B2 : Box W2 w.heap.size 36 (sets ROW (i * 4) vs) := hW2 ▸ Box.sets vs _ W1 _ B1
  have Q2 : Only [w.heap.size] W1 W2 := hW2 ▸ only_sets w.heap.size vs _ W1
  have BG2 := BG.only Q2 (by simp; omega)
  have hcpB : ∀ ty dc sc, (Builtin.copy_ #[30, 30] ty #[.slice (some ⟨w.heap.size, (i + 1) * 4, none⟩) (cap - i) dc, .slice (some ⟨g, i * 4, none⟩) (cap - i) sc]).run Try.prog W2.drew = .ok (goInt ((cap - i : Nat) : Int)) (W2.drew.setCells w.heap.size ((i + 1) * 4) rest) := fun ty dc sc =>
    run_copyN W2.drew _ _ ty 36 4 w.heap.size ((i + 1) * 4) (cap - i) dc ⟨g, i * 4, none⟩ (cap - i) sc (cap - i) rest Try.underlying30 hsize (by simp only [Nat.min_def]; split <;> omega) hrl
      (fun j v hj => by
        rw [add_lit]
        refine BG2.at_ ?_
        rw [htk']
        rw [hrest, List.getElem?_drop] at hj
        exact hj)
      (fun j hj => B2.some (by rw [sets_size]; omega)) (fun j _ => B2.free _) (fun v hv => h1 v (by rw [hrest] at hv; exact List.mem_of_mem_drop hv))
  have HEND : Hid ((W2.drew.setCells w.heap.size ((i + 1) * 4) rest).ownsRow base 36 4 (.slice (some ⟨w.heap.size, 0, none⟩) (cap + 1) G) (cap + 1) (xs.take (i * 4) ++ vs ++ xs.drop (i * 4)) ∧ Only [] w (W2.drew.setCells w.heap.size ((i + 1) * 4) rest)) := by
    refine ⟨own_of_box (Box.sets rest _ _ _ (show Box W2.drew _ _ _ from B2)) hbase hGn hG63 (by rw [sets_size, sets_size]; exact hRs) ?_, ?_⟩
    · rw [sets_full (by rw [sets_size, hRs]; omega) (by omega), sets_full (by rw [hRs]; omega) (by omega), hRt, ← hrest]
    · have := (Q2.above k1 (by simp))
      exact (((only_drew_sets w.heap.size rest ((i + 1) * 4) W2).above this (by simp))).only []
  have hGi : ¬ (G = i) := by omega
  have hGim : ¬ (G = i + 1) := by omega
  have hci : ¬ (cap = i) := by omega
  clear hG hROW hrl hrest ho htk htk' hcl hxl B B1 B2 Q2 V1 hV hvl h1 h1v hold BG BG2 hRs hRt hzs
  have HW1 := Lib.hid hW1
  have HW2 := Lib.hid hW2
  unfold maxLen at hG63
  rw [hW1] at hcpA
  clear hkk hik
  have hz1' : ((1 : Int) == 0) = false := rfl
  have hz2' : ((i : Int) == (cap : Int)) = false := beq_eq_false_iff_ne.2 (by omega)
  have hw1 : IntKind.i64.wrap ((i : Int) + 1) = (i : Int) + 1 := IntWalk.i64_in _ (by omega)
  have hb1 : (0 : Int) ≤ (i : Int) + 1 := by omega
  have htn : ((i : Int) + 1).toNat = i + 1 := by omega
  have hb5 : (i : Int) + 1 ≤ (cap : Int) + 1 := by omega
  have hb6 : (i : Int) ≤ (cap : Int) + 1 := by omega
  have hb7 : i ≤ cap := by omega
  have hb3 : (i : Int) ≤ (cap : Int) := by omega
  clear hW1 hW2
  go_enter Try.func41, Try.ntmps41
  go_wp2_with (first | (at_builtin; refine Lib.wpList_append_run _ rfl _ _ _ _ rfl _ _ rfl rfl _ _ (hrz _) ?_) | (at_builtin; refine wpList_copy_run _ rfl _ _ 30 30 rfl _ _ rfl rfl (hcpA _ _) ?_))
  go_region_law (refine step_copy_run rfl _ _ 30 30 rfl _ _ (by simp [Act.eval, Act.put]) (by simp [Act.eval, Act.put]) (hcpB _ _ _) ?_)
  go_wp2
  go_ret
  exact ⟨_, rfl, HEND.out.1, HEND.out.2⟩
end Go.Proofs.Ytpkmngkepmoikaa

/- Elements deleted from and inserted into rows; parts of slices of elements. -/
namespace Go.Proofs.Ytpkmngkepmoikaa
set_option linter.unusedVariables false
set_option linter.unusedSimpArgs false
open Go.RowKit

theorem flat_take {α β : Type} (f : α → List β) (m : Nat) (hf : ∀ x, (f x).length = m) : ∀ (l : List α) (k : Nat), (l.flatMap f).take (k * m) = (l.take k).flatMap f
  | [], k => by simp
  | x :: l, 0 => by simp
  | x :: l, k + 1 => by
    rw [List.take_succ_cons, List.flatMap_cons, List.flatMap_cons, Nat.succ_mul, Nat.add_comm, List.take_append, hf, Nat.add_sub_cancel_left, flat_take f m hf l k, List.take_of_length_le (by rw [hf]; omega)]
theorem flat_drop {α β : Type} (f : α → List β) (m : Nat) (hf : ∀ x, (f x).length = m) : ∀ (l : List α) (k : Nat), (l.flatMap f).drop (k * m) = (l.drop k).flatMap f
  | [], k => by simp
  | x :: l, 0 => by simp
  | x :: l, k + 1 => by
    rw [List.drop_succ_cons, List.flatMap_cons, Nat.succ_mul, Nat.add_comm, List.drop_append, hf, Nat.add_sub_cancel_left, flat_drop f m hf l k, List.drop_of_length_le (by rw [hf]; omega), List.nil_append]
theorem cells4_len (e : ElemD) : (cells4 e).length = 4 := rfl
theorem cells4_one (e : ElemD) : ∀ y ∈ cells4 e, y.oneCell' = true := by
  intro y hy
  simp only [cells4, List.mem_cons, List.not_mem_nil, or_false] at hy
  rcases hy with rfl | rfl | rfl | rfl <;> rfl
theorem flat_one (es : List ElemD) : ∀ y ∈ es.flatMap cells4, y.oneCell' = true := by
  intro y hy
  obtain ⟨e, _, he⟩ := List.mem_flatMap.1 hy
  exact cells4_one e y he
theorem insE_any (v : Value) (es : List ElemD) (y : ElemD) (i vb : Nat) (w : World) (base : Nat) (h : OwnE w base v es) (h0 : 0 < es.length) (hi : i ≤ es.length) (hn : es.length ≤ 1000000) (hbase : base ≤ w.heap.size)
    (hV : Box w vb 36 #[.string y.name, .int .i64 y.family, .int .i64 y.level, .int .i64 y.base]) (hs : y.name.size ≤ maxLen) (hvb : ∀ b ∈ fp v, vb ≠ b) :
    Calls Try.prog 41 #[v, .int .i64 i, .slice (some ⟨vb, 0, none⟩) 1 1] w fun e w' => ∃ v', e = .returned v' ∧ OwnE w' base v' (es.take i ++ y :: es.drop i) ∧ Only (fp v) w w' := by
  obtain ⟨A, c, rfl, _, _, hA⟩ := own_form h.1
  obtain ⟨g, rfl⟩ := hA (by omega)
  have hne : vb ≠ g := hvb g (by simp [fp_some])
  have hV' : Box w vb 36 (cells4 y).toArray := hV
  have fin : ∀ (v' : Value) (w' : World), w'.ownsRow base 36 4 v' (es.length + 1) ((es.flatMap cells4).take (i * 4) ++ cells4 y ++ (es.flatMap cells4).drop (i * 4)) → OwnE w' base v' (es.take i ++ y :: es.drop i) := by
    intro v' w' h2
    refine ⟨?_, ?_⟩
    · rw [flat_take cells4 4 cells4_len, flat_drop cells4 4 cells4_len, List.append_assoc, ← List.flatMap_cons, ← List.flatMap_append] at h2
      rw [show (es.take i ++ y :: es.drop i).length = es.length + 1 from by rw [List.length_append, List.length_cons, List.length_take, List.length_drop]; omega]
      exact h2
    · intro e he
      rcases List.mem_append.1 he with he | he
      · exact h.2 e (List.mem_of_mem_take he)
      · rcases List.mem_cons.1 he with rfl | he
        · exact hs
        · exact h.2 e (List.mem_of_mem_drop he)
  rcases Nat.lt_or_eq_of_le hi with hlt | rfl
  · rcases Nat.lt_or_ge c (es.length + 1) with hc | hc
    · refine (insGrowE _ (cells4 y) es.length i c g vb w base h.1 hlt hn hc hbase (flat_one es) hV' rfl (cells4_one y)).mono ?_
      rintro e w' ⟨v', rfl, h2, h3⟩
      exact ⟨v', rfl, fin v' w' h2, h3.mono (fun _ h => by cases h)⟩
    · refine (insRoomE _ (cells4 y) es.length i c g vb w base h.1 hlt hn hc (flat_one es) hV' rfl (cells4_one y) hne).mono ?_
      rintro e w' ⟨v', rfl, h2, h3⟩
      exact ⟨v', rfl, fin v' w' h2, h3⟩
  · refine (insEndE _ (cells4 y) es.length c g vb w base h.1 hbase hn hV' rfl (cells4_one y)).mono ?_
    rintro e w' ⟨v', rfl, h2, h3⟩
    refine ⟨v', rfl, fin v' w' ?_, only_of_grown (v := .slice (some ⟨g, 0, none⟩) es.length c) h3⟩
    rw [List.take_of_length_le (by rw [flat_length cells4 4 cells4_len]; omega), List.drop_of_length_le (by rw [flat_length cells4 4 cells4_len]; omega), List.append_nil]
    exact h2
/-- s[:i] -/
theorem elems_to {w : World} {b o n c : Nat} {es : List ElemD} (h : Elems w (.slice (some ⟨b, o, none⟩) n c) es) (hn : es.length = n) {i : Nat} (hi : i ≤ n) : Elems w (.slice (some ⟨b, o, none⟩) i c) (es.take i) := by
  obtain ⟨⟨A, c', e, h1, h2, h3, h4⟩, h5⟩ := h
  injection e with e1 e2 e3
  subst e1 e3
  refine ⟨?_, fun e he => h5 e (List.mem_of_mem_take he)⟩
  rw [List.length_take, hn, Nat.min_eq_left hi]
  refine ⟨_, c, rfl, by omega, h2, (fun h => by cases h), fun hp => ?_⟩
  obtain ⟨b', o', e1, hb, hc⟩ := h4 (by omega)
  injection e1 with e1
  injection e1 with e1 e2
  subst e1 e2
  refine ⟨b, o, rfl, hb, fun j u hu => hc j u ?_⟩
  rw [← flat_take cells4 4 cells4_len, List.getElem?_take] at hu
  split at hu
  · exact hu
  · cases hu
/-- s[k:], not at the end of the capacity -/
theorem elems_from {w : World} {b o n c : Nat} {es : List ElemD} (h : Elems w (.slice (some ⟨b, o, none⟩) n c) es) (hn : es.length = n) {k : Nat} (hk : k ≤ n) : Elems w (.slice (some ⟨b, o + k * 4, none⟩) (n - k) (c - k)) (es.drop k) := by
  obtain ⟨⟨A, c', e, h1, h2, h3, h4⟩, h5⟩ := h
  injection e with e1 e2 e3
  subst e1 e3
  refine ⟨?_, fun e he => h5 e (List.mem_of_mem_drop he)⟩
  rw [List.length_drop, hn]
  refine ⟨_, c - k, rfl, by omega, by unfold maxLen at *; omega, (fun h => by cases h), fun hp => ?_⟩
  obtain ⟨b', o', e1, hb, hc⟩ := h4 (by omega)
  injection e1 with e1
  injection e1 with e1 e2
  subst e1 e2
  refine ⟨b, o + k * 4, rfl, hb, fun j u hu => ?_⟩
  rw [← flat_drop cells4 4 cells4_len, List.getElem?_drop] at hu
  rw [Nat.add_assoc]
  exact hc _ u hu
/-- s[k:] at the end of the capacity -/
theorem elems_none {w : World} {b o : Nat} {es : List ElemD} {k : Nat} (hk : es.length ≤ k) : Elems w (.slice (some ⟨b, o, none⟩) 0 0) (es.drop k) := by
  rw [List.drop_of_length_le hk]
  exact ⟨⟨_, 0, rfl, Nat.le_refl _, Nat.zero_le _, (fun h => by cases h), fun h => absurd h (by simp)⟩, fun _ h => by cases h⟩
end Go.Proofs.Ytpkmngkepmoikaa

/- Codes: DropElement. -/
namespace Go.Proofs.Ytpkmngkepmoikaa
set_option linter.unusedVariables false
set_option linter.unusedSimpArgs false
open Go.RowKit

def dropC (x : CodeD) (k : Nat) : CodeD := { x with elems := x.elems.take k ++ x.elems.drop (k + 1) }
def drB (x : CodeD) (s : ByteArray) : Bool := feOk x s && codeB (dropC x (findV x.elems s).toNat)
def drV (x : CodeD) (s : ByteArray) : CodeD := if feOk x s then ifC (dropC x (findV x.elems s).toNat) else zeroC
theorem drV_no {x : CodeD} {s : ByteArray} (h : feOk x s = false) : drV x s = zeroC := by unfold drV; rw [h]; rfl
theorem drB_no {x : CodeD} {s : ByteArray} (h : feOk x s = false) : drB x s = false := by unfold drB; rw [h]; rfl
theorem drV_yes {x : CodeD} {s : ByteArray} {k : Nat} (h : feOk x s = true) (hk : findV x.elems s = k) : drV x s = ifC (dropC x k) := by unfold drV; rw [h, hk]; rfl
theorem drB_yes {x : CodeD} {s : ByteArray} {k : Nat} (h : feOk x s = true) (hk : findV x.elems s = k) : drB x s = codeB (dropC x k) := by unfold drB; rw [h, hk, Bool.true_and]; rfl
theorem drV_len (x : CodeD) (s : ByteArray) : (drV x s).elems.length ≤ 24 ∧ (drV x s).limits.length ≤ 5 := by
  by_cases h : feOk x s = true
  · unfold drV; rw [h]; exact ifC_len _
  · simp only [Bool.not_eq_true] at h
    rw [drV_no h]
    exact ⟨by simp [zeroC], by simp [zeroC]⟩
theorem feOk_code {x : CodeD} {s : ByteArray} (h : feOk x s = true) : codeB x = true := by unfold feOk at h; rw [Bool.and_eq_true] at h; exact h.1
theorem feOk_at {x : CodeD} {s : ByteArray} (h : feOk x s = true) : ∃ k : Nat, findV x.elems s = k ∧ k < x.elems.length := by
  have h2 : 0 ≤ findV x.elems s := by unfold feOk at h; rw [Bool.and_eq_true] at h; exact of_decide_eq_true h.2
  rcases findV_cases x.elems s with e | ⟨k, y, e, hy, _⟩
  · omega
  · exact ⟨k, e, (List.getElem?_eq_some_iff.1 hy).1⟩
end Go.Proofs.Ytpkmngkepmoikaa

/- append to a row just built of no element, in a region that draws its order: where the new row lies. -/
namespace Go.Proofs.Ytpkmngkepmoikaa
set_option linter.unusedVariables false
set_option linter.unusedSimpArgs false
open Go.RowKit

theorem run_append_loc {P : Program} (w : World) (base : Nat) (t ty e : TypeId) (i : TypeInfo) (z : Value) (size bytes : Nat) (ht : P.underlying t = some (.slice e)) (hi : P.info? e = some i) (hz : i.zero = some z)
    (hsize : i.size = size) (hby : i.bytes = bytes) (hzs : z.cells.size = size) (hsz : 0 < size)
    (v : Value) (n : Nat) (xs : List Value) (hown : w.ownsRow base e size v n xs)
    (u : Value) (m : Nat) (news : List Value) (hr : Seq w u m news) (hl : news.length = m * size) (h1 : ∀ y ∈ news, y.oneCell' = true)
    (h63 : n + m ≤ maxLen) (hbytes : (n + m) * bytes ≤ 140737488355328) (hbase : base ≤ w.heap.size) :
    ∃ v' w', (Builtin.append_ #[t, t] ty #[v, u]).run P w = .ok v' w' ∧ w'.ownsRow base e size v' (n + m) (xs ++ news) ∧ w.grownBy w' v.ownBlock ∧ (v'.ownBlock = v.ownBlock ∨ v'.ownBlock = some w.heap.size) := by
  obtain ⟨A, c, rfl, hnc, hcm, hA, hc⟩ := hr
  rcases A with _ | ad
  · obtain rfl := hA rfl
    obtain rfl : m = 0 := by omega
    obtain rfl : news = [] := List.eq_nil_of_length_eq_zero (by simpa using hl)
    exact ⟨v, w, run_append_of_nil w base t ty e i size ht hi v n xs hown 0, by simpa using hown, World.grownBy.refl w _, .inl rfl⟩
  · have hcells : ∀ j y, news[j]? = some y → w.cell? (ad.add j) = some y := by
      intro j y hy
      have hm : 0 < m := by
        rcases Nat.eq_zero_or_pos m with h0 | h0
        · subst h0
          have : news = [] := List.eq_nil_of_length_eq_zero (by simpa using hl)
          subst this
          simp at hy
        · exact h0
      obtain ⟨b, o', e1, hb, hcell⟩ := hc hm
      injection e1 with e1
      subst e1
      have := hcell j y hy
      rwa [show (⟨b, o', none⟩ : Addr).add j = ⟨b, o' + j, none⟩ from by unfold Addr.add; split <;> simp_all]
    obtain ⟨v', w', hrun, h2, h3, _, h5⟩ := run_append_own_at (P := P) w base t ty e i z size bytes ht hi hz hsize hby hzs hsz v n xs hown ad m c news hl hcells h1 h63 hbytes hbase
    exact ⟨v', w', hrun, h2, h3, h5⟩
set_option maxRecDepth 100000 in
theorem step_append_E0 (a0 w : World) {ops : Array Oper} {o : Oper} {a : Act} {K : Act → World → Prop} {Q : Exit → Act → World → Prop} {E : Prop} (hgd : o.guard = none) (s x : Operand)
    (ho : o.op = .call { callee := .builtin .append, args := #[s, x], argTypes := #[30, 30] })
    (g : Nat) (hs : a.eval s = .slice (some ⟨g, 0, none⟩) 0 0) (hB : Box w g 36 #[]) (hk : Kept a0 w) (hg : a0.heap.size ≤ g) (u : Value) (ys : List ElemD) (hx : a.eval x = u) (hr : Elems a0 u ys)
    (hl : ys.length ≤ 16777216)
    (h : ∀ v' w', OwnE w' a0.heap.size v' ys → Kept a0 w' → Only [g] w w' → (∀ b ∈ fp v', b = g ∨ b = w.heap.size) → K (a.put o.dst v') w') :
    if Region.wanted o (yielded ops a.tmps) = true then Oper.wp Try.prog o a w K Q else E := by
  have hw : Region.wanted o (yielded ops a.tmps) = true := by simp [Region.wanted, hgd]
  rw [if_pos hw]
  obtain ⟨i0, hi, hz0, hz1, hz2⟩ := info_parts info_elem
  have hr' := hr.kept hk
  have hown : w.ownsRow a0.heap.size 36 4 (.slice (some ⟨g, 0, none⟩) 0 0) 0 [] := own_made g _ 4 hg hB
  have h1 : ∀ y ∈ ys.flatMap cells4, y.oneCell' = true := by
    intro y hy
    obtain ⟨e, _, he⟩ := List.mem_flatMap.1 hy
    simp only [cells4, List.mem_cons, List.not_mem_nil, or_false] at he
    rcases he with rfl | rfl | rfl | rfl <;> rfl
  obtain ⟨v', w', hrun, h2, h3, h4⟩ := run_append_loc (P := Try.prog) w a0.heap.size 30 o.type 36 i0 _ 4 40 Try.underlying30 hi hz0 hz1 hz2 rfl (by omega) _ 0 [] hown u ys.length (ys.flatMap cells4) hr'.1 (flat_length cells4 4 (fun _ => rfl) ys) h1 (by unfold maxLen; omega) (by omega) hk.size
  have hon : Only [g] w w' := only_of_grown (v := .slice (some ⟨g, 0, none⟩) 0 0) h3
  unfold Oper.wp execOp
  simp only [ho, resolve, invoke, builtin, Sem.run_bind, Sem.run_pure, Result.andThen_ok, List.map_toArray, List.map_cons, List.map_nil, hs, hx, hrun]
  refine h v' w' ⟨by simpa using h2, hr.2⟩ (hon.above hk (by simpa using hg)) hon (fun b hb => ?_)
  have hb' : v'.ownBlock = some b := by simpa [fp] using hb
  rcases h4 with h4 | h4
  · rw [h4] at hb'
    left
    have : (Value.slice (some ⟨g, 0, none⟩) 0 0).ownBlock = some g := rfl
    rw [this] at hb'
    injection hb' with hb'
    exact hb'.symm
  · rw [h4] at hb'
    right
    injection hb' with hb'
    exact hb'.symm
end Go.Proofs.Ytpkmngkepmoikaa
