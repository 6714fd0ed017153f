/- Contracts of functions that the proof leans on. No condition. -/
import Derived.Test.YtkekpolfdmmgeaaGreatDoorMcb3262338e
import Derived.StillTailTactics
import Derived.Deep.RegionHeld3
import Derived.Deep.DeepCutAuto
import Derived.Lib.SliceRun
/- Lists of items compared; which items are valid. -/
namespace Go.Proofs.YtkekpolfdmmgeaaGreatDoor
set_option linter.unusedVariables false
set_option linter.unusedSimpArgs false
open Go.RowKit

/-! ### which items are valid -/
def itemB (it : ItemD) : Bool := it.names.all nameB && inB it.names.length 1 3 && (it.marks.length == it.names.length) && it.marks.all (inB · 0 3)
def itemsB (its : List ItemD) : Bool := its.all itemB && decide (its.length ≤ 14)
set_option maxHeartbeats 1000000 in
theorem isItem_any (v : Value) (it : ItemD) (w : World) (h : ItemAt w v it) :
    Calls Tryz.prog 40 #[v] w fun e w' => e = .returned (.bool (itemB it)) ∧ Kept w w' := by
  obtain ⟨nv, mv, rfl, q1, q2⟩ := h
  obtain ⟨A, c, rfl, hnc, hcm, hl⟩ := q1.1.out
  obtain ⟨A2, c2, rfl, hnc2, hcm2, _⟩ := q2.out
  unfold maxLen at hcm hcm2
  have HL := Lib.hid hl
  have HS := Lib.hid q1.2
  have H2 := Lib.hid q2
  clear q1 q2 hl
  go_enter Tryz.func40, Tryz.ntmps40
  go_wp2_with fail
  go_loop [8] (fun i => ∃ k : Nat, k ≤ it.names.length ∧ i = .int .i64 k ∧ (it.names.take k).all nameB = true) (fun i => it.names.length - (intOf i).toNat)
  case atStart => exact ⟨0, Nat.zero_le _, rfl, rfl⟩
  case round =>
    obtain ⟨k, hk, rfl, ha⟩ := hrel
    have HA := Lib.hid ha
    clear ha
    by_cases hlt : k < it.names.length
    · obtain ⟨b, o, z, rfl, hb, hz, hc⟩ := strs_at (HL.out.kept ((Kept.refl w).alloc (.cells #[.slice A it.names.length c, .slice A2 it.marks.length c2, .bool it.late] 64))) hlt
      have hzs := HS.out z (List.mem_of_getElem? hz)
      have HZ := Lib.hid hz
      clear hz
      by_cases hn : nameB z = true
      · go_wp2_with (go_at_call 45; refine (isName_any _ _ hzs).mono ?_; rintro e w' ⟨rfl, rfl⟩)
        go_round
        case rel => exact ⟨k + 1, by omega, by go_num, all_snoc HZ.out HA.out hn⟩
        case measure => simp [intOf]; omega
      · simp only [Bool.not_eq_true] at hn
        go_wp2_with (go_at_call 45; refine (isName_any _ _ hzs).mono ?_; rintro e w' ⟨rfl, rfl⟩)
        go_ret
        exact ⟨ret_bool (by unfold itemB; rw [all_not HZ.out hn]; rfl), (Kept.refl _).alloc _⟩
    · have hall := all_full (p := nameB) (by omega) HA.out
      have HALL := Lib.hid hall
      clear hall
      by_cases h3 : inB it.names.length 1 3 = true <;> by_cases h4 : it.marks.length = it.names.length
      all_goals
        try simp only [Bool.not_eq_true] at h3
        have H4 := Lib.hid h4
        first
          | (have h5 : ((it.marks.length : Int) == (it.names.length : Int)) = true := by simp [h4])
          | (have h5 : ((it.marks.length : Int) == (it.names.length : Int)) = false := beq_eq_false_iff_ne.2 (by omega))
        clear h4
        go_wp2_with (first | (go_at_call 68; refine (within_any _ _ _ _).mono ?_; rintro e w' ⟨rfl, rfl⟩) | (go_at_call 73; refine (allWithin_any _ _ _ _ _ (H2.out.kept ((Kept.refl w).alloc _))).mono ?_; rintro e w' ⟨rfl, rfl⟩))
        go_ret
        exact ⟨ret_bool (by unfold itemB; rw [HALL.out, h3]; simp [H4.out]), (Kept.refl _).alloc _⟩
set_option maxHeartbeats 1000000 in
theorem itGood_any (v : Value) (it : ItemD) (w : World) (h : ItemAt w v it) :
    Calls Tryz.prog 88 #[v] w fun e w' => e = .returned (.bool (itemB it)) ∧ Kept w w' := by
  obtain ⟨nv, mv, rfl, q1, q2⟩ := h
  obtain ⟨A, c, rfl, hnc, hcm, hl⟩ := q1.1.out
  obtain ⟨A2, c2, rfl, hnc2, hcm2, _⟩ := q2.out
  unfold maxLen at hcm hcm2
  have HL := Lib.hid hl
  have HS := Lib.hid q1.2
  have H2 := Lib.hid q2
  clear q1 q2 hl
  go_enter Tryz.func88, Tryz.ntmps88
  go_wp2_with fail
  go_loop [8] (fun i => ∃ k : Nat, k ≤ it.names.length ∧ i = .int .i64 k ∧ (it.names.take k).all nameB = true) (fun i => it.names.length - (intOf i).toNat)
  case atStart => exact ⟨0, Nat.zero_le _, rfl, rfl⟩
  case round =>
    obtain ⟨k, hk, rfl, ha⟩ := hrel
    have HA := Lib.hid ha
    clear ha
    by_cases hlt : k < it.names.length
    · obtain ⟨b, o, z, rfl, hb, hz, hc⟩ := strs_at (HL.out.kept ((Kept.refl w).alloc (.cells #[.slice A it.names.length c, .slice A2 it.marks.length c2, .bool it.late] 64))) hlt
      have hzs := HS.out z (List.mem_of_getElem? hz)
      have HZ := Lib.hid hz
      clear hz
      by_cases hn : nameB z = true
      · go_wp2_with (go_at_call 95; refine (itName_any _ _ hzs).mono ?_; rintro e w' ⟨rfl, rfl⟩)
        go_round
        case rel => exact ⟨k + 1, by omega, by go_num, all_snoc HZ.out HA.out hn⟩
        case measure => simp [intOf]; omega
      · simp only [Bool.not_eq_true] at hn
        go_wp2_with (go_at_call 95; refine (itName_any _ _ hzs).mono ?_; rintro e w' ⟨rfl, rfl⟩)
        go_ret
        exact ⟨ret_bool (by unfold itemB; rw [all_not HZ.out hn]; rfl), (Kept.refl _).alloc _⟩
    · have hall := all_full (p := nameB) (by omega) HA.out
      have HALL := Lib.hid hall
      clear hall
      by_cases h3 : inB it.names.length 1 3 = true <;> by_cases h4 : it.marks.length = it.names.length
      all_goals
        try simp only [Bool.not_eq_true] at h3
        have H4 := Lib.hid h4
        first
          | (have h5 : ((it.marks.length : Int) == (it.names.length : Int)) = true := by simp [h4])
          | (have h5 : ((it.marks.length : Int) == (it.names.length : Int)) = false := beq_eq_false_iff_ne.2 (by omega))
        clear h4
        go_wp2_with (first | (go_at_call 100; refine (l1In_any _ _ _ _).mono ?_; rintro e w' ⟨rfl, rfl⟩) | (go_at_call 101; refine (l1All_any _ _ _ _ _ (H2.out.kept ((Kept.refl w).alloc _))).mono ?_; rintro e w' ⟨rfl, rfl⟩))
        go_ret
        exact ⟨ret_bool (by unfold itemB; rw [HALL.out, h3]; simp [H4.out]), (Kept.refl _).alloc _⟩
set_option maxHeartbeats 1000000 in
theorem areItems_any (v : Value) (its : List ItemD) (w : World) (h : ItemsAt w v its) :
    Calls Tryz.prog 25 #[v] w fun e w' => e = .returned (.bool (itemsB its)) ∧ Kept w w' := by
  obtain ⟨A, c, cs, rfl, hnc, hcm, hA⟩ := h.out
  unfold maxLen at hcm
  have HA := Lib.hid hA
  clear hA h
  go_enter Tryz.func25, Tryz.ntmps25
  go_wp2_with fail
  go_loopw [7] (fun i wr => ∃ k : Nat, k ≤ its.length ∧ i = .int .i64 k ∧ (its.take k).all itemB = true ∧ Kept w wr) (fun i _ => its.length - (intOf i).toNat)
  case atStart => exact ⟨0, Nat.zero_le _, rfl, rfl, Kept.refl _⟩
  case round =>
    obtain ⟨k, hk, rfl, ha, hkept⟩ := hrel
    have HB := Lib.hid ha
    clear ha
    by_cases hlt : k < its.length
    · obtain ⟨b, o, A1, c1, A2, c2, it, rfl, hb, h2, h3, hit, q0, q1, q2⟩ := items_at (HA.out.kept hkept) hlt
      have HI := Lib.hid hit
      have HZ := Lib.hid h2
      clear h2 h3 hit
      by_cases hn : itemB it = true
      · go_wp2_with (go_at_call 40; refine (isItem_any _ it _ (HI.out.kept ((Kept.refl wr).alloc _))).mono ?_; rintro e w1 ⟨rfl, k1⟩)
        go_roundw
        case rel => exact ⟨k + 1, by omega, by go_num, all_snoc HZ.out HB.out hn, (hkept.alloc _).trans k1⟩
        case measure => simp [intOf]; omega
      · simp only [Bool.not_eq_true] at hn
        go_wp2_with (go_at_call 40; refine (isItem_any _ it _ (HI.out.kept ((Kept.refl wr).alloc _))).mono ?_; rintro e w1 ⟨rfl, k1⟩)
        go_ret
        exact ⟨ret_bool (by unfold itemsB; rw [all_not HZ.out hn]; rfl), (hkept.alloc _).trans k1⟩
    · have HALL := Lib.hid (all_full (p := itemB) (by omega) HB.out)
      go_wp2_with fail
      go_ret
      exact ⟨ret_bool (by unfold itemsB; rw [HALL.out, Bool.true_and]; exact decide_eq_decide.2 (by omega)), hkept⟩
set_option maxHeartbeats 1000000 in
theorem itList_any (v : Value) (its : List ItemD) (w : World) (h : ItemsAt w v its) :
    Calls Tryz.prog 79 #[v] w fun e w' => e = .returned (.bool (itemsB its)) ∧ Kept w w' := by
  obtain ⟨A, c, cs, rfl, hnc, hcm, hA⟩ := h.out
  unfold maxLen at hcm
  have HA := Lib.hid hA
  clear hA h
  go_enter Tryz.func79, Tryz.ntmps79
  go_wp2_with fail
  go_loopw [7] (fun i wr => ∃ k : Nat, k ≤ its.length ∧ i = .int .i64 k ∧ (its.take k).all itemB = true ∧ Kept w wr) (fun i _ => its.length - (intOf i).toNat)
  case atStart => exact ⟨0, Nat.zero_le _, rfl, rfl, Kept.refl _⟩
  case round =>
    obtain ⟨k, hk, rfl, ha, hkept⟩ := hrel
    have HB := Lib.hid ha
    clear ha
    by_cases hlt : k < its.length
    · obtain ⟨b, o, A1, c1, A2, c2, it, rfl, hb, h2, h3, hit, q0, q1, q2⟩ := items_at (HA.out.kept hkept) hlt
      have HI := Lib.hid hit
      have HZ := Lib.hid h2
      clear h2 h3 hit
      by_cases hn : itemB it = true
      · go_wp2_with (go_at_call 88; refine (itGood_any _ it _ (HI.out.kept ((Kept.refl wr).alloc _))).mono ?_; rintro e w1 ⟨rfl, k1⟩)
        go_roundw
        case rel => exact ⟨k + 1, by omega, by go_num, all_snoc HZ.out HB.out hn, (hkept.alloc _).trans k1⟩
        case measure => simp [intOf]; omega
      · simp only [Bool.not_eq_true] at hn
        go_wp2_with (go_at_call 88; refine (itGood_any _ it _ (HI.out.kept ((Kept.refl wr).alloc _))).mono ?_; rintro e w1 ⟨rfl, k1⟩)
        go_ret
        exact ⟨ret_bool (by unfold itemsB; rw [all_not HZ.out hn]; rfl), (hkept.alloc _).trans k1⟩
    · have HALL := Lib.hid (all_full (p := itemB) (by omega) HB.out)
      go_wp2_with fail
      go_ret
      exact ⟨ret_bool (by unfold itemsB; rw [HALL.out, Bool.true_and]; exact decide_eq_decide.2 (by omega)), hkept⟩
end Go.Proofs.YtkekpolfdmmgeaaGreatDoor

/- The marks that the laws write: strings. -/
namespace Go.Proofs.YtkekpolfdmmgeaaGreatDoor
set_option linter.unusedVariables false
set_option linter.unusedSimpArgs false
open Go.RowKit

/-! ### items marked -/
def nextK (k : Int) (it : ItemD) : Int := k + it.names.length + it.marks.length + 1
def markIt (k : Int) (it : ItemD) : ItemD := ⟨marksS k it.names.length, marksI (k + it.names.length) it.marks.length, ((k + it.names.length + it.marks.length) % 3 == 0)⟩
def ml : Int → List ItemD → List ItemD
  | _, [] => []
  | k, it :: l => markIt k it :: ml (nextK k it) l
def nk : Int → List ItemD → Int
  | k, [] => k
  | k, it :: l => nk (nextK k it) l
theorem ml_length (k : Int) (l : List ItemD) : (ml k l).length = l.length := by
  induction l generalizing k with
  | nil => rfl
  | cons it l ih => simp [ml, ih]
theorem ml_snoc (k : Int) (l : List ItemD) (it : ItemD) : ml k (l ++ [it]) = ml k l ++ [markIt (nk k l) it] := by
  induction l generalizing k with
  | nil => rfl
  | cons x l ih => simp [ml, nk, ih]
theorem nk_snoc (k : Int) (l : List ItemD) (it : ItemD) : nk k (l ++ [it]) = nextK (nk k l) it := by
  induction l generalizing k with
  | nil => rfl
  | cons x l ih => simp [nk, ih]
theorem nk_bd (k : Int) (l : List ItemD) : k ≤ nk k l ∧ nk k l ≤ k + itemsSize l := by
  induction l generalizing k with
  | nil => simp [nk, itemsSize]
  | cons it l ih =>
    have h := ih (nextK k it)
    have hp : it.names.length + it.marks.length ≤ it.size := by unfold ItemD.size strsSize; omega
    unfold nextK at h
    rw [nk]
    unfold nextK
    unfold itemsSize at *
    simp only [List.length_cons, List.map_cons, List.sum_cons]
    omega
theorem itemsSize_take (l : List ItemD) (k : Nat) : itemsSize (l.take k) ≤ itemsSize l := by
  unfold itemsSize
  have := sum_take _ ItemD.size l k
  have := List.length_take_le k l
  have : (l.take k).length ≤ l.length := by rw [List.length_take]; omega
  omega
/-- the list of items with the slices' values in hand -/
def OwnC (w : World) (base : Nat) (v : Value) (its : List ItemD) (cs : List (Value × Value)) : Prop :=
  cs.length = its.length ∧ w.ownsRow base 64 3 v its.length ((cs.zip its).flatMap row3) ∧
    (∀ (k : Nat) (nv mv : Value) (it : ItemD), cs[k]? = some (nv, mv) → its[k]? = some it → OwnS w base nv it.names ∧ OwnI w base mv it.marks) ∧ (fp v ++ fpL cs).Nodup
theorem fpL_other {cs : List (Value × Value)} (h : (fpL cs).Nodup) {i j : Nat} {p q : Value × Value} (hi : cs[i]? = some p) (hj : cs[j]? = some q) (hne : i ≠ j) {b : Nat} (hb : b ∈ fp p.1 ++ fp p.2) : b ∉ fp q.1 ++ fp q.2 := by
  have hp := (List.pairwise_flatMap.1 h).2
  rw [List.pairwise_iff_getElem] at hp
  obtain ⟨hil, rfl⟩ := List.getElem?_eq_some_iff.1 hi
  obtain ⟨hjl, rfl⟩ := List.getElem?_eq_some_iff.1 hj
  intro hb2
  rcases Nat.lt_or_gt_of_ne hne with hlt | hgt
  · exact hp i j hil hjl hlt b hb b hb2 rfl
  · exact hp j i hjl hil hgt b hb2 b hb rfl
theorem fpL_inner {cs : List (Value × Value)} (h : (fpL cs).Nodup) {i : Nat} {p : Value × Value} (hi : cs[i]? = some p) : (fp p.1 ++ fp p.2).Nodup := by
  exact (List.pairwise_flatMap.1 h).1 p (List.mem_of_getElem? hi)
theorem flat_row3 (cs : List (Value × Value)) (its : List ItemD) : (cs.zip its).flatMap row3 = (cs.zip (its.map ItemD.late)).flatMap fun p => [p.1.1, p.1.2, .bool p.2] := by
  rw [List.zip_map_right, List.flatMap_map]
  rfl
theorem set_same {α : Type} {l : List α} {k : Nat} {x : α} (h : l[k]? = some x) : l.set k x = l := by
  obtain ⟨hk, rfl⟩ := List.getElem?_eq_some_iff.1 h
  exact List.set_getElem_self hk
theorem OwnC.setItem {w w' : World} {base : Nat} {v : Value} {its : List ItemD} {cs : List (Value × Value)} {j : Nat} {it it' : ItemD} {nv mv : Value} {T : List Nat}
    (h : OwnC w base v its cs) (hi : its[j]? = some it) (hc : cs[j]? = some (nv, mv)) (ho : Only T w w') (hT : ∀ b ∈ T, b ∈ fp nv ++ fp mv) (hl : it'.late = it.late) (hn : OwnS w' base nv it'.names) (hm : OwnI w' base mv it'.marks) :
    OwnC w' base v (its.set j it') cs := by
  obtain ⟨h1, h2, h3, h4⟩ := h
  have hnd := (List.nodup_append.1 h4)
  refine ⟨by simpa using h1, ?_, ?_, h4⟩
  · have hz : (cs.zip (its.set j it')).flatMap row3 = (cs.zip its).flatMap row3 := by
      rw [flat_row3, flat_row3, List.map_set, hl, set_same (by rw [List.getElem?_map, hi]; rfl)]
    rw [hz, List.length_set]
    refine own_only h2 ho (fun b hb hbT => ?_)
    exact hnd.2.2 b hb b (mem_fpL hc (List.mem_append.1 (hT b hbT))) rfl
  · intro k nv' mv' x q1 q2
    by_cases hk : k = j
    · subst hk
      rw [hc] at q1
      simp at q1
      obtain ⟨rfl, rfl⟩ := q1
      have hlt : k < its.length := (List.getElem?_eq_some_iff.1 hi).1
      rw [List.getElem?_set_self hlt] at q2
      simp at q2
      subst q2
      exact ⟨hn, hm⟩
    · rw [List.getElem?_set_ne (Ne.symm hk)] at q2
      obtain ⟨r1, r2⟩ := h3 k nv' mv' x q1 q2
      have hd := fun b hb => fpL_other hnd.2.1 q1 hc hk (b := b) hb
      exact ⟨r1.only ho (fun b hb hbT => hd b (List.mem_append_left _ hb) (hT b hbT)), r2.only ho (fun b hb hbT => hd b (List.mem_append_right _ hb) (hT b hbT))⟩
end Go.Proofs.YtkekpolfdmmgeaaGreatDoor

/- Lists of items marked, and read again. -/
namespace Go.Proofs.YtkekpolfdmmgeaaGreatDoor
set_option linter.unusedVariables false
set_option linter.unusedSimpArgs false
open Go.RowKit

theorem zip_set_row {cs : List (Value × Value)} {its : List ItemD} {j : Nat} {it' : ItemD} (hl : cs.length = its.length) (hj : j < its.length) :
    ((cs.zip its).flatMap row3).set (j * 3 + 2) (.bool it'.late) = (cs.zip (its.set j it')).flatMap row3 := by
  have hz : (cs.zip its).length = its.length := by rw [List.length_zip]; omega
  have hz' : (cs.zip (its.set j it')).length = its.length := by rw [List.length_zip, List.length_set]; omega
  apply List.ext_getElem?
  intro i
  by_cases hi : i < its.length * 3
  · have e : i = i / 3 * 3 + i % 3 := by omega
    have hm : i % 3 < 3 := by omega
    have hq : i / 3 < its.length := by omega
    have f1 := flat_get row3 3 (fun _ => rfl) (cs.zip its) (i / 3) (i % 3) hm
    have f2 := flat_get row3 3 (fun _ => rfl) (cs.zip (its.set j it')) (i / 3) (i % 3) hm
    rw [← e] at f1 f2
    have g1 : (cs.zip its)[i / 3]? = some (cs[i / 3], its[i / 3]) := by
      rw [List.getElem?_zip_eq_some]
      exact ⟨List.getElem?_eq_getElem _, List.getElem?_eq_getElem _⟩
    have g2 : (cs.zip (its.set j it'))[i / 3]? = some (cs[i / 3], (its.set j it')[i / 3]'(by rw [List.length_set]; exact hq)) := by
      rw [List.getElem?_zip_eq_some]
      exact ⟨List.getElem?_eq_getElem _, List.getElem?_eq_getElem _⟩
    rw [g1] at f1
    rw [g2] at f2
    rw [f2, List.getElem?_set, f1]
    by_cases hij : i / 3 = j
    · subst hij
      have h3 : i % 3 = 0 ∨ i % 3 = 1 ∨ i % 3 = 2 := by omega
      rcases h3 with h | h | h
      · rw [if_neg (by omega), h]; rfl
      · rw [if_neg (by omega), h]; rfl
      · rw [if_pos (by omega), if_pos (by rw [flat_length row3 3 (fun _ => rfl), hz]; omega), h]
        simp [row3]
    · rw [if_neg (by omega)]
      have : (its.set j it')[i / 3]'(by rw [List.length_set]; exact hq) = its[i / 3] := by rw [List.getElem_set_ne (Ne.symm hij)]
      simp [row3, this]
  · rw [List.getElem?_eq_none (by rw [List.length_set, flat_length row3 3 (fun _ => rfl), hz]; omega), List.getElem?_eq_none (by rw [flat_length row3 3 (fun _ => rfl), hz']; omega)]
theorem OwnC.setLate {w : World} {base g cap n : Nat} {its : List ItemD} {cs : List (Value × Value)} {j : Nat} {it it' : ItemD} {nv mv : Value}
    (h : OwnC w base (.slice (some ⟨g, 0, none⟩) n cap) its cs) (hnl : n = its.length) (hi : its[j]? = some it) (hc : cs[j]? = some (nv, mv)) (hn : it'.names = it.names) (hm : it'.marks = it.marks) :
    OwnC (w.setCell ⟨g, j * 3 + 2, none⟩ (.bool it'.late)) base (.slice (some ⟨g, 0, none⟩) n cap) (its.set j it') cs := by
  subst hnl
  obtain ⟨h1, h2, h3, h4⟩ := h
  have hj : j < its.length := (List.getElem?_eq_some_iff.1 hi).1
  have hnd := List.nodup_append.1 h4
  have ho : Only [g] w (w.setCell ⟨g, j * 3 + 2, none⟩ (.bool it'.late)) := (Only.refl _ _).setCell (by simp) _
  refine ⟨by simpa using h1, ?_, ?_, h4⟩
  · have hs := (h2.stored (j * 3 + 2) (.bool it'.late)).1
    rw [zip_set_row h1 hj] at hs
    rw [List.length_set]
    exact hs
  · intro k nv' mv' x q1 q2
    have hg : ∀ b, b ∈ fp nv' ∨ b ∈ fp mv' → b ∉ [g] := fun b hb hbg => by
      rw [List.mem_singleton] at hbg
      exact hnd.2.2 g (by simp [fp_some]) b (mem_fpL q1 hb) hbg.symm
    by_cases hk : k = j
    · subst hk
      rw [List.getElem?_set_self hj] at q2
      simp at q2
      subst q2
      obtain ⟨r1, r2⟩ := h3 k nv' mv' it q1 hi
      rw [hn, hm]
      exact ⟨r1.only ho (fun b hb => hg b (.inl hb)), r2.only ho (fun b hb => hg b (.inr hb))⟩
    · rw [List.getElem?_set_ne (Ne.symm hk)] at q2
      obtain ⟨r1, r2⟩ := h3 k nv' mv' x q1 q2
      exact ⟨r1.only ho (fun b hb => hg b (.inl hb)), r2.only ho (fun b hb => hg b (.inr hb))⟩
/-- the cells of an item of a list that the call owns -/
theorem ownC_cells {w : World} {base g n cap : Nat} {its : List ItemD} {cs : List (Value × Value)} {j : Nat} {it : ItemD} {nv mv : Value} (h : OwnC w base (.slice (some ⟨g, 0, none⟩) n cap) its cs) (hi : its[j]? = some it) (hc : cs[j]? = some (nv, mv)) :
    (w.cell? ⟨g, j * 3, none⟩ = some nv ∧ w.cell? ⟨g, j * 3 + 1, none⟩ = some mv ∧ w.cell? ⟨g, j * 3 + 2, none⟩ = some (.bool it.late)) ∧
      (w.frozen? ⟨g, j * 3, none⟩ = false ∧ w.frozen? ⟨g, j * 3 + 1, none⟩ = false ∧ w.frozen? ⟨g, j * 3 + 2, none⟩ = false) := by
  obtain ⟨h1, h2, h3, h4⟩ := h
  obtain ⟨A', c', e, _, _, hA⟩ := own_form h2
  simp only [Value.slice.injEq] at e
  obtain ⟨_, hn, rfl⟩ := e
  subst hn
  have hj : j < its.length := (List.getElem?_eq_some_iff.1 hi).1
  have hz : (cs.zip its)[j]? = some ((nv, mv), it) := by rw [List.getElem?_zip_eq_some]; exact ⟨hc, hi⟩
  have hf := flat_get row3 3 (fun _ => rfl) (cs.zip its) j
  have hcell : ∀ i, i < 3 → w.cell? ⟨g, j * 3 + i, none⟩ = (row3 ((nv, mv), it))[i]? := fun i hi3 => by
    rw [h2.cellAt (j * 3 + i) (by omega), hf i hi3, hz]
    rfl
  exact ⟨⟨hcell 0 (by omega), hcell 1 (by omega), hcell 2 (by omega)⟩, h2.frozenAt _, h2.frozenAt _, h2.frozenAt _⟩
theorem ownC_at {w : World} {base : Nat} {A : Option Addr} {n c : Nat} {its : List ItemD} {cs : List (Value × Value)} (h : OwnC w base (.slice A n c) its cs) (hnl : n = its.length) {j : Nat} (hj : j < n) :
    ∃ g A1 c1 A2 c2 it, A = some ⟨g, 0, none⟩ ∧ its[j]? = some it ∧ cs[j]? = some (.slice A1 it.names.length c1, .slice A2 it.marks.length c2) ∧
      OwnS w base (.slice A1 it.names.length c1) it.names ∧ OwnI w base (.slice A2 it.marks.length c2) it.marks := by
  subst hnl
  obtain ⟨h1, h2, h3, h4⟩ := h
  obtain ⟨A', c', e, _, _, hA⟩ := own_form h2
  simp only [Value.slice.injEq] at e
  obtain ⟨rfl, _, rfl⟩ := e
  obtain ⟨g, rfl⟩ := hA (by omega)
  have q1 : its[j]? = some its[j] := List.getElem?_eq_getElem hj
  obtain ⟨nv, mv, q2⟩ : ∃ nv mv, cs[j]? = some (nv, mv) := ⟨_, _, List.getElem?_eq_getElem (by omega)⟩
  obtain ⟨r1, r2⟩ := h3 j nv mv its[j] q2 q1
  obtain ⟨A1, c1, rfl, _⟩ := own_form r1.1
  obtain ⟨A2, c2, rfl, _⟩ := own_form r2
  exact ⟨g, A1, c1, A2, c2, its[j], rfl, q1, q2, r1, r2⟩
theorem OwnC.items {w : World} {base : Nat} {v : Value} {its : List ItemD} {cs : List (Value × Value)} (h : OwnC w base v its cs) : ItemsAt w v its := by
  obtain ⟨h1, h2, h3, _⟩ := h
  exact ⟨cs, h1, Seq.of_own h2, fun k nv mv it q1 q2 => ⟨(h3 k nv mv it q1 q2).1.strs, (h3 k nv mv it q1 q2).2.ints⟩⟩
theorem OwnC.only {w w' : World} {base : Nat} {v : Value} {its : List ItemD} {cs : List (Value × Value)} {T : List Nat} (h : OwnC w base v its cs) (ho : Only T w w') (hd : ∀ b ∈ fp v ++ fpL cs, b ∉ T) : OwnC w' base v its cs := by
  obtain ⟨h1, h2, h3, h4⟩ := h
  exact ⟨h1, own_only h2 ho (fun b hb => hd b (List.mem_append_left _ hb)), fun k nv mv it q1 q2 => ⟨(h3 k nv mv it q1 q2).1.only ho (fun b hb => hd b (List.mem_append_right _ (mem_fpL q1 (.inl hb)))), (h3 k nv mv it q1 q2).2.only ho (fun b hb => hd b (List.mem_append_right _ (mem_fpL q1 (.inr hb))))⟩, h4⟩
theorem OwnC.kept {w w' : World} {base : Nat} {v : Value} {its : List ItemD} {cs : List (Value × Value)} (h : OwnC w base v its cs) (hk : Kept w w') : OwnC w' base v its cs := h.only (hk.only []) (fun _ _ => List.not_mem_nil)
theorem OwnL.toC {w : World} {base : Nat} {v : Value} {its : List ItemD} {S : List Nat} (h : OwnL w base v its S) : ∃ cs, OwnC w base v its cs ∧ S = fp v ++ fpL cs ∧ ∀ b ∈ S, base ≤ b ∧ b < w.heap.size := by
  obtain ⟨cs, h1, h2, h3, h4, h5, h6⟩ := h
  exact ⟨cs, ⟨h1, h2, h3, h4 ▸ h5⟩, h4, h6⟩
theorem set_mid {α : Type} (A B : List α) (x y : α) (j : Nat) (hj : j = A.length) : (A ++ x :: B).set j y = A ++ y :: B := by
  subst hj
  rw [List.set_append_right _ _ (Nat.le_refl _)]
  simp
theorem ml_step (k : Int) (its : List ItemD) (j : Nat) (it : ItemD) (h : its[j]? = some it) :
    (ml k (its.take j) ++ its.drop j).set j (markIt (nk k (its.take j)) it) = ml k (its.take (j + 1)) ++ its.drop (j + 1) := by
  obtain ⟨hj, rfl⟩ := List.getElem?_eq_some_iff.1 h
  rw [List.drop_eq_getElem_cons hj, set_mid _ _ _ _ _ (by rw [ml_length, List.length_take]; omega), take_snoc h, ml_snoc, List.append_assoc]
  rfl
theorem ml_at (k : Int) (its : List ItemD) (j : Nat) (hj : j < its.length) : (ml k (its.take j) ++ its.drop j)[j]? = its[j]? := by
  have hl : (ml k (its.take j)).length = j := by rw [ml_length, List.length_take]; omega
  rw [List.getElem?_append_right (by omega), hl, Nat.sub_self, List.getElem?_drop, Nat.add_zero]
theorem ml_len (k : Int) (its : List ItemD) (j : Nat) (hj : j ≤ its.length) : (ml k (its.take j) ++ its.drop j).length = its.length := by
  rw [List.length_append, ml_length, List.length_take, List.length_drop]
  omega
theorem ml_get (k : Int) (its : List ItemD) (j : Nat) (it : ItemD) (h : its[j]? = some it) : (ml k its)[j]? = some (markIt (nk k (its.take j)) it) := by
  induction its generalizing k j with
  | nil => simp at h
  | cons x l ih =>
    cases j with
    | zero => simp at h; subst h; simp [ml, nk]
    | succ j => simp at h; simp [ml, nk, ih _ _ h]
end Go.Proofs.YtkekpolfdmmgeaaGreatDoor

/- Lists of items that a call builds by append. -/
namespace Go.Proofs.YtkekpolfdmmgeaaGreatDoor
set_option linter.unusedVariables false
set_option linter.unusedSimpArgs false
open Go.RowKit

theorem ownT_fps {w : World} {base : Nat} {v : Value} {it : ItemD} (h : OwnT w base v it) : ∀ b ∈ fpA v, base ≤ b ∧ b < w.heap.size := by
  obtain ⟨nv, mv, rfl, h1, h2, h3⟩ := h
  rw [fpA_item]
  intro b hb
  rcases List.mem_append.1 hb with hb | hb
  · exact own_fp h1.1 b hb
  · exact own_fp h2 b hb
theorem OwnC.fps {w : World} {base : Nat} {v : Value} {its : List ItemD} {cs : List (Value × Value)} (h : OwnC w base v its cs) : ∀ b ∈ fp v ++ fpL cs, base ≤ b ∧ b < w.heap.size := by
  obtain ⟨h1, h2, h3, _⟩ := h
  intro b hb
  rcases List.mem_append.1 hb with hb | hb
  · exact own_fp h2 b hb
  · unfold fpL at hb
    obtain ⟨⟨nv, mv⟩, hp, hb⟩ := List.mem_flatMap.1 hb
    obtain ⟨k, hk⟩ := List.getElem?_of_mem hp
    have hlt : k < its.length := by rw [← h1]; exact (List.getElem?_eq_some_iff.1 hk).1
    obtain ⟨q1, q2⟩ := h3 k nv mv its[k] hk (List.getElem?_eq_getElem hlt)
    rcases List.mem_append.1 hb with hb | hb
    · exact own_fp q1.1 b hb
    · exact own_fp q2 b hb
theorem OwnC.base {w : World} {base base' : Nat} {v : Value} {its : List ItemD} {cs : List (Value × Value)} (h : OwnC w base v its cs) (hb : base' ≤ base) : OwnC w base' v its cs :=
  ⟨h.1, own_base h.2.1 hb, fun k nv mv it q1 q2 => ⟨⟨own_base (h.2.2.1 k nv mv it q1 q2).1.1 hb, (h.2.2.1 k nv mv it q1 q2).1.2⟩, own_base (h.2.2.1 k nv mv it q1 q2).2 hb⟩, h.2.2.2⟩
theorem OwnC.toL {w : World} {base : Nat} {v : Value} {its : List ItemD} {cs : List (Value × Value)} (h : OwnC w base v its cs) : OwnL w base v its (fp v ++ fpL cs) :=
  ⟨cs, h.1, h.2.1, h.2.2.1, rfl, h.2.2.2, h.fps⟩
theorem OwnC.nil0 (w : World) (base : Nat) : OwnC w base (.slice none 0 0) [] [] := ⟨rfl, World.ownsRow_nil _ _ _ _, fun k _ _ _ h => by simp at h, by simp [fp, fpL, Value.ownBlock]⟩
theorem OwnC.made {w : World} {base : Nat} (g : Nat) (hb : base ≤ g) (h : Box w g 64 #[]) : OwnC w base (.slice (some ⟨g, 0, none⟩) 0 0) [] [] :=
  ⟨rfl, own_made g _ 3 hb h, fun k _ _ _ h => by simp at h, by simp [fp_some, fpL]⟩
/-- one item more -/
theorem OwnC.push {w w' : World} {base : Nat} {v v' nv mv : Value} {its : List ItemD} {cs : List (Value × Value)} {it : ItemD} (h : OwnC w base v its cs) (hn : OwnS w base nv it.names) (hm : OwnI w base mv it.marks)
    (hnd : (fp nv ++ fp mv).Nodup) (hd : ∀ b ∈ fp nv ++ fp mv, b ∉ fp v ++ fpL cs) (ho : w'.ownsRow base 64 3 v' (its.length + 1) ((cs.zip its).flatMap row3 ++ [nv, mv, .bool it.late]))
    (hg : w.grownBy w' v.ownBlock) (hv : v'.ownBlock = v.ownBlock ∨ v'.ownBlock = some w.heap.size) : OwnC w' base v' (its ++ [it]) (cs ++ [(nv, mv)]) := by
  have hon := only_of_grown hg
  have hfs := h.fps
  have hfn : ∀ b ∈ fp nv ++ fp mv, b < w.heap.size := fun b hb => by
    rcases List.mem_append.1 hb with hb | hb
    · exact (own_fp hn.1 b hb).2
    · exact (own_fp hm b hb).2
  have hd1 : ∀ b ∈ fp nv ++ fp mv, b ∉ fp v := fun b hb hb' => hd b hb (List.mem_append_left _ hb')
  have hnod := List.nodup_append.1 h.2.2.2
  refine ⟨by simp [h.1], ?_, ?_, ?_⟩
  · rw [List.length_append, List.length_singleton]
    have e : (cs ++ [(nv, mv)]).zip (its ++ [it]) = cs.zip its ++ [((nv, mv), it)] := by
      rw [List.zip_append h.1]
      rfl
    rw [e, List.flatMap_append]
    simpa [row3] using ho
  · intro k nv' mv' it' q1 q2
    rcases getElem?_snoc q1 with q | ⟨qk, qe⟩
    · have hk : k < its.length := by rw [← h.1]; exact (List.getElem?_eq_some_iff.1 q).1
      rw [List.getElem?_append_left hk] at q2
      obtain ⟨r1, r2⟩ := h.2.2.1 k nv' mv' it' q q2
      have hx : ∀ b, b ∈ fp nv' ∨ b ∈ fp mv' → b ∉ fp v := fun b hb hb' => hnod.2.2 b hb' b (mem_fpL q hb) rfl
      exact ⟨r1.only hon (fun b hb => hx b (.inl hb)), r2.only hon (fun b hb => hx b (.inr hb))⟩
    · simp only [Prod.mk.injEq] at qe
      obtain ⟨rfl, rfl⟩ := qe
      rw [qk, h.1, List.getElem?_concat_length] at q2
      injection q2 with q2
      subst q2
      exact ⟨hn.only hon (fun b hb => hd1 b (List.mem_append_left _ hb)), hm.only hon (fun b hb => hd1 b (List.mem_append_right _ hb))⟩
  · rw [fpL_snoc]
    have hv' : ∀ b ∈ fp v', b ∈ fp v ∨ b = w.heap.size := fun b hb => by
      have hb' : v'.ownBlock = some b := by simpa [fp] using hb
      rcases hv with hv | hv
      · left
        rw [hv] at hb'
        simpa [fp] using hb'
      · right
        rw [hv] at hb'
        injection hb' with hb'
        exact hb'.symm
    rw [List.nodup_append]
    refine ⟨nodup_one _, List.nodup_append.2 ⟨hnod.2.1, hnd, fun x hx y hy e => ?_⟩, fun x hx y hy e => ?_⟩
    · subst e
      exact hd x hy (List.mem_append_right _ hx)
    · subst e
      rcases hv' x hx with hx | rfl
      · rcases List.mem_append.1 hy with hy | hy
        · exact hnod.2.2 x hx x hy rfl
        · exact hd1 x hy hx
      · rcases List.mem_append.1 hy with hy | hy
        · have := (hfs _ (List.mem_append_right _ hy)).2
          omega
        · have := hfn _ hy
          omega
theorem set3 {w : World} {g : Nat} {t : TypeId} {x0 x1 x2 : Value} (h : Box w g t #[x0, x1, x2]) (u0 u1 u2 : Value) :
    ∃ w9, w9 = ((w.setCell ⟨g, 0, none⟩ u0).setCell ⟨g, 1, none⟩ u1).setCell ⟨g, 2, none⟩ u2 ∧ Box w9 g t #[u0, u1, u2] ∧ Only [g] w w9 :=
  ⟨_, rfl, ((h.set 0 u0).set 1 u1).set 2 u2, (((Only.refl [g] w).setCell (by simp) _).setCell (by simp) _).setCell (by simp) _⟩
theorem Box.far3 {w : World} {b g : Nat} {t : TypeId} {cs : Array Value} (h : Box w b t cs) (hne : b ≠ g) (u0 u1 u2 : Value) :
    Box (((w.setCell ⟨g, 0, none⟩ u0).setCell ⟨g, 1, none⟩ u1).setCell ⟨g, 2, none⟩ u2) b t cs := ((h.far _ hne _).far _ hne _).far _ hne _
/-- append(out, item) -/
theorem run_append_T {P : Program} (w : World) (base : Nat) (t ty e : TypeId) (i : TypeInfo) (z : Value) (ht : P.underlying t = some (.slice e)) (hi : P.info? e = some i) (hz : i.zero = some z)
    (hsize : i.size = 3) (hby : i.bytes = 56) (hzs : z.cells.size = 3) (v : Value) (n : Nat) (xs : List Value) (hown : w.ownsRow base e 3 v n xs) (g : Nat) (c0 c1 c2 : Value) (hB : Box w g e #[c0, c1, c2])
    (h1 : c0.oneCell' = true ∧ c1.oneCell' = true ∧ c2.oneCell' = true) (hl : n ≤ 1000000) (hbase : base ≤ w.heap.size) :
    ∃ v' w', (Builtin.append_ #[t, t] ty #[v, .slice (some ⟨g, 0, none⟩) 1 1]).run P w = .ok v' w' ∧ w'.ownsRow base e 3 v' (n + 1) (xs ++ [c0, c1, c2]) ∧ w.grownBy w' v.ownBlock ∧ (v'.ownBlock = v.ownBlock ∨ v'.ownBlock = some w.heap.size) := by
  obtain ⟨v', w', hrun, h2, h3, _, h5⟩ := run_append_own_at (P := P) w base t ty e i z 3 56 ht hi hz hsize hby hzs (by omega) v n xs hown ⟨g, 0, none⟩ 1 1 [c0, c1, c2] rfl (by
    intro j u hu
    have e1 : (⟨g, 0, none⟩ : Addr).add j = ⟨g, j, none⟩ := by unfold Addr.add; split <;> simp_all
    rw [e1, hB.cell j, ← hu]
    exact List.getElem?_toArray (xs := [c0, c1, c2]) (i := j)) (by
    intro u hu
    simp only [List.mem_cons, List.not_mem_nil, or_false] at hu
    rcases hu with rfl | rfl | rfl
    · exact h1.1
    · exact h1.2.1
    · exact h1.2.2) (by unfold maxLen; omega) (by omega) hbase
  exact ⟨v', w', hrun, h2, h3, h5⟩
theorem wp_append_T (w : World) {o : Oper} {a : Act} {K : Act → World → Prop} {Q : Exit → Act → World → Prop} (s x : Operand)
    (ho : o.op = .call { callee := .builtin .append, args := #[s, x], argTypes := #[46, 46] })
    (base : Nat) (v : Value) (n : Nat) (xs : List Value) (hs : a.eval s = v) (hown : w.ownsRow base 64 3 v n xs) (g : Nat) (c0 c1 c2 : Value) (hx : a.eval x = .slice (some ⟨g, 0, none⟩) 1 1)
    (hB : Box w g 64 #[c0, c1, c2]) (h1 : c0.oneCell' = true ∧ c1.oneCell' = true ∧ c2.oneCell' = true) (hl : n ≤ 1000000) (hbase : base ≤ w.heap.size)
    (h : ∀ v' w', w'.ownsRow base 64 3 v' (n + 1) (xs ++ [c0, c1, c2]) → w.grownBy w' v.ownBlock → (v'.ownBlock = v.ownBlock ∨ v'.ownBlock = some w.heap.size) → K (a.put o.dst v') w') : o.wp Tryz.prog a w K Q := by
  obtain ⟨i0, hi, hz0, hz1, hz2⟩ := info_parts info_item
  obtain ⟨v', w', hrun, h2, h3, h4⟩ := run_append_T (P := Tryz.prog) w base 46 o.type 64 i0 _ Tryz.underlying46 hi hz0 hz1 hz2 rfl v n xs hown g c0 c1 c2 hB h1 hl hbase
  unfold Oper.wp execOp
  simp only [ho, resolve, invoke, builtin, Sem.run_bind, Sem.run_pure, Result.andThen_ok, List.map_toArray, List.map_cons, List.map_nil, hs, hx, hrun]
  exact h v' w' h2 h3 h4
theorem wpList_append_T (w : World) {ops : Array Oper} {rest : List Oper} {o : Oper} {a : Act} {Q : Exit → Act → World → Prop} (hgd : o.guard = none) (s x : Operand)
    (ho : o.op = .call { callee := .builtin .append, args := #[s, x], argTypes := #[46, 46] })
    (base : Nat) (v : Value) (n : Nat) (xs : List Value) (hs : a.eval s = v) (hown : w.ownsRow base 64 3 v n xs) (g : Nat) (c0 c1 c2 : Value) (hx : a.eval x = .slice (some ⟨g, 0, none⟩) 1 1)
    (hB : Box w g 64 #[c0, c1, c2]) (h1 : c0.oneCell' = true ∧ c1.oneCell' = true ∧ c2.oneCell' = true) (hl : n ≤ 1000000) (hbase : base ≤ w.heap.size)
    (h : ∀ v' w', w'.ownsRow base 64 3 v' (n + 1) (xs ++ [c0, c1, c2]) → w.grownBy w' v.ownBlock → (v'.ownBlock = v.ownBlock ∨ v'.ownBlock = some w.heap.size) → wpList Tryz.prog ops Q rest (a.put o.dst v') w') : wpList Tryz.prog ops Q (o :: rest) a w :=
  wpList_plain hgd fun _ hK => wp_append_T w s x ho base v n xs hs hown g c0 c1 c2 hx hB h1 hl hbase fun v' w' h2 h3 h4 => hK _ _ (h v' w' h2 h3 h4)
theorem step_append_T (w : World) {ops : Array Oper} {o : Oper} {a : Act} {K : Act → World → Prop} {Q : Exit → Act → World → Prop} {E : Prop} (hgd : o.guard = none) (s x : Operand)
    (ho : o.op = .call { callee := .builtin .append, args := #[s, x], argTypes := #[46, 46] })
    (base : Nat) (v : Value) (n : Nat) (xs : List Value) (hs : a.eval s = v) (hown : w.ownsRow base 64 3 v n xs) (g : Nat) (c0 c1 c2 : Value) (hx : a.eval x = .slice (some ⟨g, 0, none⟩) 1 1)
    (hB : Box w g 64 #[c0, c1, c2]) (h1 : c0.oneCell' = true ∧ c1.oneCell' = true ∧ c2.oneCell' = true) (hl : n ≤ 1000000) (hbase : base ≤ w.heap.size)
    (h : ∀ v' w', w'.ownsRow base 64 3 v' (n + 1) (xs ++ [c0, c1, c2]) → w.grownBy w' v.ownBlock → (v'.ownBlock = v.ownBlock ∨ v'.ownBlock = some w.heap.size) → K (a.put o.dst v') w') :
    if Region.wanted o (yielded ops a.tmps) = true then Oper.wp Tryz.prog o a w K Q else E := by
  have hw : Region.wanted o (yielded ops a.tmps) = true := by simp [Region.wanted, hgd]
  rw [if_pos hw]
  exact wp_append_T w s x ho base v n xs hs hown g c0 c1 c2 hx hB h1 hl hbase h
/-! ### one row after another -/
theorem mixA_get {α : Type} {a b : List α} {j : Nat} (h : a.length = b.length) (hj : j < b.length) : (a.take j ++ b.drop j)[j]? = b[j]? := by
  rw [List.getElem?_append_right (by rw [List.length_take]; omega), List.length_take, Nat.min_eq_left (by omega), Nat.sub_self, List.getElem?_drop, Nat.add_zero]
theorem mixA_set {α : Type} {a b : List α} {j : Nat} {z : α} (h : a.length = b.length) (hj : j < b.length) (hz : a[j]? = some z) : (a.take j ++ b.drop j).set j z = a.take (j + 1) ++ b.drop (j + 1) := by
  rw [List.set_append_right _ _ (by rw [List.length_take]; omega), List.length_take, Nat.min_eq_left (by omega), Nat.sub_self, take_snoc hz, List.append_assoc]
  congr 1
  rw [List.drop_eq_getElem_cons hj]
  rfl
theorem mixA_len {α : Type} {a b : List α} {j : Nat} (h : a.length = b.length) (hj : j ≤ b.length) : (a.take j ++ b.drop j).length = b.length := by
  rw [List.length_append, List.length_take, List.length_drop]; omega
end Go.Proofs.YtkekpolfdmmgeaaGreatDoor

/- Items under construction by a draw: a box with a row of names and a row of marks, beside a cursor. -/
namespace Go.Proofs.YtkekpolfdmmgeaaGreatDoor
set_option linter.unusedVariables false
set_option linter.unusedSimpArgs false
set_option linter.unnecessarySimpa false
open Go.RowKit

/-- append(out, xs...), strings: only the row's own block turns; where the new row lies -/
theorem wp_append_SX (w : World) {o : Oper} {a : Act} {K : Act → World → Prop} {Q : Exit → Act → World → Prop} (s x : Operand)
    (ho : o.op = .call { callee := .builtin .append, args := #[s, x], argTypes := #[57, 57] })
    (base : Nat) (v : Value) (zs : List ByteArray) (hs : a.eval s = v) (hown : OwnS w base v zs) (u : Value) (ys : List ByteArray) (hx : a.eval x = u) (hr : Strs w u ys)
    (hl : zs.length + ys.length ≤ 16777216) (hbase : base ≤ w.heap.size)
    (h : ∀ v' w', OwnS w' base v' (zs ++ ys) → Only (fp v) w w' → (∀ b ∈ fp v', b ∈ fp v ∨ b = w.heap.size) → K (a.put o.dst v') w') : o.wp Tryz.prog a w K Q := by
  obtain ⟨i0, hi, hz0, hz1, hz2⟩ := info_parts info_str
  obtain ⟨v', w', hrun, h2, h3, h4⟩ := run_append_locG (P := Tryz.prog) w base 57 o.type 9 i0 _ 1 16 Tryz.underlying57 hi hz0 hz1 hz2 rfl (by omega) v zs.length _ hown.1 u ys.length (ys.map Value.string) hr.1 (by simp) (fun y hy => by obtain ⟨_, _, rfl⟩ := List.mem_map.1 hy; rfl) (by unfold maxLen; omega) (by omega) hbase
  unfold Oper.wp execOp
  simp only [ho, resolve, invoke, builtin, Sem.run_bind, Sem.run_pure, Result.andThen_ok, List.map_toArray, List.map_cons, List.map_nil, hs, hx, hrun]
  refine h v' w' ⟨by rw [List.length_append, List.map_append]; exact h2, fun e he => ?_⟩ (only_of_grown h3) (fun b hb => ?_)
  · rcases List.mem_append.1 he with he | he
    · exact hown.2 e he
    · exact hr.2 e he
  · have hb' : v'.ownBlock = some b := by simpa [fp] using hb
    rcases h4 with h4 | h4
    · left; rw [h4] at hb'; simpa [fp] using hb'
    · right; rw [h4] at hb'; exact (Option.some.inj hb').symm
theorem wpList_append_SX (w : World) {ops : Array Oper} {rest : List Oper} {o : Oper} {a : Act} {Q : Exit → Act → World → Prop} (hgd : o.guard = none) (s x : Operand)
    (ho : o.op = .call { callee := .builtin .append, args := #[s, x], argTypes := #[57, 57] })
    (base : Nat) (v : Value) (zs : List ByteArray) (hs : a.eval s = v) (hown : OwnS w base v zs) (u : Value) (ys : List ByteArray) (hx : a.eval x = u) (hr : Strs w u ys)
    (hl : zs.length + ys.length ≤ 16777216) (hbase : base ≤ w.heap.size)
    (h : ∀ v' w', OwnS w' base v' (zs ++ ys) → Only (fp v) w w' → (∀ b ∈ fp v', b ∈ fp v ∨ b = w.heap.size) → wpList Tryz.prog ops Q rest (a.put o.dst v') w') : wpList Tryz.prog ops Q (o :: rest) a w :=
  wpList_plain hgd fun _ hK => wp_append_SX w s x ho base v zs hs hown u ys hx hr hl hbase fun v' w' h2 h3 h4 => hK _ _ (h v' w' h2 h3 h4)
/-- an item lies in a box (bb); the cursor at p; w1: the world in which the draw began -/
structure ItSt (p bb B m : Nat) (w1 wr : World) (c : ItemD) (ev lv : Value) : Prop where
  box : Box wr bb 64 #[ev, lv, .bool c.late]
  names : OwnS wr B ev c.names
  marks : OwnI wr B lv c.marks
  apart : ∀ b ∈ fp ev, b ∉ fp lv
  cur : Cur wr p m
  only : Only [p] w1 wr
  hp : p < w1.heap.size
  hbb : w1.heap.size ≤ bb
  hB : w1.heap.size ≤ B
  ne : ∀ b ∈ fp ev ++ fp lv, b ≠ bb
section
variable {p bb B m m' : Nat} {w1 wr w' : World} {c : ItemD} {ev lv : Value}
theorem ItSt.drawn (H : ItSt p bb B m w1 wr c ev lv) (cu : Cur w' p m') (on : Only [p] wr w') : ItSt p bb B m' w1 w' c ev lv := by
  have h1 := H.hp
  have h2 := H.hbb
  have h3 := H.hB
  refine ⟨H.box.only on (not_one (by omega)), H.names.only on (fun b hb => not_one ?_), H.marks.only on (fun b hb => not_one ?_), H.apart, cu, H.only.trans on, h1, h2, h3, H.ne⟩
  · have := own_fp H.names.1 b hb; omega
  · have := own_fp H.marks b hb; omega
theorem ItSt.kept (H : ItSt p bb B m w1 wr c ev lv) (k : Kept wr w') : ItSt p bb B m w1 w' c ev lv := H.drawn (H.cur.kept k) (k.only _)
theorem ItSt.le (H : ItSt p bb B m w1 wr c ev lv) (hm : m ≤ m') : ItSt p bb B m' w1 wr c ev lv := { H with cur := H.cur.le hm }
/-- a field of the item's box is written -/
theorem ItSt.poke (H : ItSt p bb B m w1 wr c ev lv) {c' : ItemD} (on : Only [bb] wr w') (hb : Box w' bb 64 #[ev, lv, .bool c'.late]) (he : c'.names = c.names) (hl : c'.marks = c.marks) : ItSt p bb B m w1 w' c' ev lv := by
  have h1 := H.hp
  have h2 := H.hbb
  refine ⟨hb, ?_, ?_, H.apart, H.cur.far on (fun x hx => ?_), H.only.overD on (fun x hx => ?_), h1, h2, H.hB, H.ne⟩
  · rw [he]; exact H.names.only on (fun b hb => not_one (H.ne b (List.mem_append_left _ hb)))
  · rw [hl]; exact H.marks.only on (fun b hb => not_one (H.ne b (List.mem_append_right _ hb)))
  · rw [List.mem_singleton] at hx; omega
  · rw [List.mem_singleton] at hx; omega
theorem ItSt.late (H : ItSt p bb B m w1 wr c ev lv) (x : Bool) : ItSt p bb B m w1 (wr.setCell ⟨bb, 2, none⟩ (.bool x)) { c with late := x } ev lv := H.poke (only_set _ _ _ _) (H.box.set 2 _) rfl rfl
/-- the row of names has turned in its own block, or lies in a new one; the box not yet written -/
theorem ItSt.midN (H : ItSt p bb B m w1 wr c ev lv) (on : Only (fp ev) wr w') :
    Box w' bb 64 #[ev, lv, .bool c.late] ∧ Cur w' p m ∧ OwnI w' B lv c.marks ∧ Only [p] w1 w' := by
  have h1 := H.hp
  have h3 := H.hB
  have hf := own_fp H.names.1
  exact ⟨H.box.only on (fun hb => H.ne bb (List.mem_append_left _ hb) rfl), H.cur.far on (fun x hx => by have := hf x hx; omega), H.marks.only on (fun b hb hb' => H.apart b hb' hb), H.only.overD on (fun x hx => by have := hf x hx; omega)⟩
theorem ItSt.setN (H : ItSt p bb B m w1 wr c ev lv) {es : List ByteArray} {v' : Value} (on : Only (fp ev) wr w') (o : OwnS w' B v' es) (f : ∀ b ∈ fp v', b ∈ fp ev ∨ b = wr.heap.size) :
    ItSt p bb B m w1 (w'.setCell ⟨bb, 0, none⟩ v') { c with names := es } v' lv := by
  have h1 := H.hp
  have h2 := H.hbb
  have h3 := H.hB
  have hl := H.box.lt
  obtain ⟨b1, c1, l1, n1⟩ := H.midN on
  have on5 := only_set w' bb 0 v'
  have w4 : ∀ b ∈ fp v', b ≠ bb ∧ b ∉ fp lv := fun b hb => by
    rcases f b hb with q | q
    · exact ⟨H.ne b (List.mem_append_left _ q), H.apart b q⟩
    · refine ⟨by omega, fun hx => ?_⟩
      have := own_fp H.marks b hx
      omega
  refine ⟨b1.set 0 v', o.only on5 (fun b hb => not_one (w4 b hb).1), l1.only on5 (fun b hb => not_one (H.ne b (List.mem_append_right _ hb))), fun b hb => (w4 b hb).2, c1.far on5 (fun x hx => ?_), n1.overD on5 (fun x hx => ?_), h1, h2, h3, fun b hb => ?_⟩
  · rw [List.mem_singleton] at hx; omega
  · rw [List.mem_singleton] at hx; omega
  · rcases List.mem_append.1 hb with hb | hb
    · exact (w4 b hb).1
    · exact H.ne b (List.mem_append_right _ hb)
theorem ItSt.midM (H : ItSt p bb B m w1 wr c ev lv) (on : Only (fp lv) wr w') :
    Box w' bb 64 #[ev, lv, .bool c.late] ∧ Cur w' p m ∧ OwnS w' B ev c.names ∧ Only [p] w1 w' := by
  have h1 := H.hp
  have h3 := H.hB
  have hf := own_fp H.marks
  exact ⟨H.box.only on (fun hb => H.ne bb (List.mem_append_right _ hb) rfl), H.cur.far on (fun x hx => by have := hf x hx; omega), H.names.only on (fun b hb hb' => H.apart b hb hb'), H.only.overD on (fun x hx => by have := hf x hx; omega)⟩
theorem ItSt.setM (H : ItSt p bb B m w1 wr c ev lv) {zs : List Int} {v' : Value} (on : Only (fp lv) wr w') (o : OwnI w' B v' zs) (f : ∀ b ∈ fp v', b ∈ fp lv ∨ b = wr.heap.size) :
    ItSt p bb B m w1 (w'.setCell ⟨bb, 1, none⟩ v') { c with marks := zs } ev v' := by
  have h1 := H.hp
  have h2 := H.hbb
  have h3 := H.hB
  have hl := H.box.lt
  obtain ⟨b1, c1, l1, n1⟩ := H.midM on
  have on5 := only_set w' bb 1 v'
  have w4 : ∀ b ∈ fp v', b ≠ bb ∧ b ∉ fp ev := fun b hb => by
    rcases f b hb with q | q
    · exact ⟨H.ne b (List.mem_append_right _ q), fun hx => H.apart b hx q⟩
    · refine ⟨by omega, fun hx => ?_⟩
      have := own_fp H.names.1 b hx
      omega
  refine ⟨b1.set 1 v', l1.only on5 (fun b hb => not_one (H.ne b (List.mem_append_left _ hb))), o.only on5 (fun b hb => not_one (w4 b hb).1), fun b hb hb' => (w4 b hb').2 hb, c1.far on5 (fun x hx => ?_), n1.overD on5 (fun x hx => ?_), h1, h2, h3, fun b hb => ?_⟩
  · rw [List.mem_singleton] at hx; omega
  · rw [List.mem_singleton] at hx; omega
  · rcases List.mem_append.1 hb with hb | hb
    · exact H.ne b (List.mem_append_left _ hb)
    · exact (w4 b hb).1
theorem ItSt.own (H : ItSt p bb B m w1 wr c ev lv) : OwnT wr B (.agg #[ev, lv, .bool c.late]) c := by
  refine ⟨ev, lv, rfl, H.names, H.marks, ?_⟩
  rw [fpA_item, List.nodup_append]
  exact ⟨nodup_one _, nodup_one _, fun x hx y hy e => H.apart x hx (e ▸ hy)⟩
theorem ItSt.cellN (H : ItSt p bb B m w1 wr c ev lv) {g n cap k : Nat} {u : ByteArray} (hv : ev = .slice (some ⟨g, 0, none⟩) n cap) (hs : u.size ≤ maxLen) :
    ItSt p bb B m w1 (wr.setCell ⟨g, k, none⟩ (.string u)) { c with names := c.names.set k u } ev lv := by
  subst hv
  have h1 := H.hp
  have h3 := H.hB
  have on : Only (fp (.slice (some ⟨g, 0, none⟩) n cap)) wr (wr.setCell ⟨g, k, none⟩ (.string u)) := only_set wr g _ _
  obtain ⟨b1, c1, l1, n1⟩ := H.midN on
  refine ⟨b1, ⟨?_, fun x hx => ?_⟩, l1, H.apart, c1, n1, h1, H.hbb, h3, H.ne⟩
  · obtain ⟨A, cc, e1, _⟩ := own_form H.names.1
    have hn : n = c.names.length := by injection e1
    subst hn
    have := own_set (j := k) H.names.1 (.string u)
    show World.ownsRow _ B _ 1 _ (c.names.set k u).length ((c.names.set k u).map Value.string)
    rw [List.length_set, List.map_set]
    exact this
  · rcases List.mem_or_eq_of_mem_set hx with hx | hx
    · exact H.names.2 x hx
    · rw [hx]; exact hs
theorem ItSt.cellM (H : ItSt p bb B m w1 wr c ev lv) {g n cap k : Nat} {x : Int} (hv : lv = .slice (some ⟨g, 0, none⟩) n cap) :
    ItSt p bb B m w1 (wr.setCell ⟨g, k, none⟩ (.int .i64 x)) { c with marks := c.marks.set k x } ev lv := by
  subst hv
  have h1 := H.hp
  have h3 := H.hB
  have on : Only (fp (.slice (some ⟨g, 0, none⟩) n cap)) wr (wr.setCell ⟨g, k, none⟩ (.int .i64 x)) := only_set wr g _ _
  obtain ⟨b1, c1, l1, n1⟩ := H.midM on
  refine ⟨b1, l1, ?_, H.apart, c1, n1, h1, H.hbb, h3, H.ne⟩
  obtain ⟨A, cc, e1, _⟩ := own_form H.marks
  have hn : n = c.marks.length := by injection e1
  subst hn
  have := own_set (j := k) H.marks (.int .i64 x)
  show World.ownsRow _ B _ 1 _ (c.marks.set k x).length ((c.marks.set k x).map (Value.int .i64))
  rw [List.length_set, List.map_set]
  exact this
theorem ItSt.zero (H : ItSt p bb B m w1 wr c ev lv) (hb : Box w' bb 64 #[.slice none 0 0, .slice none 0 0, .bool false]) (on : Only [bb] wr w') : ItSt p bb B m w1 w' ⟨[], [], false⟩ (.slice none 0 0) (.slice none 0 0) := by
  have h1 := H.hp
  have h2 := H.hbb
  exact ⟨hb, ⟨⟨rfl, .inl ⟨rfl, rfl⟩⟩, fun _ h => by cases h⟩, own_nil _ _, (fun b hb => by cases hb), H.cur.far on (fun x hx => by rw [List.mem_singleton] at hx; omega), H.only.overD on (fun x hx => by rw [List.mem_singleton] at hx; omega), h1, h2, H.hB, (fun b hb => by cases hb)⟩
/-- blocks far from the item have turned -/
theorem ItSt.far_ {N : Nat} {S : List Nat} (H : ItSt p bb B m w1 wr c ev lv) (on : Only S wr w') (hS : ∀ b ∈ S, N ≤ b) (hbb : bb < N) (hr : ∀ b ∈ fp ev ++ fp lv, b < N) (hN : w1.heap.size ≤ N) : ItSt p bb B m w1 w' c ev lv := by
  have h1 := H.hp
  refine ⟨H.box.only on (fun h => by have := hS _ h; omega), H.names.only on (fun b hb h => by have := hS _ h; have := hr b (List.mem_append_left _ hb); omega), H.marks.only on (fun b hb h => by have := hS _ h; have := hr b (List.mem_append_right _ hb); omega), H.apart, H.cur.far on (fun x hx => by have := hS x hx; omega), H.only.overD on (fun x hx => by have := hS x hx; omega), h1, H.hbb, H.hB, H.ne⟩
/-- a draw left an item: it goes into a box -/
theorem OwnT.boxed {p B m : Nat} {w0 w1 : World} {c : ItemD} {ev lv : Value} (h1 : OwnS w1 B ev c.names) (h2 : OwnI w1 B lv c.marks) (hn : (fpA (.agg #[ev, lv, .bool c.late])).Nodup) (hc : Cur w1 p m) (on : Only [p] w0 w1) (hp : p < w0.heap.size) (hB : w0.heap.size ≤ B) :
    ItSt p w1.heap.size B m w0 (w1.alloc (.cells #[ev, lv, .bool c.late] 64)) c ev lv := by
  have k : Kept w1 (w1.alloc (.cells #[ev, lv, .bool c.late] 64)) := (Kept.refl w1).alloc _
  rw [fpA_item, List.nodup_append] at hn
  refine ⟨Box.new w1 _ _ _ rfl, h1.kept k, h2.kept k, fun b hb hb' => hn.2.2 b hb b hb' rfl, hc.kept k, on.trans (k.only _), hp, on.size, hB, fun b hb => ?_⟩
  rcases List.mem_append.1 hb with hb | hb
  · have := own_fp h1.1 b hb; omega
  · have := own_fp h2 b hb; omega
end
end Go.Proofs.YtkekpolfdmmgeaaGreatDoor
