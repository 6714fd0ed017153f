/- The marks that the laws write: strings. -/
import Derived.Test.YtpkmngkepmoikaaK
import Derived.Test.YtpkmngkepmoikaaT0
namespace Go.Proofs.Ytpkmngkepmoikaa
set_option linter.unusedVariables false
set_option linter.unusedSimpArgs false
open Go.RowKit

set_option maxHeartbeats 1000000 in
theorem markStringS_any (v : Value) (zs : List ByteArray) (k : Int) (w : World) (base : Nat) (h : OwnS w base v zs) (hk : 1 ≤ k) (hk2 : k ≤ 549755813888) (hn : zs.length ≤ 1048576) :
    Calls Try.prog 64 #[v, .int .i64 k] w fun e w' => e = .returned (.int .i64 (k + zs.length)) ∧ OwnS w' base v (marksS k zs.length) ∧ Only (fp v) w w' := by
  obtain ⟨A, c, rfl, hnc, hcm, hA⟩ := own_form h.1
  unfold maxLen at hcm
  have HA := Lib.hid hA
  have HI := Lib.hid h.1
  clear h hA
  go_enter Try.func64, Try.ntmps64
  go_wp2_with fail
  go_loopw [1, 5] (fun q i wr => ∃ (j : Nat) (xs : List Value), j ≤ zs.length ∧ i = .int .i64 j ∧ q = .int .i64 (k + j) ∧ wr.ownsRow base 9 1 (.slice A zs.length c) zs.length xs ∧ xs.take j = ((marksS k zs.length).map Value.string).take j ∧ Only (fp (.slice A zs.length c)) w wr) (fun _ i _ => zs.length - (intOf i).toNat)
  case atStart => exact ⟨0, _, Nat.zero_le _, rfl, by simp, HI.out, rfl, Only.refl _ _⟩
  case round =>
    obtain ⟨j, xs, hj, rfl, rfl, ho, ht, hon⟩ := hrel
    have hlen : xs.length = zs.length := by simpa using ho.1
    by_cases hlt : j < zs.length
    · obtain ⟨g, rfl⟩ := HA.out (by omega)
      have HT := Lib.hid ht
      have HO := Lib.hid hlen
      have HN := Lib.hid hon
      have HR := Lib.hid ho
      clear ht hlen ho hon
      go_wp2_with fail
      refine (markText_any _ _ (by omega) (by omega)).mono ?_
      rintro e w1 ⟨rfl, k1⟩
      have ho1 := own_kept HR.out k1
      obtain ⟨u0, hx, hd, hf⟩ := own_at ho1 (j := j) (by omega)
      have HS := Lib.hid (ho1.stored j (.string (mt (k + j))))
      clear ho1 hx
      go_wp2_with fail
      go_roundw
      case rel => exact ⟨j + 1, _, by omega, by go_num, by go_num, HS.out.1, set_take (by rw [HO.out]; exact hlt) HT.out (by rw [List.getElem?_map, marksS_get hlt]; rfl), (HN.out.trans (k1.only _)).setCell (by simp [fp_some]) _⟩
      case measure => simp [intOf]; omega
    · obtain rfl : j = zs.length := by omega
      have e := take_full (n := zs.length) hlen (by simp [marksS_length]) ht
      have HO := Lib.hid ho
      have HE := Lib.hid e
      clear ho ht hlen e
      go_wp2_with fail
      go_ret
      refine ⟨rfl, ⟨?_, marksS_size _ _⟩, hon⟩
      have := HO.out
      rw [HE.out] at this
      rw [marksS_length]
      exact this
/-! ### items marked -/
def nextK (k : Int) (it : ItemD) : Int := k + it.names.length + it.marks.length + 1
def markIt (k : Int) (it : ItemD) : ItemD := ⟨marksS k it.names.length, marksI (k + it.names.length) it.marks.length, ((k + it.names.length + it.marks.length) % 3 == 0)⟩
def ml : Int → List ItemD → List ItemD
  | _, [] => []
  | k, it :: l => markIt k it :: ml (nextK k it) l
def nk : Int → List ItemD → Int
  | k, [] => k
  | k, it :: l => nk (nextK k it) l
theorem ml_length (k : Int) (l : List ItemD) : (ml k l).length = l.length := by
  induction l generalizing k with
  | nil => rfl
  | cons it l ih => simp [ml, ih]
theorem ml_snoc (k : Int) (l : List ItemD) (it : ItemD) : ml k (l ++ [it]) = ml k l ++ [markIt (nk k l) it] := by
  induction l generalizing k with
  | nil => rfl
  | cons x l ih => simp [ml, nk, ih]
theorem nk_snoc (k : Int) (l : List ItemD) (it : ItemD) : nk k (l ++ [it]) = nextK (nk k l) it := by
  induction l generalizing k with
  | nil => rfl
  | cons x l ih => simp [nk, ih]
theorem nk_bd (k : Int) (l : List ItemD) : k ≤ nk k l ∧ nk k l ≤ k + itemsSize l := by
  induction l generalizing k with
  | nil => simp [nk, itemsSize]
  | cons it l ih =>
    have h := ih (nextK k it)
    have hp : it.names.length + it.marks.length ≤ it.size := by unfold ItemD.size strsSize; omega
    unfold nextK at h
    rw [nk]
    unfold nextK
    unfold itemsSize at *
    simp only [List.length_cons, List.map_cons, List.sum_cons]
    omega
theorem itemsSize_take (l : List ItemD) (k : Nat) : itemsSize (l.take k) ≤ itemsSize l := by
  unfold itemsSize
  have := sum_take _ ItemD.size l k
  have := List.length_take_le k l
  have : (l.take k).length ≤ l.length := by rw [List.length_take]; omega
  omega
/-- the list of items with the slices' values in hand -/
def OwnC (w : World) (base : Nat) (v : Value) (its : List ItemD) (cs : List (Value × Value)) : Prop :=
  cs.length = its.length ∧ w.ownsRow base 75 3 v its.length ((cs.zip its).flatMap row3) ∧
    (∀ (k : Nat) (nv mv : Value) (it : ItemD), cs[k]? = some (nv, mv) → its[k]? = some it → OwnS w base nv it.names ∧ OwnI w base mv it.marks) ∧ (fp v ++ fpL cs).Nodup
theorem fpL_other {cs : List (Value × Value)} (h : (fpL cs).Nodup) {i j : Nat} {p q : Value × Value} (hi : cs[i]? = some p) (hj : cs[j]? = some q) (hne : i ≠ j) {b : Nat} (hb : b ∈ fp p.1 ++ fp p.2) : b ∉ fp q.1 ++ fp q.2 := by
  have hp := (List.pairwise_flatMap.1 h).2
  rw [List.pairwise_iff_getElem] at hp
  obtain ⟨hil, rfl⟩ := List.getElem?_eq_some_iff.1 hi
  obtain ⟨hjl, rfl⟩ := List.getElem?_eq_some_iff.1 hj
  intro hb2
  rcases Nat.lt_or_gt_of_ne hne with hlt | hgt
  · exact hp i j hil hjl hlt b hb b hb2 rfl
  · exact hp j i hjl hil hgt b hb2 b hb rfl
theorem fpL_inner {cs : List (Value × Value)} (h : (fpL cs).Nodup) {i : Nat} {p : Value × Value} (hi : cs[i]? = some p) : (fp p.1 ++ fp p.2).Nodup := by
  exact (List.pairwise_flatMap.1 h).1 p (List.mem_of_getElem? hi)
theorem flat_row3 (cs : List (Value × Value)) (its : List ItemD) : (cs.zip its).flatMap row3 = (cs.zip (its.map ItemD.late)).flatMap fun p => [p.1.1, p.1.2, .bool p.2] := by
  rw [List.zip_map_right, List.flatMap_map]
  rfl
theorem set_same {α : Type} {l : List α} {k : Nat} {x : α} (h : l[k]? = some x) : l.set k x = l := by
  obtain ⟨hk, rfl⟩ := List.getElem?_eq_some_iff.1 h
  exact List.set_getElem_self hk
theorem OwnC.setItem {w w' : World} {base : Nat} {v : Value} {its : List ItemD} {cs : List (Value × Value)} {j : Nat} {it it' : ItemD} {nv mv : Value} {T : List Nat}
    (h : OwnC w base v its cs) (hi : its[j]? = some it) (hc : cs[j]? = some (nv, mv)) (ho : Only T w w') (hT : ∀ b ∈ T, b ∈ fp nv ++ fp mv) (hl : it'.late = it.late) (hn : OwnS w' base nv it'.names) (hm : OwnI w' base mv it'.marks) :
    OwnC w' base v (its.set j it') cs := by
  obtain ⟨h1, h2, h3, h4⟩ := h
  have hnd := (List.nodup_append.1 h4)
  refine ⟨by simpa using h1, ?_, ?_, h4⟩
  · have hz : (cs.zip (its.set j it')).flatMap row3 = (cs.zip its).flatMap row3 := by
      rw [flat_row3, flat_row3, List.map_set, hl, set_same (by rw [List.getElem?_map, hi]; rfl)]
    rw [hz, List.length_set]
    refine own_only h2 ho (fun b hb hbT => ?_)
    exact hnd.2.2 b hb b (mem_fpL hc (List.mem_append.1 (hT b hbT))) rfl
  · intro k nv' mv' x q1 q2
    by_cases hk : k = j
    · subst hk
      rw [hc] at q1
      simp at q1
      obtain ⟨rfl, rfl⟩ := q1
      have hlt : k < its.length := (List.getElem?_eq_some_iff.1 hi).1
      rw [List.getElem?_set_self hlt] at q2
      simp at q2
      subst q2
      exact ⟨hn, hm⟩
    · rw [List.getElem?_set_ne (Ne.symm hk)] at q2
      obtain ⟨r1, r2⟩ := h3 k nv' mv' x q1 q2
      have hd := fun b hb => fpL_other hnd.2.1 q1 hc hk (b := b) hb
      exact ⟨r1.only ho (fun b hb hbT => hd b (List.mem_append_left _ hb) (hT b hbT)), r2.only ho (fun b hb hbT => hd b (List.mem_append_right _ hb) (hT b hbT))⟩
end Go.Proofs.Ytpkmngkepmoikaa
