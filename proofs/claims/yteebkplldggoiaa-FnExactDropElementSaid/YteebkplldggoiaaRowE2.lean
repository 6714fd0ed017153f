/- Elements deleted from and inserted into rows; parts of slices of elements. -/
import Derived.Test.YteebkplldggoiaaRowE
import Derived.Test.YteebkplldggoiaaApE
namespace Go.Proofs.Yteebkplldggoiaa
open Go.RowKit

theorem flat_take {α β : Type} (f : α → List β) (m : Nat) (hf : ∀ x, (f x).length = m) : ∀ (l : List α) (k : Nat), (l.flatMap f).take (k * m) = (l.take k).flatMap f
  | [], k => by simp
  | x :: l, 0 => by simp
  | x :: l, k + 1 => by
    rw [List.take_succ_cons, List.flatMap_cons, List.flatMap_cons, Nat.succ_mul, Nat.add_comm, List.take_append, hf, Nat.add_sub_cancel_left, flat_take f m hf l k, List.take_of_length_le (by rw [hf]; omega)]
theorem flat_drop {α β : Type} (f : α → List β) (m : Nat) (hf : ∀ x, (f x).length = m) : ∀ (l : List α) (k : Nat), (l.flatMap f).drop (k * m) = (l.drop k).flatMap f
  | [], k => by simp
  | x :: l, 0 => by simp
  | x :: l, k + 1 => by
    rw [List.drop_succ_cons, List.flatMap_cons, Nat.succ_mul, Nat.add_comm, List.drop_append, hf, Nat.add_sub_cancel_left, flat_drop f m hf l k, List.drop_of_length_le (by rw [hf]; omega), List.nil_append]
theorem cells4_len (e : ElemD) : (cells4 e).length = 4 := rfl
theorem cells4_one (e : ElemD) : ∀ y ∈ cells4 e, y.oneCell' = true := by
  intro y hy
  simp only [cells4, List.mem_cons, List.not_mem_nil, or_false] at hy
  rcases hy with rfl | rfl | rfl | rfl <;> rfl
theorem flat_one (es : List ElemD) : ∀ y ∈ es.flatMap cells4, y.oneCell' = true := by
  intro y hy
  obtain ⟨e, _, he⟩ := List.mem_flatMap.1 hy
  exact cells4_one e y he
theorem delE_any (v : Value) (es : List ElemD) (i : Nat) (w : World) (base : Nat) (h : OwnE w base v es) (hi : i < es.length) :
    Calls Try.prog 74 #[v, .int .i64 i, .int .i64 ((i : Int) + 1)] w fun e w' => ∃ v', e = .returned v' ∧ OwnE w' base v' (es.take i ++ es.drop (i + 1)) ∧ Only (fp v) w w' := by
  obtain ⟨A, c, rfl, _, _, hA⟩ := own_form h.1
  obtain ⟨g, rfl⟩ := hA (by omega)
  refine (delRowE _ es.length i c g w base h.1 hi (flat_one es)).mono ?_
  rintro e w' ⟨rfl, h2, h3⟩
  refine ⟨_, rfl, ⟨?_, ?_⟩, h3⟩
  · rw [flat_take cells4 4 cells4_len, flat_drop cells4 4 cells4_len, ← List.flatMap_append] at h2
    rw [show (es.take i ++ es.drop (i + 1)).length = es.length - 1 from by rw [List.length_append, List.length_take, List.length_drop]; omega]
    exact h2
  · intro e he
    rcases List.mem_append.1 he with he | he
    · exact h.2 e (List.mem_of_mem_take he)
    · exact h.2 e (List.mem_of_mem_drop he)
theorem insE_any (v : Value) (es : List ElemD) (y : ElemD) (i vb : Nat) (w : World) (base : Nat) (h : OwnE w base v es) (h0 : 0 < es.length) (hi : i ≤ es.length) (hn : es.length ≤ 1000000) (hbase : base ≤ w.heap.size)
    (hV : Box w vb 53 #[.string y.name, .int .i64 y.family, .int .i64 y.level, .int .i64 y.base]) (hs : y.name.size ≤ maxLen) (hvb : ∀ b ∈ fp v, vb ≠ b) :
    Calls Try.prog 75 #[v, .int .i64 i, .slice (some ⟨vb, 0, none⟩) 1 1] w fun e w' => ∃ v', e = .returned v' ∧ OwnE w' base v' (es.take i ++ y :: es.drop i) ∧ Only (fp v) w w' := by
  obtain ⟨A, c, rfl, _, _, hA⟩ := own_form h.1
  obtain ⟨g, rfl⟩ := hA (by omega)
  have hne : vb ≠ g := hvb g (by simp [fp_some])
  have hV' : Box w vb 53 (cells4 y).toArray := hV
  have fin : ∀ (v' : Value) (w' : World), w'.ownsRow base 53 4 v' (es.length + 1) ((es.flatMap cells4).take (i * 4) ++ cells4 y ++ (es.flatMap cells4).drop (i * 4)) → OwnE w' base v' (es.take i ++ y :: es.drop i) := by
    intro v' w' h2
    refine ⟨?_, ?_⟩
    · rw [flat_take cells4 4 cells4_len, flat_drop cells4 4 cells4_len, List.append_assoc, ← List.flatMap_cons, ← List.flatMap_append] at h2
      rw [show (es.take i ++ y :: es.drop i).length = es.length + 1 from by rw [List.length_append, List.length_cons, List.length_take, List.length_drop]; omega]
      exact h2
    · intro e he
      rcases List.mem_append.1 he with he | he
      · exact h.2 e (List.mem_of_mem_take he)
      · rcases List.mem_cons.1 he with rfl | he
        · exact hs
        · exact h.2 e (List.mem_of_mem_drop he)
  rcases Nat.lt_or_eq_of_le hi with hlt | rfl
  · rcases Nat.lt_or_ge c (es.length + 1) with hc | hc
    · refine (insGrowE _ (cells4 y) es.length i c g vb w base h.1 hlt hn hc hbase (flat_one es) hV' rfl (cells4_one y)).mono ?_
      rintro e w' ⟨v', rfl, h2, h3⟩
      exact ⟨v', rfl, fin v' w' h2, h3.mono (fun _ h => by cases h)⟩
    · refine (insRoomE _ (cells4 y) es.length i c g vb w base h.1 hlt hn hc (flat_one es) hV' rfl (cells4_one y) hne).mono ?_
      rintro e w' ⟨v', rfl, h2, h3⟩
      exact ⟨v', rfl, fin v' w' h2, h3⟩
  · refine (insEndE _ (cells4 y) es.length c g vb w base h.1 hbase hn hV' rfl (cells4_one y)).mono ?_
    rintro e w' ⟨v', rfl, h2, h3⟩
    refine ⟨v', rfl, fin v' w' ?_, only_of_grown (v := .slice (some ⟨g, 0, none⟩) es.length c) h3⟩
    rw [List.take_of_length_le (by rw [flat_length cells4 4 cells4_len]; omega), List.drop_of_length_le (by rw [flat_length cells4 4 cells4_len]; omega), List.append_nil]
    exact h2
/-- s[:i] -/
theorem elems_to {w : World} {b o n c : Nat} {es : List ElemD} (h : Elems w (.slice (some ⟨b, o, none⟩) n c) es) (hn : es.length = n) {i : Nat} (hi : i ≤ n) : Elems w (.slice (some ⟨b, o, none⟩) i c) (es.take i) := by
  obtain ⟨⟨A, c', e, h1, h2, h3, h4⟩, h5⟩ := h
  injection e with e1 e2 e3
  subst e1 e3
  refine ⟨?_, fun e he => h5 e (List.mem_of_mem_take he)⟩
  rw [List.length_take, hn, Nat.min_eq_left hi]
  refine ⟨_, c, rfl, by omega, h2, (fun h => by cases h), fun hp => ?_⟩
  obtain ⟨b', o', e1, hb, hc⟩ := h4 (by omega)
  injection e1 with e1
  injection e1 with e1 e2
  subst e1 e2
  refine ⟨b, o, rfl, hb, fun j u hu => hc j u ?_⟩
  rw [← flat_take cells4 4 cells4_len, List.getElem?_take] at hu
  split at hu
  · exact hu
  · cases hu
/-- s[k:], not at the end of the capacity -/
theorem elems_from {w : World} {b o n c : Nat} {es : List ElemD} (h : Elems w (.slice (some ⟨b, o, none⟩) n c) es) (hn : es.length = n) {k : Nat} (hk : k ≤ n) : Elems w (.slice (some ⟨b, o + k * 4, none⟩) (n - k) (c - k)) (es.drop k) := by
  obtain ⟨⟨A, c', e, h1, h2, h3, h4⟩, h5⟩ := h
  injection e with e1 e2 e3
  subst e1 e3
  refine ⟨?_, fun e he => h5 e (List.mem_of_mem_drop he)⟩
  rw [List.length_drop, hn]
  refine ⟨_, c - k, rfl, by omega, by unfold maxLen at *; omega, (fun h => by cases h), fun hp => ?_⟩
  obtain ⟨b', o', e1, hb, hc⟩ := h4 (by omega)
  injection e1 with e1
  injection e1 with e1 e2
  subst e1 e2
  refine ⟨b, o + k * 4, rfl, hb, fun j u hu => ?_⟩
  rw [← flat_drop cells4 4 cells4_len, List.getElem?_drop] at hu
  rw [Nat.add_assoc]
  exact hc _ u hu
/-- s[k:] at the end of the capacity -/
theorem elems_none {w : World} {b o : Nat} {es : List ElemD} {k : Nat} (hk : es.length ≤ k) : Elems w (.slice (some ⟨b, o, none⟩) 0 0) (es.drop k) := by
  rw [List.drop_of_length_le hk]
  exact ⟨⟨_, 0, rfl, Nat.le_refl _, Nat.zero_le _, (fun h => by cases h), fun h => absurd h (by simp)⟩, fun _ h => by cases h⟩
end Go.Proofs.Yteebkplldggoiaa
