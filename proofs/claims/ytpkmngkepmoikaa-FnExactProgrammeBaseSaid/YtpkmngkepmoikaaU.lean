/- Lists of items marked, and read again. -/
import Derived.Test.YtpkmngkepmoikaaT
namespace Go.Proofs.Ytpkmngkepmoikaa
set_option linter.unusedVariables false
set_option linter.unusedSimpArgs false
open Go.RowKit

theorem zip_set_row {cs : List (Value × Value)} {its : List ItemD} {j : Nat} {it' : ItemD} (hl : cs.length = its.length) (hj : j < its.length) :
    ((cs.zip its).flatMap row3).set (j * 3 + 2) (.bool it'.late) = (cs.zip (its.set j it')).flatMap row3 := by
  have hz : (cs.zip its).length = its.length := by rw [List.length_zip]; omega
  have hz' : (cs.zip (its.set j it')).length = its.length := by rw [List.length_zip, List.length_set]; omega
  apply List.ext_getElem?
  intro i
  by_cases hi : i < its.length * 3
  · have e : i = i / 3 * 3 + i % 3 := by omega
    have hm : i % 3 < 3 := by omega
    have hq : i / 3 < its.length := by omega
    have f1 := flat_get row3 3 (fun _ => rfl) (cs.zip its) (i / 3) (i % 3) hm
    have f2 := flat_get row3 3 (fun _ => rfl) (cs.zip (its.set j it')) (i / 3) (i % 3) hm
    rw [← e] at f1 f2
    have g1 : (cs.zip its)[i / 3]? = some (cs[i / 3], its[i / 3]) := by
      rw [List.getElem?_zip_eq_some]
      exact ⟨List.getElem?_eq_getElem _, List.getElem?_eq_getElem _⟩
    have g2 : (cs.zip (its.set j it'))[i / 3]? = some (cs[i / 3], (its.set j it')[i / 3]'(by rw [List.length_set]; exact hq)) := by
      rw [List.getElem?_zip_eq_some]
      exact ⟨List.getElem?_eq_getElem _, List.getElem?_eq_getElem _⟩
    rw [g1] at f1
    rw [g2] at f2
    rw [f2, List.getElem?_set, f1]
    by_cases hij : i / 3 = j
    · subst hij
      have h3 : i % 3 = 0 ∨ i % 3 = 1 ∨ i % 3 = 2 := by omega
      rcases h3 with h | h | h
      · rw [if_neg (by omega), h]; rfl
      · rw [if_neg (by omega), h]; rfl
      · rw [if_pos (by omega), if_pos (by rw [flat_length row3 3 (fun _ => rfl), hz]; omega), h]
        simp [row3]
    · rw [if_neg (by omega)]
      have : (its.set j it')[i / 3]'(by rw [List.length_set]; exact hq) = its[i / 3] := by rw [List.getElem_set_ne (Ne.symm hij)]
      simp [row3, this]
  · rw [List.getElem?_eq_none (by rw [List.length_set, flat_length row3 3 (fun _ => rfl), hz]; omega), List.getElem?_eq_none (by rw [flat_length row3 3 (fun _ => rfl), hz']; omega)]
theorem OwnC.setLate {w : World} {base g cap n : Nat} {its : List ItemD} {cs : List (Value × Value)} {j : Nat} {it it' : ItemD} {nv mv : Value}
    (h : OwnC w base (.slice (some ⟨g, 0, none⟩) n cap) its cs) (hnl : n = its.length) (hi : its[j]? = some it) (hc : cs[j]? = some (nv, mv)) (hn : it'.names = it.names) (hm : it'.marks = it.marks) :
    OwnC (w.setCell ⟨g, j * 3 + 2, none⟩ (.bool it'.late)) base (.slice (some ⟨g, 0, none⟩) n cap) (its.set j it') cs := by
  subst hnl
  obtain ⟨h1, h2, h3, h4⟩ := h
  have hj : j < its.length := (List.getElem?_eq_some_iff.1 hi).1
  have hnd := List.nodup_append.1 h4
  have ho : Only [g] w (w.setCell ⟨g, j * 3 + 2, none⟩ (.bool it'.late)) := (Only.refl _ _).setCell (by simp) _
  refine ⟨by simpa using h1, ?_, ?_, h4⟩
  · have hs := (h2.stored (j * 3 + 2) (.bool it'.late)).1
    rw [zip_set_row h1 hj] at hs
    rw [List.length_set]
    exact hs
  · intro k nv' mv' x q1 q2
    have hg : ∀ b, b ∈ fp nv' ∨ b ∈ fp mv' → b ∉ [g] := fun b hb hbg => by
      rw [List.mem_singleton] at hbg
      exact hnd.2.2 g (by simp [fp_some]) b (mem_fpL q1 hb) hbg.symm
    by_cases hk : k = j
    · subst hk
      rw [List.getElem?_set_self hj] at q2
      simp at q2
      subst q2
      obtain ⟨r1, r2⟩ := h3 k nv' mv' it q1 hi
      rw [hn, hm]
      exact ⟨r1.only ho (fun b hb => hg b (.inl hb)), r2.only ho (fun b hb => hg b (.inr hb))⟩
    · rw [List.getElem?_set_ne (Ne.symm hk)] at q2
      obtain ⟨r1, r2⟩ := h3 k nv' mv' x q1 q2
      exact ⟨r1.only ho (fun b hb => hg b (.inl hb)), r2.only ho (fun b hb => hg b (.inr hb))⟩
/-- the cells of an item of a list that the call owns -/
theorem ownC_cells {w : World} {base g n cap : Nat} {its : List ItemD} {cs : List (Value × Value)} {j : Nat} {it : ItemD} {nv mv : Value} (h : OwnC w base (.slice (some ⟨g, 0, none⟩) n cap) its cs) (hi : its[j]? = some it) (hc : cs[j]? = some (nv, mv)) :
    (w.cell? ⟨g, j * 3, none⟩ = some nv ∧ w.cell? ⟨g, j * 3 + 1, none⟩ = some mv ∧ w.cell? ⟨g, j * 3 + 2, none⟩ = some (.bool it.late)) ∧
      (w.frozen? ⟨g, j * 3, none⟩ = false ∧ w.frozen? ⟨g, j * 3 + 1, none⟩ = false ∧ w.frozen? ⟨g, j * 3 + 2, none⟩ = false) := by
  obtain ⟨h1, h2, h3, h4⟩ := h
  obtain ⟨A', c', e, _, _, hA⟩ := own_form h2
  simp only [Value.slice.injEq] at e
  obtain ⟨_, hn, rfl⟩ := e
  subst hn
  have hj : j < its.length := (List.getElem?_eq_some_iff.1 hi).1
  have hz : (cs.zip its)[j]? = some ((nv, mv), it) := by rw [List.getElem?_zip_eq_some]; exact ⟨hc, hi⟩
  have hf := flat_get row3 3 (fun _ => rfl) (cs.zip its) j
  have hcell : ∀ i, i < 3 → w.cell? ⟨g, j * 3 + i, none⟩ = (row3 ((nv, mv), it))[i]? := fun i hi3 => by
    rw [h2.cellAt (j * 3 + i) (by omega), hf i hi3, hz]
    rfl
  exact ⟨⟨hcell 0 (by omega), hcell 1 (by omega), hcell 2 (by omega)⟩, h2.frozenAt _, h2.frozenAt _, h2.frozenAt _⟩
theorem ownC_at {w : World} {base : Nat} {A : Option Addr} {n c : Nat} {its : List ItemD} {cs : List (Value × Value)} (h : OwnC w base (.slice A n c) its cs) (hnl : n = its.length) {j : Nat} (hj : j < n) :
    ∃ g A1 c1 A2 c2 it, A = some ⟨g, 0, none⟩ ∧ its[j]? = some it ∧ cs[j]? = some (.slice A1 it.names.length c1, .slice A2 it.marks.length c2) ∧
      OwnS w base (.slice A1 it.names.length c1) it.names ∧ OwnI w base (.slice A2 it.marks.length c2) it.marks := by
  subst hnl
  obtain ⟨h1, h2, h3, h4⟩ := h
  obtain ⟨A', c', e, _, _, hA⟩ := own_form h2
  simp only [Value.slice.injEq] at e
  obtain ⟨rfl, _, rfl⟩ := e
  obtain ⟨g, rfl⟩ := hA (by omega)
  have q1 : its[j]? = some its[j] := List.getElem?_eq_getElem hj
  obtain ⟨nv, mv, q2⟩ : ∃ nv mv, cs[j]? = some (nv, mv) := ⟨_, _, List.getElem?_eq_getElem (by omega)⟩
  obtain ⟨r1, r2⟩ := h3 j nv mv its[j] q2 q1
  obtain ⟨A1, c1, rfl, _⟩ := own_form r1.1
  obtain ⟨A2, c2, rfl, _⟩ := own_form r2
  exact ⟨g, A1, c1, A2, c2, its[j], rfl, q1, q2, r1, r2⟩
theorem OwnC.items {w : World} {base : Nat} {v : Value} {its : List ItemD} {cs : List (Value × Value)} (h : OwnC w base v its cs) : ItemsAt w v its := by
  obtain ⟨h1, h2, h3, _⟩ := h
  exact ⟨cs, h1, Seq.of_own h2, fun k nv mv it q1 q2 => ⟨(h3 k nv mv it q1 q2).1.strs, (h3 k nv mv it q1 q2).2.ints⟩⟩
theorem OwnC.only {w w' : World} {base : Nat} {v : Value} {its : List ItemD} {cs : List (Value × Value)} {T : List Nat} (h : OwnC w base v its cs) (ho : Only T w w') (hd : ∀ b ∈ fp v ++ fpL cs, b ∉ T) : OwnC w' base v its cs := by
  obtain ⟨h1, h2, h3, h4⟩ := h
  exact ⟨h1, own_only h2 ho (fun b hb => hd b (List.mem_append_left _ hb)), fun k nv mv it q1 q2 => ⟨(h3 k nv mv it q1 q2).1.only ho (fun b hb => hd b (List.mem_append_right _ (mem_fpL q1 (.inl hb)))), (h3 k nv mv it q1 q2).2.only ho (fun b hb => hd b (List.mem_append_right _ (mem_fpL q1 (.inr hb))))⟩, h4⟩
theorem OwnC.kept {w w' : World} {base : Nat} {v : Value} {its : List ItemD} {cs : List (Value × Value)} (h : OwnC w base v its cs) (hk : Kept w w') : OwnC w' base v its cs := h.only (hk.only []) (fun _ _ => List.not_mem_nil)
theorem OwnL.toC {w : World} {base : Nat} {v : Value} {its : List ItemD} {S : List Nat} (h : OwnL w base v its S) : ∃ cs, OwnC w base v its cs ∧ S = fp v ++ fpL cs ∧ ∀ b ∈ S, base ≤ b ∧ b < w.heap.size := by
  obtain ⟨cs, h1, h2, h3, h4, h5, h6⟩ := h
  exact ⟨cs, ⟨h1, h2, h3, h4 ▸ h5⟩, h4, h6⟩
theorem set_mid {α : Type} (A B : List α) (x y : α) (j : Nat) (hj : j = A.length) : (A ++ x :: B).set j y = A ++ y :: B := by
  subst hj
  rw [List.set_append_right _ _ (Nat.le_refl _)]
  simp
theorem ml_step (k : Int) (its : List ItemD) (j : Nat) (it : ItemD) (h : its[j]? = some it) :
    (ml k (its.take j) ++ its.drop j).set j (markIt (nk k (its.take j)) it) = ml k (its.take (j + 1)) ++ its.drop (j + 1) := by
  obtain ⟨hj, rfl⟩ := List.getElem?_eq_some_iff.1 h
  rw [List.drop_eq_getElem_cons hj, set_mid _ _ _ _ _ (by rw [ml_length, List.length_take]; omega), take_snoc h, ml_snoc, List.append_assoc]
  rfl
theorem ml_at (k : Int) (its : List ItemD) (j : Nat) (hj : j < its.length) : (ml k (its.take j) ++ its.drop j)[j]? = its[j]? := by
  have hl : (ml k (its.take j)).length = j := by rw [ml_length, List.length_take]; omega
  rw [List.getElem?_append_right (by omega), hl, Nat.sub_self, List.getElem?_drop, Nat.add_zero]
theorem ml_len (k : Int) (its : List ItemD) (j : Nat) (hj : j ≤ its.length) : (ml k (its.take j) ++ its.drop j).length = its.length := by
  rw [List.length_append, ml_length, List.length_take, List.length_drop]
  omega
set_option maxHeartbeats 2000000 in
theorem markItemS_any (v : Value) (its : List ItemD) (cs : List (Value × Value)) (k : Int) (w : World) (base : Nat) (h : OwnC w base v its cs) (hk : 1 ≤ k) (hk2 : k ≤ 274877906944) (hn : itemsSize its ≤ 1048576) :
    Calls Try.prog 32 #[v, .int .i64 k] w fun e w' => e = .returned (.int .i64 (nk k its)) ∧ OwnC w' base v (ml k its) cs ∧ Only (fp v ++ fpL cs) w w' := by
  obtain ⟨A, c, rfl, hnc, hcm, -⟩ := own_form h.2.1
  unfold maxLen at hcm
  have HI := Lib.hid h
  have hlen : its.length ≤ 1048576 := by unfold itemsSize at hn; omega
  clear h
  go_enter Try.func32, Try.ntmps32
  go_wp2_with fail
  go_loopw [1, 5] (fun q i wr => ∃ j : Nat, j ≤ its.length ∧ i = .int .i64 j ∧ q = .int .i64 (nk k (its.take j)) ∧ OwnC wr base (.slice A its.length c) (ml k (its.take j) ++ its.drop j) cs ∧ Only (fp (.slice A its.length c) ++ fpL cs) w wr) (fun _ i _ => its.length - (intOf i).toNat)
  case atStart => exact ⟨0, Nat.zero_le _, rfl, rfl, by simpa [ml] using HI.out, Only.refl _ _⟩
  case round =>
    obtain ⟨j, hj, rfl, rfl, ho, hon⟩ := hrel
    by_cases hlt : j < its.length
    · obtain ⟨kb1, kb2⟩ := nk_bd k (its.take j)
      have kb3 := itemsSize_take its j
      obtain ⟨g, A1, c1, A2, c2, it, rfl, h2, h3, o1, o2⟩ := ownC_at ho (ml_len k its j hj).symm hlt
      have HA := Lib.hid h2
      rw [ml_at k its j hlt] at h2
      have hsz := item_size_le h2
      have hpt := item_parts it
      have HLT : Hid (j < (ml k (its.take j) ++ its.drop j).length) := Lib.hid (by rw [ml_len k its j hj]; exact hlt)
      have HL := Lib.hid (ml_len k its j hj)
      have H3 := Lib.hid h3
      have O1 := Lib.hid o1
      have O2 := Lib.hid o2
      have HO := Lib.hid ho
      have HN := Lib.hid hon
      have HK : Hid (nk k (its.take (j + 1)) = nextK (nk k (its.take j)) it) := Lib.hid (by rw [take_snoc h2, nk_snoc])
      have HM := Lib.hid (ml_step k its j it h2)
      have ND := Lib.hid (List.nodup_append.1 (fpL_inner (List.nodup_append.1 ho.2.2.2).2.1 h3)).2.2
      have M1 : Hid (∀ b, b ∈ fp (.slice A1 it.names.length c1) ∨ b ∈ fp (.slice A2 it.marks.length c2) → b ∈ fp (.slice (some ⟨g, 0, none⟩) its.length c) ++ fpL cs) := Lib.hid (fun b hb => List.mem_append_right _ (mem_fpL h3 hb))
      obtain ⟨⟨q0, q1, q2⟩, f0, f1, f2⟩ := ownC_cells ho HA.out h3
      clear h2 h3 o1 o2 ho hon
      generalize nk k (its.take j) = kj at *
      generalize hcur : ml k (its.take j) ++ its.drop j = cur at *
      clear hcur
      go_wp2_with fail
      clear q0 q1 q2 f0 f1 f2
      refine (markStringS_any _ _ _ _ base O1.out (by omega) (by omega) (by omega)).mono ?_
      rintro e w1 ⟨rfl, o1', on1⟩
      have C1 := HO.out.setItem (it' := { it with names := marksS kj it.names.length }) HA.out H3.out on1 (fun b hb => List.mem_append_left _ hb) rfl o1' (O2.out.only on1 (fun b hb hb' => ND.out b hb' b hb rfl))
      have O2' := Lib.hid (O2.out.only on1 (fun b hb hb' => ND.out b hb' b hb rfl))
      have O1' := Lib.hid o1'
      have ON1 := Lib.hid on1
      have I1 : Hid ((cur.set j { it with names := marksS kj it.names.length })[j]? = some { it with names := marksS kj it.names.length }) := Lib.hid (List.getElem?_set_self HLT.out)
      obtain ⟨⟨q0, q1, q2⟩, f0, f1, f2⟩ := ownC_cells C1 I1.out H3.out
      have C1' := Lib.hid C1
      clear o1' on1 C1
      go_wp2_with fail
      clear q0 q1 q2 f0 f1 f2
      refine (markIntS_any _ _ _ _ base O2'.out (by omega) (by omega) (by omega)).mono ?_
      rintro e w2 ⟨rfl, o2', on2⟩
      have C2 := C1'.out.setItem (it' := { it with names := marksS kj it.names.length, marks := marksI (kj + it.names.length) it.marks.length }) I1.out H3.out on2 (fun b hb => List.mem_append_right _ hb) rfl (O1'.out.only on2 (fun b hb hb' => ND.out b hb b hb' rfl)) o2'
      rw [List.set_set] at C2
      have ON2 := Lib.hid on2
      have I2 : Hid ((cur.set j { it with names := marksS kj it.names.length, marks := marksI (kj + it.names.length) it.marks.length })[j]? = some { it with names := marksS kj it.names.length, marks := marksI (kj + it.names.length) it.marks.length }) := Lib.hid (List.getElem?_set_self HLT.out)
      obtain ⟨⟨q0, q1, q2⟩, f0, f1, f2⟩ := ownC_cells C2 I2.out H3.out
      have C3 := C2.setLate (it' := markIt kj it) (by rw [List.length_set]; exact HL.out.symm) I2.out H3.out rfl rfl
      rw [List.set_set, HM.out] at C3
      have C3' := Lib.hid C3
      clear o2' on2 C2 C3
      go_wp2_with fail
      go_roundw
      case rel =>
        refine ⟨j + 1, by omega, by go_num, by rw [HK.out]; unfold nextK; go_num, C3'.out, ?_⟩
        refine Only.setCell ?_ (by simp [fp_some]) _
        exact (HN.out.trans (ON1.out.mono (fun b hb => M1.out b (.inl hb)))).trans (ON2.out.mono (fun b hb => M1.out b (.inr hb)))
      case measure => simp [intOf]; omega
    · obtain rfl : j = its.length := by omega
      have HO := Lib.hid ho
      clear ho
      go_wp2_with fail
      go_ret
      refine ⟨?_, ?_, hon⟩
      · rw [List.take_length]; rfl
      · have := HO.out
        rw [List.take_length, List.drop_length, List.append_nil] at this
        exact this
theorem ml_get (k : Int) (its : List ItemD) (j : Nat) (it : ItemD) (h : its[j]? = some it) : (ml k its)[j]? = some (markIt (nk k (its.take j)) it) := by
  induction its generalizing k j with
  | nil => simp at h
  | cons x l ih =>
    cases j with
    | zero => simp at h; subst h; simp [ml, nk]
    | succ j => simp at h; simp [ml, nk, ih _ _ h]
end Go.Proofs.Ytpkmngkepmoikaa
