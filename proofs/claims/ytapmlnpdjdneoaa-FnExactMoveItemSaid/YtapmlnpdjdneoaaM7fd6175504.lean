/- Contracts of functions that the proof leans on. No condition. -/
import Derived.Test.YtapmlnpdjdneoaaM9227e6a7de
import Derived.IntWalk
/- Lists of items marked, and read again. -/
namespace Go.Proofs.Ytapmlnpdjdneoaa
set_option linter.unusedVariables false
set_option linter.unusedSimpArgs false
open Go.RowKit

theorem zip_set_row {cs : List (Value × Value)} {its : List ItemD} {j : Nat} {it' : ItemD} (hl : cs.length = its.length) (hj : j < its.length) :
    ((cs.zip its).flatMap row3).set (j * 3 + 2) (.bool it'.late) = (cs.zip (its.set j it')).flatMap row3 := by
  have hz : (cs.zip its).length = its.length := by rw [List.length_zip]; omega
  have hz' : (cs.zip (its.set j it')).length = its.length := by rw [List.length_zip, List.length_set]; omega
  apply List.ext_getElem?
  intro i
  by_cases hi : i < its.length * 3
  · have e : i = i / 3 * 3 + i % 3 := by omega
    have hm : i % 3 < 3 := by omega
    have hq : i / 3 < its.length := by omega
    have f1 := flat_get row3 3 (fun _ => rfl) (cs.zip its) (i / 3) (i % 3) hm
    have f2 := flat_get row3 3 (fun _ => rfl) (cs.zip (its.set j it')) (i / 3) (i % 3) hm
    rw [← e] at f1 f2
    have g1 : (cs.zip its)[i / 3]? = some (cs[i / 3], its[i / 3]) := by
      rw [List.getElem?_zip_eq_some]
      exact ⟨List.getElem?_eq_getElem _, List.getElem?_eq_getElem _⟩
    have g2 : (cs.zip (its.set j it'))[i / 3]? = some (cs[i / 3], (its.set j it')[i / 3]'(by rw [List.length_set]; exact hq)) := by
      rw [List.getElem?_zip_eq_some]
      exact ⟨List.getElem?_eq_getElem _, List.getElem?_eq_getElem _⟩
    rw [g1] at f1
    rw [g2] at f2
    rw [f2, List.getElem?_set, f1]
    by_cases hij : i / 3 = j
    · subst hij
      have h3 : i % 3 = 0 ∨ i % 3 = 1 ∨ i % 3 = 2 := by omega
      rcases h3 with h | h | h
      · rw [if_neg (by omega), h]; rfl
      · rw [if_neg (by omega), h]; rfl
      · rw [if_pos (by omega), if_pos (by rw [flat_length row3 3 (fun _ => rfl), hz]; omega), h]
        simp [row3]
    · rw [if_neg (by omega)]
      have : (its.set j it')[i / 3]'(by rw [List.length_set]; exact hq) = its[i / 3] := by rw [List.getElem_set_ne (Ne.symm hij)]
      simp [row3, this]
  · rw [List.getElem?_eq_none (by rw [List.length_set, flat_length row3 3 (fun _ => rfl), hz]; omega), List.getElem?_eq_none (by rw [flat_length row3 3 (fun _ => rfl), hz']; omega)]
theorem OwnC.setLate {w : World} {base g cap n : Nat} {its : List ItemD} {cs : List (Value × Value)} {j : Nat} {it it' : ItemD} {nv mv : Value}
    (h : OwnC w base (.slice (some ⟨g, 0, none⟩) n cap) its cs) (hnl : n = its.length) (hi : its[j]? = some it) (hc : cs[j]? = some (nv, mv)) (hn : it'.names = it.names) (hm : it'.marks = it.marks) :
    OwnC (w.setCell ⟨g, j * 3 + 2, none⟩ (.bool it'.late)) base (.slice (some ⟨g, 0, none⟩) n cap) (its.set j it') cs := by
  subst hnl
  obtain ⟨h1, h2, h3, h4⟩ := h
  have hj : j < its.length := (List.getElem?_eq_some_iff.1 hi).1
  have hnd := List.nodup_append.1 h4
  have ho : Only [g] w (w.setCell ⟨g, j * 3 + 2, none⟩ (.bool it'.late)) := (Only.refl _ _).setCell (by simp) _
  refine ⟨by simpa using h1, ?_, ?_, h4⟩
  · have hs := (h2.stored (j * 3 + 2) (.bool it'.late)).1
    rw [zip_set_row h1 hj] at hs
    rw [List.length_set]
    exact hs
  · intro k nv' mv' x q1 q2
    have hg : ∀ b, b ∈ fp nv' ∨ b ∈ fp mv' → b ∉ [g] := fun b hb hbg => by
      rw [List.mem_singleton] at hbg
      exact hnd.2.2 g (by simp [fp_some]) b (mem_fpL q1 hb) hbg.symm
    by_cases hk : k = j
    · subst hk
      rw [List.getElem?_set_self hj] at q2
      simp at q2
      subst q2
      obtain ⟨r1, r2⟩ := h3 k nv' mv' it q1 hi
      rw [hn, hm]
      exact ⟨r1.only ho (fun b hb => hg b (.inl hb)), r2.only ho (fun b hb => hg b (.inr hb))⟩
    · rw [List.getElem?_set_ne (Ne.symm hk)] at q2
      obtain ⟨r1, r2⟩ := h3 k nv' mv' x q1 q2
      exact ⟨r1.only ho (fun b hb => hg b (.inl hb)), r2.only ho (fun b hb => hg b (.inr hb))⟩
/-- the cells of an item of a list that the call owns -/
theorem ownC_cells {w : World} {base g n cap : Nat} {its : List ItemD} {cs : List (Value × Value)} {j : Nat} {it : ItemD} {nv mv : Value} (h : OwnC w base (.slice (some ⟨g, 0, none⟩) n cap) its cs) (hi : its[j]? = some it) (hc : cs[j]? = some (nv, mv)) :
    (w.cell? ⟨g, j * 3, none⟩ = some nv ∧ w.cell? ⟨g, j * 3 + 1, none⟩ = some mv ∧ w.cell? ⟨g, j * 3 + 2, none⟩ = some (.bool it.late)) ∧
      (w.frozen? ⟨g, j * 3, none⟩ = false ∧ w.frozen? ⟨g, j * 3 + 1, none⟩ = false ∧ w.frozen? ⟨g, j * 3 + 2, none⟩ = false) := by
  obtain ⟨h1, h2, h3, h4⟩ := h
  obtain ⟨A', c', e, _, _, hA⟩ := own_form h2
  simp only [Value.slice.injEq] at e
  obtain ⟨_, hn, rfl⟩ := e
  subst hn
  have hj : j < its.length := (List.getElem?_eq_some_iff.1 hi).1
  have hz : (cs.zip its)[j]? = some ((nv, mv), it) := by rw [List.getElem?_zip_eq_some]; exact ⟨hc, hi⟩
  have hf := flat_get row3 3 (fun _ => rfl) (cs.zip its) j
  have hcell : ∀ i, i < 3 → w.cell? ⟨g, j * 3 + i, none⟩ = (row3 ((nv, mv), it))[i]? := fun i hi3 => by
    rw [h2.cellAt (j * 3 + i) (by omega), hf i hi3, hz]
    rfl
  exact ⟨⟨hcell 0 (by omega), hcell 1 (by omega), hcell 2 (by omega)⟩, h2.frozenAt _, h2.frozenAt _, h2.frozenAt _⟩
theorem ownC_at {w : World} {base : Nat} {A : Option Addr} {n c : Nat} {its : List ItemD} {cs : List (Value × Value)} (h : OwnC w base (.slice A n c) its cs) (hnl : n = its.length) {j : Nat} (hj : j < n) :
    ∃ g A1 c1 A2 c2 it, A = some ⟨g, 0, none⟩ ∧ its[j]? = some it ∧ cs[j]? = some (.slice A1 it.names.length c1, .slice A2 it.marks.length c2) ∧
      OwnS w base (.slice A1 it.names.length c1) it.names ∧ OwnI w base (.slice A2 it.marks.length c2) it.marks := by
  subst hnl
  obtain ⟨h1, h2, h3, h4⟩ := h
  obtain ⟨A', c', e, _, _, hA⟩ := own_form h2
  simp only [Value.slice.injEq] at e
  obtain ⟨rfl, _, rfl⟩ := e
  obtain ⟨g, rfl⟩ := hA (by omega)
  have q1 : its[j]? = some its[j] := List.getElem?_eq_getElem hj
  obtain ⟨nv, mv, q2⟩ : ∃ nv mv, cs[j]? = some (nv, mv) := ⟨_, _, List.getElem?_eq_getElem (by omega)⟩
  obtain ⟨r1, r2⟩ := h3 j nv mv its[j] q2 q1
  obtain ⟨A1, c1, rfl, _⟩ := own_form r1.1
  obtain ⟨A2, c2, rfl, _⟩ := own_form r2
  exact ⟨g, A1, c1, A2, c2, its[j], rfl, q1, q2, r1, r2⟩
theorem OwnC.items {w : World} {base : Nat} {v : Value} {its : List ItemD} {cs : List (Value × Value)} (h : OwnC w base v its cs) : ItemsAt w v its := by
  obtain ⟨h1, h2, h3, _⟩ := h
  exact ⟨cs, h1, Seq.of_own h2, fun k nv mv it q1 q2 => ⟨(h3 k nv mv it q1 q2).1.strs, (h3 k nv mv it q1 q2).2.ints⟩⟩
theorem OwnC.only {w w' : World} {base : Nat} {v : Value} {its : List ItemD} {cs : List (Value × Value)} {T : List Nat} (h : OwnC w base v its cs) (ho : Only T w w') (hd : ∀ b ∈ fp v ++ fpL cs, b ∉ T) : OwnC w' base v its cs := by
  obtain ⟨h1, h2, h3, h4⟩ := h
  exact ⟨h1, own_only h2 ho (fun b hb => hd b (List.mem_append_left _ hb)), fun k nv mv it q1 q2 => ⟨(h3 k nv mv it q1 q2).1.only ho (fun b hb => hd b (List.mem_append_right _ (mem_fpL q1 (.inl hb)))), (h3 k nv mv it q1 q2).2.only ho (fun b hb => hd b (List.mem_append_right _ (mem_fpL q1 (.inr hb))))⟩, h4⟩
theorem OwnC.kept {w w' : World} {base : Nat} {v : Value} {its : List ItemD} {cs : List (Value × Value)} (h : OwnC w base v its cs) (hk : Kept w w') : OwnC w' base v its cs := h.only (hk.only []) (fun _ _ => List.not_mem_nil)
theorem OwnL.toC {w : World} {base : Nat} {v : Value} {its : List ItemD} {S : List Nat} (h : OwnL w base v its S) : ∃ cs, OwnC w base v its cs ∧ S = fp v ++ fpL cs ∧ ∀ b ∈ S, base ≤ b ∧ b < w.heap.size := by
  obtain ⟨cs, h1, h2, h3, h4, h5, h6⟩ := h
  exact ⟨cs, ⟨h1, h2, h3, h4 ▸ h5⟩, h4, h6⟩
theorem set_mid {α : Type} (A B : List α) (x y : α) (j : Nat) (hj : j = A.length) : (A ++ x :: B).set j y = A ++ y :: B := by
  subst hj
  rw [List.set_append_right _ _ (Nat.le_refl _)]
  simp
theorem ml_step (k : Int) (its : List ItemD) (j : Nat) (it : ItemD) (h : its[j]? = some it) :
    (ml k (its.take j) ++ its.drop j).set j (markIt (nk k (its.take j)) it) = ml k (its.take (j + 1)) ++ its.drop (j + 1) := by
  obtain ⟨hj, rfl⟩ := List.getElem?_eq_some_iff.1 h
  rw [List.drop_eq_getElem_cons hj, set_mid _ _ _ _ _ (by rw [ml_length, List.length_take]; omega), take_snoc h, ml_snoc, List.append_assoc]
  rfl
theorem ml_at (k : Int) (its : List ItemD) (j : Nat) (hj : j < its.length) : (ml k (its.take j) ++ its.drop j)[j]? = its[j]? := by
  have hl : (ml k (its.take j)).length = j := by rw [ml_length, List.length_take]; omega
  rw [List.getElem?_append_right (by omega), hl, Nat.sub_self, List.getElem?_drop, Nat.add_zero]
theorem ml_len (k : Int) (its : List ItemD) (j : Nat) (hj : j ≤ its.length) : (ml k (its.take j) ++ its.drop j).length = its.length := by
  rw [List.length_append, ml_length, List.length_take, List.length_drop]
  omega
set_option maxHeartbeats 2000000 in
theorem markItemS_any (v : Value) (its : List ItemD) (cs : List (Value × Value)) (k : Int) (w : World) (base : Nat) (h : OwnC w base v its cs) (hk : 1 ≤ k) (hk2 : k ≤ 274877906944) (hn : itemsSize its ≤ 1048576) :
    Calls Try.prog 13 #[v, .int .i64 k] w fun e w' => e = .returned (.int .i64 (nk k its)) ∧ OwnC w' base v (ml k its) cs ∧ Only (fp v ++ fpL cs) w w' := by
  obtain ⟨A, c, rfl, hnc, hcm, -⟩ := own_form h.2.1
  unfold maxLen at hcm
  have HI := Lib.hid h
  have hlen : its.length ≤ 1048576 := by unfold itemsSize at hn; omega
  clear h
  go_enter Try.func13, Try.ntmps13
  go_wp2_with fail
  go_loopw [1, 5] (fun q i wr => ∃ j : Nat, j ≤ its.length ∧ i = .int .i64 j ∧ q = .int .i64 (nk k (its.take j)) ∧ OwnC wr base (.slice A its.length c) (ml k (its.take j) ++ its.drop j) cs ∧ Only (fp (.slice A its.length c) ++ fpL cs) w wr) (fun _ i _ => its.length - (intOf i).toNat)
  case atStart => exact ⟨0, Nat.zero_le _, rfl, rfl, by simpa [ml] using HI.out, Only.refl _ _⟩
  case round =>
    obtain ⟨j, hj, rfl, rfl, ho, hon⟩ := hrel
    by_cases hlt : j < its.length
    · obtain ⟨kb1, kb2⟩ := nk_bd k (its.take j)
      have kb3 := itemsSize_take its j
      obtain ⟨g, A1, c1, A2, c2, it, rfl, h2, h3, o1, o2⟩ := ownC_at ho (ml_len k its j hj).symm hlt
      have HA := Lib.hid h2
      rw [ml_at k its j hlt] at h2
      have hsz := item_size_le h2
      have hpt := item_parts it
      have HLT : Hid (j < (ml k (its.take j) ++ its.drop j).length) := Lib.hid (by rw [ml_len k its j hj]; exact hlt)
      have HL := Lib.hid (ml_len k its j hj)
      have H3 := Lib.hid h3
      have O1 := Lib.hid o1
      have O2 := Lib.hid o2
      have HO := Lib.hid ho
      have HN := Lib.hid hon
      have HK : Hid (nk k (its.take (j + 1)) = nextK (nk k (its.take j)) it) := Lib.hid (by rw [take_snoc h2, nk_snoc])
      have HM := Lib.hid (ml_step k its j it h2)
      have ND := Lib.hid (List.nodup_append.1 (fpL_inner (List.nodup_append.1 ho.2.2.2).2.1 h3)).2.2
      have M1 : Hid (∀ b, b ∈ fp (.slice A1 it.names.length c1) ∨ b ∈ fp (.slice A2 it.marks.length c2) → b ∈ fp (.slice (some ⟨g, 0, none⟩) its.length c) ++ fpL cs) := Lib.hid (fun b hb => List.mem_append_right _ (mem_fpL h3 hb))
      obtain ⟨⟨q0, q1, q2⟩, f0, f1, f2⟩ := ownC_cells ho HA.out h3
      clear h2 h3 o1 o2 ho hon
      generalize nk k (its.take j) = kj at *
      generalize hcur : ml k (its.take j) ++ its.drop j = cur at *
      clear hcur
      go_wp2_with fail
      clear q0 q1 q2 f0 f1 f2
      refine (markStringS_any _ _ _ _ base O1.out (by omega) (by omega) (by omega)).mono ?_
      rintro e w1 ⟨rfl, o1', on1⟩
      have C1 := HO.out.setItem (it' := { it with names := marksS kj it.names.length }) HA.out H3.out on1 (fun b hb => List.mem_append_left _ hb) rfl o1' (O2.out.only on1 (fun b hb hb' => ND.out b hb' b hb rfl))
      have O2' := Lib.hid (O2.out.only on1 (fun b hb hb' => ND.out b hb' b hb rfl))
      have O1' := Lib.hid o1'
      have ON1 := Lib.hid on1
      have I1 : Hid ((cur.set j { it with names := marksS kj it.names.length })[j]? = some { it with names := marksS kj it.names.length }) := Lib.hid (List.getElem?_set_self HLT.out)
      obtain ⟨⟨q0, q1, q2⟩, f0, f1, f2⟩ := ownC_cells C1 I1.out H3.out
      have C1' := Lib.hid C1
      clear o1' on1 C1
      go_wp2_with fail
      clear q0 q1 q2 f0 f1 f2
      refine (markIntS_any _ _ _ _ base O2'.out (by omega) (by omega) (by omega)).mono ?_
      rintro e w2 ⟨rfl, o2', on2⟩
      have C2 := C1'.out.setItem (it' := { it with names := marksS kj it.names.length, marks := marksI (kj + it.names.length) it.marks.length }) I1.out H3.out on2 (fun b hb => List.mem_append_right _ hb) rfl (O1'.out.only on2 (fun b hb hb' => ND.out b hb b hb' rfl)) o2'
      rw [List.set_set] at C2
      have ON2 := Lib.hid on2
      have I2 : Hid ((cur.set j { it with names := marksS kj it.names.length, marks := marksI (kj + it.names.length) it.marks.length })[j]? = some { it with names := marksS kj it.names.length, marks := marksI (kj + it.names.length) it.marks.length }) := Lib.hid (List.getElem?_set_self HLT.out)
      obtain ⟨⟨q0, q1, q2⟩, f0, f1, f2⟩ := ownC_cells C2 I2.out H3.out
      have C3 := C2.setLate (it' := markIt kj it) (by rw [List.length_set]; exact HL.out.symm) I2.out H3.out rfl rfl
      rw [List.set_set, HM.out] at C3
      have C3' := Lib.hid C3
      clear o2' on2 C2 C3
      go_wp2_with fail
      go_roundw
      case rel =>
        refine ⟨j + 1, by omega, by go_num, by rw [HK.out]; unfold nextK; go_num, C3'.out, ?_⟩
        refine Only.setCell ?_ (by simp [fp_some]) _
        exact (HN.out.trans (ON1.out.mono (fun b hb => M1.out b (.inl hb)))).trans (ON2.out.mono (fun b hb => M1.out b (.inr hb)))
      case measure => simp [intOf]; omega
    · obtain rfl : j = its.length := by omega
      have HO := Lib.hid ho
      clear ho
      go_wp2_with fail
      go_ret
      refine ⟨?_, ?_, hon⟩
      · rw [List.take_length]; rfl
      · have := HO.out
        rw [List.take_length, List.drop_length, List.append_nil] at this
        exact this
theorem ml_get (k : Int) (its : List ItemD) (j : Nat) (it : ItemD) (h : its[j]? = some it) : (ml k its)[j]? = some (markIt (nk k (its.take j)) it) := by
  induction its generalizing k j with
  | nil => simp at h
  | cons x l ih =>
    cases j with
    | zero => simp at h; subst h; simp [ml, nk]
    | succ j => simp at h; simp [ml, nk, ih _ _ h]
set_option maxHeartbeats 2000000 in
theorem heldItemS_any (v : Value) (its : List ItemD) (k : Int) (w : World) (h : ItemsAt w v (ml k its)) (hk : 1 ≤ k) (hk2 : k ≤ 274877906944) (hn : itemsSize its ≤ 1048576) :
    Calls Try.prog 22 #[v, .int .i64 k] w fun e w' => e = .returned (.int .i64 (nk k its)) ∧ Kept w w' := by
  obtain ⟨A, c, cs, rfl, hnc, hcm, hA⟩ := h.out
  have HML := Lib.hid (ml_length k its)
  rw [HML.out] at hnc
  unfold maxLen at hcm
  have HA := Lib.hid hA
  have hlen : its.length ≤ 1048576 := by unfold itemsSize at hn; omega
  clear hA h
  rw [HML.out]
  go_enter Try.func22, Try.ntmps22
  go_wp2_with fail
  go_loopw [1, 5] (fun q i wr => ∃ j : Nat, j ≤ its.length ∧ i = .int .i64 j ∧ q = .int .i64 (nk k (its.take j)) ∧ Kept w wr) (fun _ i _ => its.length - (intOf i).toNat)
  case atStart => exact ⟨0, Nat.zero_le _, rfl, rfl, Kept.refl _⟩
  case round =>
    obtain ⟨j, hj, rfl, rfl, hkept⟩ := hrel
    by_cases hlt : j < its.length
    · obtain ⟨kb1, kb2⟩ := nk_bd k (its.take j)
      have kb3 := itemsSize_take its j
      have h2 : its[j]? = some its[j] := List.getElem?_eq_getElem hlt
      have hsz := item_size_le h2
      have hpt := item_parts its[j]
      obtain ⟨b, o, A1, c1, A2, c2, it', rfl, hb, h2', h3, hit, q0, q1, q2⟩ := items_at (HA.out.kept hkept) (k := j) (by rw [HML.out]; exact hlt)
      rw [ml_get k its j _ h2] at h2'
      injection h2' with h2'
      subst h2'
      have HK : Hid (nk k (its.take (j + 1)) = nextK (nk k (its.take j)) its[j]) := Lib.hid (by rw [take_snoc h2, nk_snoc])
      generalize its[j] = it at *
      generalize nk k (its.take j) = kj at *
      have e1 : (markIt kj it).names.length = it.names.length := marksS_length _ _
      have e2 : (markIt kj it).marks.length = it.marks.length := marksI_length _ _
      rw [e1, e2] at hit
      rw [e1] at q0
      rw [e2] at q1
      obtain ⟨nv, mv, ee, r1, r2⟩ := hit
      simp only [Value.agg.injEq] at ee
      simp at ee
      obtain ⟨rfl, rfl⟩ := ee
      have S1 : Hid (Strs wr (.slice A1 it.names.length c1) (marksS kj it.names.length)) := Lib.hid r1
      have S2 : Hid (Ints wr (.slice A2 it.marks.length c2) (marksI (kj + it.names.length) it.marks.length)) := Lib.hid r2
      have q2' : wr.cell? ⟨b, o + j * 3 + 2, none⟩ = some (.bool ((kj + it.names.length + it.marks.length) % 3 == 0)) := q2
      clear r1 r2 q2 e1 e2 h2 h3
      have hlt' : (j : Int) < (its.length : Int) := by omega
      have HQ := Lib.hid (And.intro q0 (And.intro q1 q2'))
      go_wp2_with fail
      clear q0 q1 q2'
      refine (heldStringS_any _ _ _ _ S1.out (by omega) (by omega) (by omega)).mono ?_
      rintro e w1 ⟨rfl, k1⟩
      have p1 := (k1.cell (p := ⟨b, o + j * 3 + 1, none⟩) hb).trans HQ.out.2.1
      have p2 := (k1.cell (p := ⟨b, o + j * 3 + 2, none⟩) hb).trans HQ.out.2.2
      go_wp2_with fail
      refine (heldIntS_any _ _ _ _ (S2.out.kept k1) (by omega) (by omega) (by omega)).mono ?_
      rintro e w2 ⟨rfl, rfl⟩
      go_wp2_with fail
      go_roundw
      case rel => exact ⟨j + 1, by omega, by go_num, by rw [HK.out]; unfold nextK; go_num, hkept.trans k1⟩
      case measure => simp [intOf]; omega
    · obtain rfl : j = its.length := by omega
      go_wp2_with fail
      go_ret
      refine ⟨?_, hkept⟩
      rw [List.take_length]; rfl
end Go.Proofs.Ytapmlnpdjdneoaa

/- The marks that the laws write: elements, codes. -/
namespace Go.Proofs.Ytapmlnpdjdneoaa
set_option linter.unusedVariables false
set_option linter.unusedSimpArgs false
open Go.RowKit

def markE (k : Int) : ElemD := ⟨mt k, k + 1, k + 2, k + 3⟩
def marksE (k : Int) (n : Nat) : List ElemD := (List.range n).map fun (i : Nat) => markE (k + 4 * (i : Int))
theorem marksE_length (k : Int) (n : Nat) : (marksE k n).length = n := by simp [marksE]
theorem marksE_get {k : Int} {n i : Nat} (h : i < n) : (marksE k n)[i]? = some (markE (k + 4 * i)) := by simp [marksE, h]
theorem marksE_size (k : Int) (n : Nat) : ∀ e ∈ marksE k n, e.name.size ≤ maxLen := by
  intro z hz
  unfold marksE at hz
  obtain ⟨i, _, rfl⟩ := List.mem_map.1 hz
  exact mt_size _
set_option maxHeartbeats 2000000 in
theorem markElementS_any (v : Value) (es : List ElemD) (k : Int) (w : World) (base : Nat) (h : OwnE w base v es) (hk : 1 ≤ k) (hk2 : k ≤ 274877906944) (hn : es.length ≤ 1048576) :
    Calls Try.prog 51 #[v, .int .i64 k] w fun e w' => e = .returned (.int .i64 (k + 4 * es.length)) ∧ OwnE w' base v (marksE k es.length) ∧ Only (fp v) w w' := by
  obtain ⟨A, c, rfl, hnc, hcm, hA⟩ := own_form h.1
  unfold maxLen at hcm
  have HA := Lib.hid hA
  have HI := Lib.hid h.1
  clear h hA
  go_enter Try.func51, Try.ntmps51
  go_wp2_with fail
  go_loopw [1, 5] (fun q i wr => ∃ (j : Nat) (xs : List Value), j ≤ es.length ∧ i = .int .i64 j ∧ q = .int .i64 (k + 4 * j) ∧ wr.ownsRow base 87 4 (.slice A es.length c) es.length xs ∧ xs.take (j * 4) = ((marksE k es.length).take j).flatMap cells4 ∧ Only (fp (.slice A es.length c)) w wr) (fun _ i _ => es.length - (intOf i).toNat)
  case atStart => exact ⟨0, _, Nat.zero_le _, rfl, by simp, HI.out, by simp, Only.refl _ _⟩
  case round =>
    obtain ⟨j, xs, hj, rfl, rfl, ho, ht, hon⟩ := hrel
    have hlen : xs.length = es.length * 4 := ho.1
    by_cases hlt : j < es.length
    · obtain ⟨g, rfl⟩ := HA.out (by omega)
      have HT := Lib.hid ht
      have HO := Lib.hid hlen
      have HN := Lib.hid hon
      have HR := Lib.hid ho
      clear ht hlen ho hon
      go_wp2_with fail
      refine (markText_any _ _ (by omega) (by omega)).mono ?_
      rintro e w1 ⟨rfl, k1⟩
      have ho1 := own_kept HR.out k1
      obtain ⟨u0, _, x0, y0⟩ := own_at ho1 (j := j * 4) (by omega)
      obtain ⟨u1, _, x1, y1⟩ := own_at ho1 (j := j * 4 + 1) (by omega)
      obtain ⟨u2', _, x2, y2⟩ := own_at ho1 (j := j * 4 + 2) (by omega)
      obtain ⟨u3', _, x3, y3⟩ := own_at ho1 (j := j * 4 + 3) (by omega)
      have HO1 := Lib.hid ho1
      clear ho1
      go_wp2_with fail
      go_roundw
      case rel =>
        refine ⟨j + 1, _, by omega, by go_num, by go_num, ((((HO1.out.stored (j * 4) _).1.stored (j * 4 + 1) _).1.stored (j * 4 + 2) _).1.stored (j * 4 + 3) _).1, ?_, ?_⟩
        · rw [set4_take HO.out hlt HT.out, take_snoc (marksE_get hlt)]
          simp [cells4, markE]
          try omega
        · repeat (refine Only.setCell ?_ (by simp [fp_some]) _)
          exact HN.out.trans (k1.only _)
      case measure => simp [intOf]; omega
    · obtain rfl : j = es.length := by omega
      have hx : xs = (marksE k es.length).flatMap cells4 := by rw [List.take_of_length_le (by omega), List.take_of_length_le (by rw [marksE_length]; exact Nat.le_refl _)] at ht; exact ht
      have HX := Lib.hid hx
      have HR := Lib.hid ho
      have HN := Lib.hid hon
      clear hx ht ho hon hlen
      go_wp2_with fail
      go_ret
      refine ⟨rfl, ⟨?_, marksE_size _ _⟩, HN.out⟩
      rw [marksE_length, ← HX.out]
      exact HR.out
def markK (k : Int) (x : CodeD) : CodeD := { x with elems := marksE k x.elems.length, limits := marksI (k + 4 * x.elems.length) x.limits.length }
def nextC (k : Int) (x : CodeD) : Int := k + 4 * x.elems.length + x.limits.length
theorem OwnK.nodup {w : World} {base : Nat} {v : Value} {x : CodeD} (h : OwnK w base v x) : (fpA v).Nodup := by
  obtain ⟨_, _, _, _, _, h⟩ := h
  exact h
set_option maxHeartbeats 1000000 in
theorem markCode_any (v : Value) (x : CodeD) (k : Int) (w : World) (base : Nat) (h : OwnK w base v x) (hk : 1 ≤ k) (hk2 : k ≤ 137438953472) (hn : x.elems.length ≤ 1048576) (hm : x.limits.length ≤ 1048576) :
    Calls Try.prog 21 #[v, .int .i64 k] w fun e w' => e = .returned (.int .i64 (nextC k x)) ∧ OwnK w' base v (markK k x) ∧ Only (fpA v) w w' := by
  obtain ⟨nv, mv, rfl, o1, o2, nd⟩ := h
  obtain ⟨A, c, rfl, _, _, _⟩ := own_form o1.1
  obtain ⟨A2, c2, rfl, _, _, _⟩ := own_form o2
  have ND := Lib.hid nd
  rw [fpA_code] at nd
  have HD := Lib.hid (List.nodup_append.1 nd).2.2
  have O1 := Lib.hid o1
  have O2 := Lib.hid o2
  have B0 := Box.new w w.heap.size 43 #[.slice A x.elems.length c, .slice A2 x.limits.length c2, .int .i64 x.repeats, .int .i64 x.bonus, .int .i64 x.keeps, .int .i64 x.fall] rfl
  have K0 : Kept w (w.alloc (.cells #[.slice A x.elems.length c, .slice A2 x.limits.length c2, .int .i64 x.repeats, .int .i64 x.bonus, .int .i64 x.keeps, .int .i64 x.fall] 43)) := (Kept.refl w).alloc _
  have F1 := Lib.hid (own_fp o1.1)
  have F2 := Lib.hid (own_fp o2)
  clear nd o1 o2
  go_enter Try.func21, Try.ntmps21
  go_wp2_with fail
  refine (markElementS_any _ x.elems _ _ base (O1.out.kept K0) hk (by omega) hn).mono ?_
  rintro e w1 ⟨rfl, o1, on1⟩
  have B1 := B0.only on1 (fun hb => by have := F1.out _ hb; omega)
  obtain ⟨x0, y0⟩ := B1.six
  go_wp2_with fail
  clear x0 y0
  refine (markIntS_any _ x.limits _ _ base ((O2.out.kept K0).only on1 (fun b hb hb' => HD.out b hb' b hb rfl)) (by omega) (by omega) hm).mono ?_
  rintro e w2 ⟨rfl, o2, on2⟩
  go_wp2_with fail
  go_ret
  refine ⟨ret_int (by unfold nextC; rfl), ⟨_, _, rfl, ?_, ?_, ND.out⟩, ?_⟩
  · exact o1.only on2 (fun b hb hb' => HD.out b hb b hb' rfl)
  · exact o2
  · rw [fpA_code]
    exact (K0.only _).trans ((on1.mono (fun b hb => List.mem_append_left _ hb)).trans (on2.mono (fun b hb => List.mem_append_right _ hb)))
end Go.Proofs.Ytapmlnpdjdneoaa

/- Items over a code: FamilyOf, ItemFamily, KnowsItems. -/
namespace Go.Proofs.Ytapmlnpdjdneoaa
set_option linter.unusedVariables false
set_option linter.unusedSimpArgs false
open Go.RowKit

def onB (b v : Bool) : Bool := cond b v false
end Go.Proofs.Ytapmlnpdjdneoaa

/- Rounding and sums. -/
namespace Go.Proofs.Ytapmlnpdjdneoaa
set_option linter.unusedVariables false
set_option linter.unusedSimpArgs false
open Go.RowKit

theorem fdiv_of (a b : Int) (hb : 1 ≤ b) : a / b = if a.tmod b < 0 then a.tdiv b - 1 else a.tdiv b := by
  have h1 := Int.mul_tdiv_add_tmod a b
  have h2 : (a.tmod b) < b := Int.tmod_lt_of_pos a (by omega)
  have h3 : -b < a.tmod b := by
    have h := Int.tmod_lt_of_pos (-a) (show 0 < b by omega)
    rw [Int.neg_tmod] at h
    omega
  split
  · rw [Int.ediv_eq_iff_of_pos (by omega)]
    rw [Int.sub_mul]
    have := Int.mul_comm b (a.tdiv b)
    constructor <;> omega
  · rw [Int.ediv_eq_iff_of_pos (by omega)]
    have := Int.mul_comm b (a.tdiv b)
    constructor <;> omega
theorem tdiv_bd (a b A : Int) (h1 : -A ≤ a) (h2 : a ≤ A) : -A ≤ a.tdiv b ∧ a.tdiv b ≤ A := by
  have h3 : (a.tdiv b).natAbs = a.natAbs / b.natAbs := Int.natAbs_tdiv a b
  have h4 := Nat.div_le_self a.natAbs b.natAbs
  omega
theorem ediv_bd (a b A : Int) (hb : 1 ≤ b) (h1 : -A ≤ a) (h2 : a ≤ A) : -A - 1 ≤ a / b ∧ a / b ≤ A := by
  have h3 := fdiv_of a b hb
  have h4 := tdiv_bd a b A h1 h2
  split at h3 <;> omega
theorem sum_bd (zs : List Int) (M : Int) (hM : 0 ≤ M) (h : ∀ z ∈ zs, -M ≤ z ∧ z ≤ M) (k : Nat) : -((k : Int) * M) ≤ (zs.take k).sum ∧ (zs.take k).sum ≤ (k : Int) * M := by
  induction zs generalizing k with
  | nil =>
    have : 0 ≤ (k : Int) * M := Int.mul_nonneg (by omega) hM
    simp
    omega
  | cons z zs ih =>
    cases k with
    | zero => simp
    | succ k =>
      have h1 := h z (by simp)
      have h2 := ih (fun y hy => h y (by simp [hy])) k
      have h3 : ((k + 1 : Nat) : Int) * M = (k : Int) * M + M := by rw [Int.natCast_add, Int.add_mul]; simp
      rw [List.take_succ_cons, List.sum_cons, h3]
      omega
end Go.Proofs.Ytapmlnpdjdneoaa

/- append to rows of the call's own, in the words of the readings. -/
namespace Go.Proofs.Ytapmlnpdjdneoaa
set_option linter.unusedVariables false
set_option linter.unusedSimpArgs false
open Go.RowKit

theorem own_nil (w : World) (base : Nat) : OwnI w base (.slice none 0 0) [] := World.ownsRow_nil _ _ _ _
theorem OwnI.base {w : World} {base base' : Nat} {v : Value} {zs : List Int} (h : OwnI w base v zs) (hb : base' ≤ base) : OwnI w base' v zs := own_base h hb
/-- what was there when a0 stood is kept by an append to a row that lies above -/
theorem Kept.grew {a w w' : World} {base : Nat} {e : TypeId} {size : Nat} {v : Value} {n : Nat} {xs : List Value} (hk : Kept a w) (h : w.ownsRow base e size v n xs) (hg : w.grownBy w' v.ownBlock) (hb : a.heap.size ≤ base) : Kept a w' :=
  (only_of_grown hg).above hk (fun b hb' => Nat.le_trans hb (own_fp h b hb').1)
/-- a row built of no element -/
theorem own_made {w : World} {base : Nat} (g : Nat) (e : TypeId) (size : Nat) (hb : base ≤ g) (h : Box w g e #[]) : w.ownsRow base e size (.slice (some ⟨g, 0, none⟩) 0 0) 0 [] :=
  ⟨by simp, .inr ⟨g, 0, _, rfl, hb, h, Nat.le_refl _, Nat.zero_le _, by simp, by simp⟩⟩
/-- append(out, x), numbers -/
theorem wpList_append_int (w : World) {ops : Array Oper} {rest : List Oper} {o : Oper} {a : Act} {Q : Exit → Act → World → Prop} (hgd : o.guard = none) (s x : Operand)
    (ho : o.op = .call { callee := .builtin .append, args := #[s, x], argTypes := #[35, 35] })
    (base : Nat) (v : Value) (zs : List Int) (hs : a.eval s = v) (hown : OwnI w base v zs)
    (g : Nat) (z : Int) (hx : a.eval x = .slice (some ⟨g, 0, none⟩) 1 1) (hc : w.cell? ⟨g, 0, none⟩ = some (.int .i64 z))
    (hl : zs.length ≤ 16777216) (hbase : base ≤ w.heap.size)
    (h : ∀ v' w', OwnI w' base v' (zs ++ [z]) → w.grownBy w' v.ownBlock → wpList Try.prog ops Q rest (a.put o.dst v') w') : wpList Try.prog ops Q (o :: rest) a w := by
  obtain ⟨i0, hi, hz0, hz1, hz2⟩ := info_parts info_int
  refine wpList_append_own_at w hgd s x 35 ho base 3 i0 _ 1 8 Try.underlying35 hi hz0 hz1 hz2 rfl (by omega) v zs.length _ hs hown ⟨g, 0, none⟩ 1 1 [.int .i64 z] hx rfl ?_ ?_ (by unfold maxLen; omega) (by omega) hbase (fun v' w' q1 q2 _ _ => h v' w' ?_ q2)
  · intro j u hu
    rcases j with _ | j
    · simp at hu
      subst hu
      exact hc
    · simp at hu
  · intro u hu
    simp at hu
    subst hu
    rfl
  · unfold OwnI
    simpa using q1
end Go.Proofs.Ytapmlnpdjdneoaa

/- append(out, xs...) to rows of the call's own, in the words of the readings. -/
namespace Go.Proofs.Ytapmlnpdjdneoaa
set_option linter.unusedVariables false
set_option linter.unusedSimpArgs false
open Go.RowKit

theorem run_append_of_nil {P : Program} (w : World) (base : Nat) (t ty e : TypeId) (i : TypeInfo) (size : Nat) (ht : P.underlying t = some (.slice e)) (hi : P.info? e = some i)
    (v : Value) (n : Nat) (xs : List Value) (hown : w.ownsRow base e size v n xs) (c : Nat) : (Builtin.append_ #[t, t] ty #[v, .slice none 0 c]).run P w = .ok v w := by
  rcases hown.2 with ⟨rfl, rfl⟩ | ⟨g, cap, cur, rfl, _, _, hnc, _⟩
  · simp [Builtin.append_, run_underlying ht, sizeOf, typeInfo, hi, Builtin.lenOf, Builtin.firstCells]
  · simp [Builtin.append_, run_underlying ht, sizeOf, typeInfo, hi, Builtin.lenOf, Builtin.firstCells, hnc, storeCells]
theorem run_append_seq {P : Program} (w : World) (base : Nat) (t ty e : TypeId) (i : TypeInfo) (z : Value) (size bytes : Nat) (ht : P.underlying t = some (.slice e)) (hi : P.info? e = some i) (hz : i.zero = some z)
    (hsize : i.size = size) (hby : i.bytes = bytes) (hzs : z.cells.size = size) (hsz : 0 < size)
    (v : Value) (n : Nat) (xs : List Value) (hown : w.ownsRow base e size v n xs)
    (u : Value) (m : Nat) (news : List Value) (hr : Seq w u m news) (hl : news.length = m * size) (h1 : ∀ y ∈ news, y.oneCell' = true)
    (h63 : n + m ≤ maxLen) (hbytes : (n + m) * bytes ≤ 140737488355328) (hbase : base ≤ w.heap.size) :
    ∃ v' w', (Builtin.append_ #[t, t] ty #[v, u]).run P w = .ok v' w' ∧ w'.ownsRow base e size v' (n + m) (xs ++ news) ∧ w.grownBy w' v.ownBlock := by
  obtain ⟨A, c, rfl, hnc, hcm, hA, hc⟩ := hr
  rcases A with _ | ad
  · obtain rfl := hA rfl
    obtain rfl : m = 0 := by omega
    obtain rfl : news = [] := List.eq_nil_of_length_eq_zero (by simpa using hl)
    exact ⟨v, w, run_append_of_nil w base t ty e i size ht hi v n xs hown 0, by simpa using hown, World.grownBy.refl w _⟩
  · have hcells : ∀ j y, news[j]? = some y → w.cell? (ad.add j) = some y := by
      intro j y hy
      have hm : 0 < m := by
        rcases Nat.eq_zero_or_pos m with h0 | h0
        · subst h0
          have : news = [] := List.eq_nil_of_length_eq_zero (by simpa using hl)
          subst this
          simp at hy
        · exact h0
      obtain ⟨b, o', e1, hb, hcell⟩ := hc hm
      injection e1 with e1
      subst e1
      have := hcell j y hy
      rwa [show (⟨b, o', none⟩ : Addr).add j = ⟨b, o' + j, none⟩ from by unfold Addr.add; split <;> simp_all]
    obtain ⟨v', w', hrun, h2, h3, _, _⟩ := run_append_own_at (P := P) w base t ty e i z size bytes ht hi hz hsize hby hzs hsz v n xs hown ad m c news hl hcells h1 h63 hbytes hbase
    exact ⟨v', w', hrun, h2, h3⟩
theorem wp_append_seq {P : Program} (w : World) {o : Oper} {a : Act} {K : Act → World → Prop} {Q : Exit → Act → World → Prop} (s x : Operand) (t : TypeId)
    (ho : o.op = .call { callee := .builtin .append, args := #[s, x], argTypes := #[t, t] })
    (base : Nat) (e : TypeId) (i : TypeInfo) (z : Value) (size bytes : Nat) (ht : P.underlying t = some (.slice e)) (hi : P.info? e = some i) (hz : i.zero = some z)
    (hsize : i.size = size) (hby : i.bytes = bytes) (hzs : z.cells.size = size) (hsz : 0 < size)
    (v : Value) (n : Nat) (xs : List Value) (hs : a.eval s = v) (hown : w.ownsRow base e size v n xs)
    (u : Value) (m : Nat) (news : List Value) (hx : a.eval x = u) (hr : Seq w u m news) (hl : news.length = m * size) (h1 : ∀ y ∈ news, y.oneCell' = true)
    (h63 : n + m ≤ maxLen) (hbytes : (n + m) * bytes ≤ 140737488355328) (hbase : base ≤ w.heap.size)
    (h : ∀ v' w', w'.ownsRow base e size v' (n + m) (xs ++ news) → w.grownBy w' v.ownBlock → K (a.put o.dst v') w') : o.wp P a w K Q := by
  obtain ⟨v', w', hrun, h2, h3⟩ := run_append_seq (P := P) w base t o.type e i z size bytes ht hi hz hsize hby hzs hsz v n xs hown u m news hr hl h1 h63 hbytes hbase
  unfold Oper.wp execOp
  simp only [ho, resolve, invoke, builtin, Sem.run_bind, Sem.run_pure, Result.andThen_ok, List.map_toArray, List.map_cons, List.map_nil, hs, hx, hrun]
  exact h v' w' h2 h3

theorem wp_append_I (w : World) {o : Oper} {a : Act} {K : Act → World → Prop} {Q : Exit → Act → World → Prop} (s x : Operand)
    (ho : o.op = .call { callee := .builtin .append, args := #[s, x], argTypes := #[35, 35] })
    (base : Nat) (v : Value) (zs : List Int) (hs : a.eval s = v) (hown : OwnI w base v zs) (u : Value) (ys : List Int) (hx : a.eval x = u) (hr : Ints w u ys)
    (hl : zs.length + ys.length ≤ 16777216) (hbase : base ≤ w.heap.size)
    (h : ∀ v' w', OwnI w' base v' (zs ++ ys) → w.grownBy w' v.ownBlock → K (a.put o.dst v') w') : o.wp Try.prog a w K Q := by
  obtain ⟨i0, hi, hz0, hz1, hz2⟩ := info_parts info_int
  refine wp_append_seq w s x 35 ho base 3 i0 _ 1 8 Try.underlying35 hi hz0 hz1 hz2 rfl (by omega) v zs.length _ hs hown u ys.length _ hx hr (by simp) ?_ (by unfold maxLen; omega) (by omega) hbase (fun v' w' q1 q2 => h v' w' ?_ q2)
  · intro y hy
    obtain ⟨_, _, rfl⟩ := List.mem_map.1 hy; rfl
  · unfold OwnI; rw [List.length_append, List.map_append]; exact q1
theorem wpList_append_I (w : World) {ops : Array Oper} {rest : List Oper} {o : Oper} {a : Act} {Q : Exit → Act → World → Prop} (hgd : o.guard = none) (s x : Operand)
    (ho : o.op = .call { callee := .builtin .append, args := #[s, x], argTypes := #[35, 35] })
    (base : Nat) (v : Value) (zs : List Int) (hs : a.eval s = v) (hown : OwnI w base v zs) (u : Value) (ys : List Int) (hx : a.eval x = u) (hr : Ints w u ys)
    (hl : zs.length + ys.length ≤ 16777216) (hbase : base ≤ w.heap.size)
    (h : ∀ v' w', OwnI w' base v' (zs ++ ys) → w.grownBy w' v.ownBlock → wpList Try.prog ops Q rest (a.put o.dst v') w') : wpList Try.prog ops Q (o :: rest) a w :=
  wpList_plain hgd fun _ hK => wp_append_I w s x ho base v zs hs hown u ys hx hr hl hbase fun v' w' h2 h3 => hK _ _ (h v' w' h2 h3)
theorem step_append_I (w : World) {ops : Array Oper} {o : Oper} {a : Act} {K : Act → World → Prop} {Q : Exit → Act → World → Prop} {E : Prop} (hgd : o.guard = none) (s x : Operand)
    (ho : o.op = .call { callee := .builtin .append, args := #[s, x], argTypes := #[35, 35] })
    (base : Nat) (v : Value) (zs : List Int) (hs : a.eval s = v) (hown : OwnI w base v zs) (u : Value) (ys : List Int) (hx : a.eval x = u) (hr : Ints w u ys)
    (hl : zs.length + ys.length ≤ 16777216) (hbase : base ≤ w.heap.size)
    (h : ∀ v' w', OwnI w' base v' (zs ++ ys) → w.grownBy w' v.ownBlock → K (a.put o.dst v') w') :
    if Region.wanted o (yielded ops a.tmps) = true then Oper.wp Try.prog o a w K Q else E := by
  have hw : Region.wanted o (yielded ops a.tmps) = true := by simp [Region.wanted, hgd]
  rw [if_pos hw]
  exact wp_append_I w s x ho base v zs hs hown u ys hx hr hl hbase h
end Go.Proofs.Ytapmlnpdjdneoaa

/- Items over a code: full bases. -/
namespace Go.Proofs.Ytapmlnpdjdneoaa
set_option linter.unusedVariables false
set_option linter.unusedSimpArgs false
open Go.RowKit

theorem wsV_small {x : CodeD} {it : ItemD} (hx : codeB x = true) (hk : knI x it = true) : (wsV x it).all (inB · (-1000000) 1000000) = true := by
  rw [List.all_eq_true]
  intro z hz
  have := wsV_bd hx hk z hz
  exact inB_of (by omega) (by omega)
theorem fullV_late {x : CodeD} {it : ItemD} (h : it.late = true) : fullV x it = lateV (sumV x it) x.bonus := by unfold fullV; rw [if_pos h]
theorem fullV_early {x : CodeD} {it : ItemD} (h : it.late = false) : fullV x it = sumV x it := by unfold fullV; rw [h]; rfl
/-- the row [z] just built -/
theorem ints_new (w : World) (z : Int) : Ints (w.alloc (.cells #[.int .i64 z] 3)) (.slice (some ⟨w.heap.size, 0, none⟩) 1 1) [z] := by
  refine ⟨_, 1, rfl, Nat.le_refl _, by decide, (fun h => by cases h), fun _ => ⟨w.heap.size, 0, rfl, by simp, fun j u hu => ?_⟩⟩
  rcases j with _ | j
  · simp at hu
    subst hu
    exact (Box.new w _ _ _ rfl).cell 0
  · simp at hu
end Go.Proofs.Ytapmlnpdjdneoaa

/- Items over a code: repeats and bases. -/
namespace Go.Proofs.Ytapmlnpdjdneoaa
set_option linter.unusedVariables false
set_option linter.unusedSimpArgs false
open Go.RowKit

def hasB (x : CodeD) (its : List ItemD) (k : Int) : Bool := gdB x its && inB k 0 ((its.length : Int) - 1)
theorem hasB_true {x : CodeD} {its : List ItemD} {k : Int} (h : hasB x its k = true) : gdB x its = true ∧ 0 ≤ k ∧ k.toNat < its.length := by
  unfold hasB at h
  rw [Bool.and_eq_true] at h
  have := inB_true h.2
  exact ⟨h.1, by omega, by omega⟩
theorem hasB_comm (x : CodeD) (its : List ItemD) (k : Int) : hasB x its k = (inB k 0 ((its.length : Int) - 1) && gdB x its) := Bool.and_comm _ _
theorem repP_eq {s z : ByteArray} {it : ItemD} {m : Int} (h : it.names[0]? = some z) (hm : it.marks[0]? = some m) : repP s it = (z.toList == s.toList && m != 3) := by
  unfold repP
  rw [h, hm]
  have e1 : ((some z : Option ByteArray) == some s) = (z.toList == s.toList) := by
    change (z.data == s.data) = (z.toList == s.toList)
    by_cases hz : z.toList = s.toList
    · obtain rfl := str_ext hz
      simp
    · have : ¬ z.data = s.data := fun e => hz (by cases z; cases s; simp_all)
      rw [beq_eq_false_iff_ne.2 this, beq_eq_false_iff_ne.2 hz]
  rw [e1]
  rfl
end Go.Proofs.Ytapmlnpdjdneoaa

/- Items over a code: bases of items, laws. -/
namespace Go.Proofs.Ytapmlnpdjdneoaa
set_option linter.unusedVariables false
set_option linter.unusedSimpArgs false
open Go.RowKit

theorem ret_vb2 {v : Value} {b b' : Bool} (h : b = b') : Ending.returned (.tuple #[v, .bool b]) = .returned (.tuple #[v, .bool b']) := by rw [h]
theorem onL_len {b : Bool} {l : List Int} {n : Nat} (h : b = true → l.length ≤ n) : (onL b l).length ≤ n := by cases b with | true => exact h rfl | false => exact Nat.zero_le _
end Go.Proofs.Ytapmlnpdjdneoaa

/- Items over a code: counts of families, room. -/
namespace Go.Proofs.Ytapmlnpdjdneoaa
set_option linter.unusedVariables false
set_option linter.unusedSimpArgs false
open Go.RowKit

theorem countsV_len (x : CodeD) (its : List ItemD) : (countsV x its).length = 5 := cns_length _ _
theorem fams_len (x : CodeD) (its : List ItemD) : (fams x its).length = its.length := by simp [fams]
theorem roomV_len {x : CodeD} (its : List ItemD) (h : x.limits.length = 5) : (roomV x its).length = 5 := by
  unfold roomV
  rw [List.length_zipWith, countsV_len, h]
  rfl
theorem countsV_bd {x : CodeD} {its : List ItemD} {f : Nat} {n : Int} (h : (countsV x its)[f]? = some n) : 0 ≤ n ∧ n ≤ its.length := by
  unfold countsV cns at h
  rw [List.getElem?_map] at h
  rcases List.getElem?_eq_some_iff.1 (show ((List.range 5).map fun (d : Nat) => cn (fams x its) (d : Int))[f]? = some n by rw [List.getElem?_map]; exact h) with ⟨hf, e⟩
  simp only [List.getElem_map, List.getElem_range] at e
  have := cn_bd (fams x its) (f : Int)
  rw [fams_len] at this
  omega
theorem roomV_get {x : CodeD} {its : List ItemD} {f : Nat} {l n : Int} (h1 : x.limits[f]? = some l) (h2 : (countsV x its)[f]? = some n) : (roomV x its)[f]? = some (l - n) := by
  unfold roomV
  rw [List.getElem?_zipWith, h1, h2]
theorem codeB_limit {x : CodeD} (h : codeB x = true) {f : Nat} {l : Int} (hl : x.limits[f]? = some l) : 0 ≤ l ∧ l ≤ 9 := by
  unfold codeB headB at h
  simp only [Bool.and_eq_true] at h
  exact inB_true (List.all_eq_true.1 h.1.1.2 l (List.mem_of_getElem? hl))
theorem kwOk_true {x : CodeD} {its : List ItemD} (h : kwOk x its = true) : codeB x = true ∧ itemsB its = true := by
  unfold kwOk at h
  rwa [Bool.and_eq_true] at h
set_option maxHeartbeats 1000000 in
theorem pgAsked_any (v0 v1 : Value) (x : CodeD) (its : List ItemD) (w : World) (h0 : CodeAt w v0 x) (h1 : ItemsAt w v1 its)  :
    Calls Try.prog 62 #[v0, v1] w fun e w' => e = .returned (.bool (kwOk x its)) ∧ Kept w w' := by
  have H0 := Lib.hid h0
  obtain ⟨n0, m0, rfl, p0, q0⟩ := h0
  have HE0 := Lib.hid p0; have HI0 := Lib.hid q0
  obtain ⟨A0, c0, rfl, hnc0, hcm0, _⟩ := p0.1.out; obtain ⟨D0, d0, rfl, hnd0, hdm0, _⟩ := q0.out; clear p0 q0; unfold maxLen at hcm0 hdm0
  have H1 := Lib.hid h1
  obtain ⟨A1, c1, cs1, rfl, hnc1, hcm1, hA1⟩ := h1.out; have HA1 := Lib.hid hA1; clear hA1 h1; unfold maxLen at hcm1
  go_enter Try.func62, Try.ntmps62
  have K0 := Kept.refl w
  go_wp2_with fail
  obtain ⟨wb1, hwb1⟩ : ∃ w' : World, w' = w.alloc (.cells #[.slice A0 x.elems.length c0, .slice D0 x.limits.length d0, .int .i64 x.repeats, .int .i64 x.bonus, .int .i64 x.keeps, .int .i64 x.fall] 43) := ⟨_, rfl⟩
  rw [← hwb1]
  have KB0 : Kept w wb1 := hwb1 ▸ (Kept.refl w).alloc _
  have B0 : Box wb1 (w.heap.size) 43 #[.slice A0 x.elems.length c0, .slice D0 x.limits.length d0, .int .i64 x.repeats, .int .i64 x.bonus, .int .i64 x.keeps, .int .i64 x.fall] := hwb1 ▸ Box.new w (w.heap.size) 43 #[.slice A0 x.elems.length c0, .slice D0 x.limits.length d0, .int .i64 x.repeats, .int .i64 x.bonus, .int .i64 x.keeps, .int .i64 x.fall] rfl
  have swb1 : wb1.heap.size = w.heap.size + 1 := by rw [hwb1]; simp
  clear hwb1
  have Kwb1 := K0.trans KB0
  refine (cdGood_any _ x _ (H0.out.kept Kwb1)).mono ?_
  rintro e w1 ⟨rfl, k1⟩
  replace B0 := B0.kept k1
  have sz1 := k1.size
  have K1 := Kwb1.trans k1
  by_cases hc : codeB x = true
  case neg =>
    simp only [Bool.not_eq_true] at hc
    rw [hc]
    have HO : Hid (kwOk x its = false) := Lib.hid (by unfold kwOk; simp [hc])
    obtain ⟨x0, y0⟩ := B0.six
    go_wp2_with fail
    clear x0 y0
    go_ret
    exact ⟨by rw [HO.out]; rfl, K1⟩
  rw [hc]
  obtain ⟨x0, y0⟩ := B0.six
  go_wp2_with fail
  clear x0 y0
  refine (itList_any _ its _ (H1.out.kept K1)).mono ?_
  rintro e w2 ⟨rfl, k2⟩
  replace B0 := B0.kept k2
  have sz2 := k2.size
  have K2 := K1.trans k2
  obtain ⟨x0, y0⟩ := B0.six
  go_wp2_with fail
  clear x0 y0
  go_ret
  exact ⟨ret_bool (by unfold kwOk; rw [hc]; rfl), K2⟩
set_option maxHeartbeats 4000000 in
theorem pgCounts_any (v0 v1 : Value) (x : CodeD) (its : List ItemD) (w : World) (h0 : CodeAt w v0 x) (h1 : ItemsAt w v1 its) (hx : codeB x = true) (hb : itemsB its = true) :
    Calls Try.prog 105 #[v0, v1] w fun e w' => ∃ v', e = .returned v' ∧ OwnI w' w.heap.size v' (countsV x its) ∧ Kept w w' := by
  have H0 := Lib.hid h0
  obtain ⟨n0, m0, rfl, p0, q0⟩ := h0
  have HE0 := Lib.hid p0; have HI0 := Lib.hid q0
  obtain ⟨A0, c0, rfl, hnc0, hcm0, _⟩ := p0.1.out; obtain ⟨D0, d0, rfl, hnd0, hdm0, _⟩ := q0.out; clear p0 q0; unfold maxLen at hcm0 hdm0
  have H1 := Lib.hid h1
  obtain ⟨A1, c1, cs1, rfl, hnc1, hcm1, hA1⟩ := h1.out; have HA1 := Lib.hid hA1; clear hA1 h1; unfold maxLen at hcm1
  obtain ⟨i0, hi, hz0, hz1, hz2⟩ := info_parts info_int
  go_enter Try.func105, Try.ntmps105
  have K0 := Kept.refl w
  go_upto_region 1 with (fail)
  obtain ⟨wb1, hwb1⟩ : ∃ w' : World, w' = w.alloc (.cells #[.slice A0 x.elems.length c0, .slice D0 x.limits.length d0, .int .i64 x.repeats, .int .i64 x.bonus, .int .i64 x.keeps, .int .i64 x.fall] 43) := ⟨_, rfl⟩
  rw [← hwb1]
  have KB0 : Kept w wb1 := hwb1 ▸ (Kept.refl w).alloc _
  have B0 : Box wb1 (w.heap.size) 43 #[.slice A0 x.elems.length c0, .slice D0 x.limits.length d0, .int .i64 x.repeats, .int .i64 x.bonus, .int .i64 x.keeps, .int .i64 x.fall] := hwb1 ▸ Box.new w (w.heap.size) 43 #[.slice A0 x.elems.length c0, .slice D0 x.limits.length d0, .int .i64 x.repeats, .int .i64 x.bonus, .int .i64 x.keeps, .int .i64 x.fall] rfl
  have swb1 : wb1.heap.size = w.heap.size + 1 := by rw [hwb1]; simp
  clear hwb1
  have Kwb1 := K0.trans KB0
  obtain ⟨x0, y0⟩ := B0.six
  go_wp2_with (at_make; refine wpList_make_full _ rfl _ _ 35 rfl wb1.heap.size 3 i0 _ 1 Try.underlying35 hi hz0 hz1 _ _ _ _ 5 rfl rfl rfl rfl (by rw [hz2]; omega) (by decide) (Nat.le_refl _) ?_; intro w2 hown hgrow)
  clear x0 y0
  have k2 : Kept wb1 w2 := (Below.refl _ _).grown hgrow (Nat.le_refl _) (by intro k hk; cases hk)
  have hown0 : w2.ownsRow wb1.heap.size 3 1 (.slice (some ⟨wb1.heap.size, 0, none⟩) 5 5) 5 ((cns 5 []).map (Value.int .i64)) := by
    rw [show (cns 5 []).map (Value.int .i64) = (madeCells (Value.int .i64 0).cells (5 * 1)).toList from by rw [cns_nil5]; kernel_rfl]
    exact hown
  have HW := Lib.hid hown0
  clear hown0 hgrow hi hz0 hz1 hz2 hown
  have HB := Lib.hid hb
  have hl14 := (itemsB_true hb).1
  have B0s := B0
  have hgz : wb1.heap.size < w2.heap.size := (HW.out.lt _ rfl).2
  go_loopw [12] (fun i wr => ∃ k : Nat, k ≤ its.length ∧ i = .int .i64 k ∧ wr.ownsRow wb1.heap.size 3 1 (.slice (some ⟨wb1.heap.size, 0, none⟩) 5 5) 5 ((cns 5 ((fams x its).take k)).map (Value.int .i64)) ∧ Kept wb1 wr) (fun i _ => its.length - (intOf i).toNat)
  case atStart => exact ⟨0, Nat.zero_le _, rfl, by simpa using HW.out, k2⟩
  case round =>
    obtain ⟨k, hk, rfl, ho, hkept⟩ := hrel
    have HO := Lib.hid ho
    clear ho HW
    replace B0 := B0.kept hkept
    have szr := hkept.size
    have Kr := Kwb1.trans hkept
    by_cases hlt : k < its.length
    · obtain ⟨b, o, Aa, ca, Ab, cb, it, rfl, hbb, h2, h3, hit, q0, q1, q2⟩ := items_at (HA1.out.kept Kr) hlt
      obtain ⟨hi1, hi3, him⟩ := items_some HB.out h2
      have HIT := Lib.hid hit
      have HFS := Lib.hid (fams_snoc (x := x) h2)
      clear h2 h3 hit him
      obtain ⟨x0, y0⟩ := B0.six
      go_upto_region 5 with (fail)
      clear x0 y0
      obtain ⟨wb2, hwb2⟩ : ∃ w' : World, w' = wr.alloc (.cells #[.slice Aa it.names.length ca, .slice Ab it.marks.length cb, .bool it.late] 52) := ⟨_, rfl⟩
      rw [← hwb2]
      have KBt : Kept wr wb2 := hwb2 ▸ (Kept.refl wr).alloc _
      have Bt : Box wb2 (wr.heap.size) 52 #[.slice Aa it.names.length ca, .slice Ab it.marks.length cb, .bool it.late] := hwb2 ▸ Box.new wr (wr.heap.size) 52 #[.slice Aa it.names.length ca, .slice Ab it.marks.length cb, .bool it.late] rfl
      have swb2 : wb2.heap.size = wr.heap.size + 1 := by rw [hwb2]; simp
      clear hwb2
      replace B0 := B0.kept KBt
      have Kwb2 := Kr.trans KBt
      obtain ⟨x0, y0⟩ := B0.six
      obtain ⟨xt, yt⟩ := Bt.three
      go_wp2_with fail
      clear x0 y0 xt yt
      refine (pgFamily_any _ _ x it _ (H0.out.kept Kwb2) (HIT.out.kept KBt) hi1).mono ?_
      rintro e w1 ⟨rfl, k1⟩
      replace B0 := B0.kept k1
      replace Bt := Bt.kept k1
      have sz1 := k1.size
      have K1 := Kwb2.trans k1
      have hfb := famV_bd hx it
      obtain ⟨hf1, hf2⟩ := hfb
      have htl : ((fams x its).take k).length ≤ 14 := by rw [List.length_take, fams_len]; omega
      have ho := own_kept (own_kept HO.out KBt) k1
      generalize famV x it = fv at *
      by_cases hf : fv < 0
      · have hge : decide (fv ≥ 0) = false := by simp; omega
        have HS := Lib.hid (cns_skip 5 ((fams x its).take k) hf)
        have HOs := Lib.hid ho
        clear ho
        obtain ⟨x0, y0⟩ := B0.six
        obtain ⟨xt, yt⟩ := Bt.three
        go_wp2_with fail
        clear x0 y0 xt yt
        go_roundw
        case rel => exact ⟨k + 1, by omega, by go_num, by rw [HFS.out, HS.out]; exact HOs.out, (hkept.trans KBt).trans k1⟩
        case measure => simp [intOf]; omega
      · have h0 : 0 ≤ fv := by omega
        have HS := Lib.hid (cns_snoc (m := 5) ((fams x its).take k) h0 (by omega))
        have hcg := cns_get (m := 5) ((fams x its).take k) h0 (by omega)
        obtain ⟨cb1, cb2⟩ := cn_bd ((fams x its).take k) fv
        have hcell : w1.cell? ⟨w.heap.size + 1, fv.toNat, none⟩ = some (.int .i64 (cn ((fams x its).take k) fv)) := by
          rw [← swb1, ho.cellAt fv.toNat (by omega), List.getElem?_map, hcg]
          rfl
        have hfr : w1.frozen? ⟨w.heap.size + 1, fv.toNat, none⟩ = false := by rw [← swb1]; exact ho.frozenAt fv.toNat
        have HST : Hid ((w1.setCell ⟨w.heap.size + 1, fv.toNat, none⟩ (.int .i64 (cn ((fams x its).take k) fv + 1))).ownsRow wb1.heap.size 3 1 (.slice (some ⟨wb1.heap.size, 0, none⟩) 5 5) 5 _) := Lib.hid (by rw [← swb1]; exact (ho.stored fv.toNat (.int .i64 (cn ((fams x its).take k) fv + 1))).1)
        have h5 : fv < 5 := by omega
        clear hcg ho
        generalize hcd : cn ((fams x its).take k) fv = cd at *
        clear hcd
        obtain ⟨x0, y0⟩ := B0.six
        obtain ⟨xt, yt⟩ := Bt.three
        go_wp2_with fail
        clear x0 y0 xt yt
        go_roundw
        case rel =>
          refine ⟨k + 1, by omega, by go_num, ?_, Kept.setCell ((hkept.trans KBt).trans k1) (by dsimp only; omega) _⟩
          have := HST.out
          rw [HFS.out, HS.out, List.map_set]
          exact this
        case measure => simp [intOf]; omega
    · obtain rfl : k = its.length := by omega
      have HOE : Hid (OwnI wr wb1.heap.size (.slice (some ⟨wb1.heap.size, 0, none⟩) 5 5) (countsV x its)) := Lib.hid (by have := HO.out; rw [List.take_of_length_le (by rw [fams_len]; exact Nat.le_refl _)] at this; exact this)
      obtain ⟨x0, y0⟩ := B0.six
      go_wp2_with fail
      clear x0 y0
      go_ret
      exact ⟨_, by rw [swb1]; rfl, HOE.out.base Kwb1.size, Kr⟩
set_option maxHeartbeats 4000000 in
theorem familyCounts_any (v0 v1 : Value) (x : CodeD) (its : List ItemD) (w : World) (h0 : CodeAt w v0 x) (h1 : ItemsAt w v1 its) (hx : codeB x = true) (hb : itemsB its = true) :
    Calls Try.prog 127 #[v0, v1] w fun e w' => ∃ v', e = .returned v' ∧ OwnI w' w.heap.size v' (countsV x its) ∧ Kept w w' := by
  have H0 := Lib.hid h0
  obtain ⟨n0, m0, rfl, p0, q0⟩ := h0
  have HE0 := Lib.hid p0; have HI0 := Lib.hid q0
  obtain ⟨A0, c0, rfl, hnc0, hcm0, _⟩ := p0.1.out; obtain ⟨D0, d0, rfl, hnd0, hdm0, _⟩ := q0.out; clear p0 q0; unfold maxLen at hcm0 hdm0
  have H1 := Lib.hid h1
  obtain ⟨A1, c1, cs1, rfl, hnc1, hcm1, hA1⟩ := h1.out; have HA1 := Lib.hid hA1; clear hA1 h1; unfold maxLen at hcm1
  obtain ⟨i0, hi, hz0, hz1, hz2⟩ := info_parts info_int
  go_enter Try.func127, Try.ntmps127
  have K0 := Kept.refl w
  go_upto_region 1 with (fail)
  obtain ⟨wb1, hwb1⟩ : ∃ w' : World, w' = w.alloc (.cells #[.slice A0 x.elems.length c0, .slice D0 x.limits.length d0, .int .i64 x.repeats, .int .i64 x.bonus, .int .i64 x.keeps, .int .i64 x.fall] 43) := ⟨_, rfl⟩
  rw [← hwb1]
  have KB0 : Kept w wb1 := hwb1 ▸ (Kept.refl w).alloc _
  have B0 : Box wb1 (w.heap.size) 43 #[.slice A0 x.elems.length c0, .slice D0 x.limits.length d0, .int .i64 x.repeats, .int .i64 x.bonus, .int .i64 x.keeps, .int .i64 x.fall] := hwb1 ▸ Box.new w (w.heap.size) 43 #[.slice A0 x.elems.length c0, .slice D0 x.limits.length d0, .int .i64 x.repeats, .int .i64 x.bonus, .int .i64 x.keeps, .int .i64 x.fall] rfl
  have swb1 : wb1.heap.size = w.heap.size + 1 := by rw [hwb1]; simp
  clear hwb1
  have Kwb1 := K0.trans KB0
  obtain ⟨x0, y0⟩ := B0.six
  go_wp2_with (at_make; refine wpList_make_full _ rfl _ _ 35 rfl wb1.heap.size 3 i0 _ 1 Try.underlying35 hi hz0 hz1 _ _ _ _ 5 rfl rfl rfl rfl (by rw [hz2]; omega) (by decide) (Nat.le_refl _) ?_; intro w2 hown hgrow)
  clear x0 y0
  have k2 : Kept wb1 w2 := (Below.refl _ _).grown hgrow (Nat.le_refl _) (by intro k hk; cases hk)
  have hown0 : w2.ownsRow wb1.heap.size 3 1 (.slice (some ⟨wb1.heap.size, 0, none⟩) 5 5) 5 ((cns 5 []).map (Value.int .i64)) := by
    rw [show (cns 5 []).map (Value.int .i64) = (madeCells (Value.int .i64 0).cells (5 * 1)).toList from by rw [cns_nil5]; kernel_rfl]
    exact hown
  have HW := Lib.hid hown0
  clear hown0 hgrow hi hz0 hz1 hz2 hown
  have HB := Lib.hid hb
  have hl14 := (itemsB_true hb).1
  have B0s := B0
  have hgz : wb1.heap.size < w2.heap.size := (HW.out.lt _ rfl).2
  go_loopw [12] (fun i wr => ∃ k : Nat, k ≤ its.length ∧ i = .int .i64 k ∧ wr.ownsRow wb1.heap.size 3 1 (.slice (some ⟨wb1.heap.size, 0, none⟩) 5 5) 5 ((cns 5 ((fams x its).take k)).map (Value.int .i64)) ∧ Kept wb1 wr) (fun i _ => its.length - (intOf i).toNat)
  case atStart => exact ⟨0, Nat.zero_le _, rfl, by simpa using HW.out, k2⟩
  case round =>
    obtain ⟨k, hk, rfl, ho, hkept⟩ := hrel
    have HO := Lib.hid ho
    clear ho HW
    replace B0 := B0.kept hkept
    have szr := hkept.size
    have Kr := Kwb1.trans hkept
    by_cases hlt : k < its.length
    · obtain ⟨b, o, Aa, ca, Ab, cb, it, rfl, hbb, h2, h3, hit, q0, q1, q2⟩ := items_at (HA1.out.kept Kr) hlt
      obtain ⟨hi1, hi3, him⟩ := items_some HB.out h2
      have HIT := Lib.hid hit
      have HFS := Lib.hid (fams_snoc (x := x) h2)
      clear h2 h3 hit him
      obtain ⟨x0, y0⟩ := B0.six
      go_upto_region 5 with (fail)
      clear x0 y0
      obtain ⟨wb2, hwb2⟩ : ∃ w' : World, w' = wr.alloc (.cells #[.slice Aa it.names.length ca, .slice Ab it.marks.length cb, .bool it.late] 52) := ⟨_, rfl⟩
      rw [← hwb2]
      have KBt : Kept wr wb2 := hwb2 ▸ (Kept.refl wr).alloc _
      have Bt : Box wb2 (wr.heap.size) 52 #[.slice Aa it.names.length ca, .slice Ab it.marks.length cb, .bool it.late] := hwb2 ▸ Box.new wr (wr.heap.size) 52 #[.slice Aa it.names.length ca, .slice Ab it.marks.length cb, .bool it.late] rfl
      have swb2 : wb2.heap.size = wr.heap.size + 1 := by rw [hwb2]; simp
      clear hwb2
      replace B0 := B0.kept KBt
      have Kwb2 := Kr.trans KBt
      obtain ⟨x0, y0⟩ := B0.six
      obtain ⟨xt, yt⟩ := Bt.three
      go_wp2_with fail
      clear x0 y0 xt yt
      refine (familyOf_any _ _ x it _ (H0.out.kept Kwb2) (HIT.out.kept KBt) hi1).mono ?_
      rintro e w1 ⟨rfl, k1⟩
      replace B0 := B0.kept k1
      replace Bt := Bt.kept k1
      have sz1 := k1.size
      have K1 := Kwb2.trans k1
      have hfb := famV_bd hx it
      obtain ⟨hf1, hf2⟩ := hfb
      have htl : ((fams x its).take k).length ≤ 14 := by rw [List.length_take, fams_len]; omega
      have ho := own_kept (own_kept HO.out KBt) k1
      generalize famV x it = fv at *
      by_cases hf : fv < 0
      · have hge : decide (fv ≥ 0) = false := by simp; omega
        have HS := Lib.hid (cns_skip 5 ((fams x its).take k) hf)
        have HOs := Lib.hid ho
        clear ho
        obtain ⟨x0, y0⟩ := B0.six
        obtain ⟨xt, yt⟩ := Bt.three
        go_wp2_with fail
        clear x0 y0 xt yt
        go_roundw
        case rel => exact ⟨k + 1, by omega, by go_num, by rw [HFS.out, HS.out]; exact HOs.out, (hkept.trans KBt).trans k1⟩
        case measure => simp [intOf]; omega
      · have h0 : 0 ≤ fv := by omega
        have HS := Lib.hid (cns_snoc (m := 5) ((fams x its).take k) h0 (by omega))
        have hcg := cns_get (m := 5) ((fams x its).take k) h0 (by omega)
        obtain ⟨cb1, cb2⟩ := cn_bd ((fams x its).take k) fv
        have hcell : w1.cell? ⟨w.heap.size + 1, fv.toNat, none⟩ = some (.int .i64 (cn ((fams x its).take k) fv)) := by
          rw [← swb1, ho.cellAt fv.toNat (by omega), List.getElem?_map, hcg]
          rfl
        have hfr : w1.frozen? ⟨w.heap.size + 1, fv.toNat, none⟩ = false := by rw [← swb1]; exact ho.frozenAt fv.toNat
        have HST : Hid ((w1.setCell ⟨w.heap.size + 1, fv.toNat, none⟩ (.int .i64 (cn ((fams x its).take k) fv + 1))).ownsRow wb1.heap.size 3 1 (.slice (some ⟨wb1.heap.size, 0, none⟩) 5 5) 5 _) := Lib.hid (by rw [← swb1]; exact (ho.stored fv.toNat (.int .i64 (cn ((fams x its).take k) fv + 1))).1)
        have h5 : fv < 5 := by omega
        clear hcg ho
        generalize hcd : cn ((fams x its).take k) fv = cd at *
        clear hcd
        obtain ⟨x0, y0⟩ := B0.six
        obtain ⟨xt, yt⟩ := Bt.three
        go_wp2_with fail
        clear x0 y0 xt yt
        go_roundw
        case rel =>
          refine ⟨k + 1, by omega, by go_num, ?_, Kept.setCell ((hkept.trans KBt).trans k1) (by dsimp only; omega) _⟩
          have := HST.out
          rw [HFS.out, HS.out, List.map_set]
          exact this
        case measure => simp [intOf]; omega
    · obtain rfl : k = its.length := by omega
      have HOE : Hid (OwnI wr wb1.heap.size (.slice (some ⟨wb1.heap.size, 0, none⟩) 5 5) (countsV x its)) := Lib.hid (by have := HO.out; rw [List.take_of_length_le (by rw [fams_len]; exact Nat.le_refl _)] at this; exact this)
      obtain ⟨x0, y0⟩ := B0.six
      go_wp2_with fail
      clear x0 y0
      go_ret
      exact ⟨_, by rw [swb1]; rfl, HOE.out.base Kwb1.size, Kr⟩
end Go.Proofs.Ytapmlnpdjdneoaa
