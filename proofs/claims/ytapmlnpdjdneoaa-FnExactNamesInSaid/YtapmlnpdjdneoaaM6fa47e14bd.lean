/- Contracts of functions that the proof leans on. No condition. -/
import Derived.Test.YtapmlnpdjdneoaaMccc839d437
import Derived.ProofKit
import Derived.OpenShut
import Derived.ChangeOld
import Derived.SliceStrings
import Derived.Lib.SmallJoins
import Derived.Deep.Slices
import Derived.Deep.Fields
/- Lists of items marked, and read again. -/
namespace Go.Proofs.Ytapmlnpdjdneoaa
set_option linter.unusedVariables false
set_option linter.unusedSimpArgs false
open Go.RowKit

theorem zip_set_row {cs : List (Value × Value)} {its : List ItemD} {j : Nat} {it' : ItemD} (hl : cs.length = its.length) (hj : j < its.length) :
    ((cs.zip its).flatMap row3).set (j * 3 + 2) (.bool it'.late) = (cs.zip (its.set j it')).flatMap row3 := by
  have hz : (cs.zip its).length = its.length := by rw [List.length_zip]; omega
  have hz' : (cs.zip (its.set j it')).length = its.length := by rw [List.length_zip, List.length_set]; omega
  apply List.ext_getElem?
  intro i
  by_cases hi : i < its.length * 3
  · have e : i = i / 3 * 3 + i % 3 := by omega
    have hm : i % 3 < 3 := by omega
    have hq : i / 3 < its.length := by omega
    have f1 := flat_get row3 3 (fun _ => rfl) (cs.zip its) (i / 3) (i % 3) hm
    have f2 := flat_get row3 3 (fun _ => rfl) (cs.zip (its.set j it')) (i / 3) (i % 3) hm
    rw [← e] at f1 f2
    have g1 : (cs.zip its)[i / 3]? = some (cs[i / 3], its[i / 3]) := by
      rw [List.getElem?_zip_eq_some]
      exact ⟨List.getElem?_eq_getElem _, List.getElem?_eq_getElem _⟩
    have g2 : (cs.zip (its.set j it'))[i / 3]? = some (cs[i / 3], (its.set j it')[i / 3]'(by rw [List.length_set]; exact hq)) := by
      rw [List.getElem?_zip_eq_some]
      exact ⟨List.getElem?_eq_getElem _, List.getElem?_eq_getElem _⟩
    rw [g1] at f1
    rw [g2] at f2
    rw [f2, List.getElem?_set, f1]
    by_cases hij : i / 3 = j
    · subst hij
      have h3 : i % 3 = 0 ∨ i % 3 = 1 ∨ i % 3 = 2 := by omega
      rcases h3 with h | h | h
      · rw [if_neg (by omega), h]; rfl
      · rw [if_neg (by omega), h]; rfl
      · rw [if_pos (by omega), if_pos (by rw [flat_length row3 3 (fun _ => rfl), hz]; omega), h]
        simp [row3]
    · rw [if_neg (by omega)]
      have : (its.set j it')[i / 3]'(by rw [List.length_set]; exact hq) = its[i / 3] := by rw [List.getElem_set_ne (Ne.symm hij)]
      simp [row3, this]
  · rw [List.getElem?_eq_none (by rw [List.length_set, flat_length row3 3 (fun _ => rfl), hz]; omega), List.getElem?_eq_none (by rw [flat_length row3 3 (fun _ => rfl), hz']; omega)]
theorem OwnC.setLate {w : World} {base g cap n : Nat} {its : List ItemD} {cs : List (Value × Value)} {j : Nat} {it it' : ItemD} {nv mv : Value}
    (h : OwnC w base (.slice (some ⟨g, 0, none⟩) n cap) its cs) (hnl : n = its.length) (hi : its[j]? = some it) (hc : cs[j]? = some (nv, mv)) (hn : it'.names = it.names) (hm : it'.marks = it.marks) :
    OwnC (w.setCell ⟨g, j * 3 + 2, none⟩ (.bool it'.late)) base (.slice (some ⟨g, 0, none⟩) n cap) (its.set j it') cs := by
  subst hnl
  obtain ⟨h1, h2, h3, h4⟩ := h
  have hj : j < its.length := (List.getElem?_eq_some_iff.1 hi).1
  have hnd := List.nodup_append.1 h4
  have ho : Only [g] w (w.setCell ⟨g, j * 3 + 2, none⟩ (.bool it'.late)) := (Only.refl _ _).setCell (by simp) _
  refine ⟨by simpa using h1, ?_, ?_, h4⟩
  · have hs := (h2.stored (j * 3 + 2) (.bool it'.late)).1
    rw [zip_set_row h1 hj] at hs
    rw [List.length_set]
    exact hs
  · intro k nv' mv' x q1 q2
    have hg : ∀ b, b ∈ fp nv' ∨ b ∈ fp mv' → b ∉ [g] := fun b hb hbg => by
      rw [List.mem_singleton] at hbg
      exact hnd.2.2 g (by simp [fp_some]) b (mem_fpL q1 hb) hbg.symm
    by_cases hk : k = j
    · subst hk
      rw [List.getElem?_set_self hj] at q2
      simp at q2
      subst q2
      obtain ⟨r1, r2⟩ := h3 k nv' mv' it q1 hi
      rw [hn, hm]
      exact ⟨r1.only ho (fun b hb => hg b (.inl hb)), r2.only ho (fun b hb => hg b (.inr hb))⟩
    · rw [List.getElem?_set_ne (Ne.symm hk)] at q2
      obtain ⟨r1, r2⟩ := h3 k nv' mv' x q1 q2
      exact ⟨r1.only ho (fun b hb => hg b (.inl hb)), r2.only ho (fun b hb => hg b (.inr hb))⟩
/-- the cells of an item of a list that the call owns -/
theorem ownC_cells {w : World} {base g n cap : Nat} {its : List ItemD} {cs : List (Value × Value)} {j : Nat} {it : ItemD} {nv mv : Value} (h : OwnC w base (.slice (some ⟨g, 0, none⟩) n cap) its cs) (hi : its[j]? = some it) (hc : cs[j]? = some (nv, mv)) :
    (w.cell? ⟨g, j * 3, none⟩ = some nv ∧ w.cell? ⟨g, j * 3 + 1, none⟩ = some mv ∧ w.cell? ⟨g, j * 3 + 2, none⟩ = some (.bool it.late)) ∧
      (w.frozen? ⟨g, j * 3, none⟩ = false ∧ w.frozen? ⟨g, j * 3 + 1, none⟩ = false ∧ w.frozen? ⟨g, j * 3 + 2, none⟩ = false) := by
  obtain ⟨h1, h2, h3, h4⟩ := h
  obtain ⟨A', c', e, _, _, hA⟩ := own_form h2
  simp only [Value.slice.injEq] at e
  obtain ⟨_, hn, rfl⟩ := e
  subst hn
  have hj : j < its.length := (List.getElem?_eq_some_iff.1 hi).1
  have hz : (cs.zip its)[j]? = some ((nv, mv), it) := by rw [List.getElem?_zip_eq_some]; exact ⟨hc, hi⟩
  have hf := flat_get row3 3 (fun _ => rfl) (cs.zip its) j
  have hcell : ∀ i, i < 3 → w.cell? ⟨g, j * 3 + i, none⟩ = (row3 ((nv, mv), it))[i]? := fun i hi3 => by
    rw [h2.cellAt (j * 3 + i) (by omega), hf i hi3, hz]
    rfl
  exact ⟨⟨hcell 0 (by omega), hcell 1 (by omega), hcell 2 (by omega)⟩, h2.frozenAt _, h2.frozenAt _, h2.frozenAt _⟩
theorem ownC_at {w : World} {base : Nat} {A : Option Addr} {n c : Nat} {its : List ItemD} {cs : List (Value × Value)} (h : OwnC w base (.slice A n c) its cs) (hnl : n = its.length) {j : Nat} (hj : j < n) :
    ∃ g A1 c1 A2 c2 it, A = some ⟨g, 0, none⟩ ∧ its[j]? = some it ∧ cs[j]? = some (.slice A1 it.names.length c1, .slice A2 it.marks.length c2) ∧
      OwnS w base (.slice A1 it.names.length c1) it.names ∧ OwnI w base (.slice A2 it.marks.length c2) it.marks := by
  subst hnl
  obtain ⟨h1, h2, h3, h4⟩ := h
  obtain ⟨A', c', e, _, _, hA⟩ := own_form h2
  simp only [Value.slice.injEq] at e
  obtain ⟨rfl, _, rfl⟩ := e
  obtain ⟨g, rfl⟩ := hA (by omega)
  have q1 : its[j]? = some its[j] := List.getElem?_eq_getElem hj
  obtain ⟨nv, mv, q2⟩ : ∃ nv mv, cs[j]? = some (nv, mv) := ⟨_, _, List.getElem?_eq_getElem (by omega)⟩
  obtain ⟨r1, r2⟩ := h3 j nv mv its[j] q2 q1
  obtain ⟨A1, c1, rfl, _⟩ := own_form r1.1
  obtain ⟨A2, c2, rfl, _⟩ := own_form r2
  exact ⟨g, A1, c1, A2, c2, its[j], rfl, q1, q2, r1, r2⟩
theorem OwnC.items {w : World} {base : Nat} {v : Value} {its : List ItemD} {cs : List (Value × Value)} (h : OwnC w base v its cs) : ItemsAt w v its := by
  obtain ⟨h1, h2, h3, _⟩ := h
  exact ⟨cs, h1, Seq.of_own h2, fun k nv mv it q1 q2 => ⟨(h3 k nv mv it q1 q2).1.strs, (h3 k nv mv it q1 q2).2.ints⟩⟩
theorem OwnC.only {w w' : World} {base : Nat} {v : Value} {its : List ItemD} {cs : List (Value × Value)} {T : List Nat} (h : OwnC w base v its cs) (ho : Only T w w') (hd : ∀ b ∈ fp v ++ fpL cs, b ∉ T) : OwnC w' base v its cs := by
  obtain ⟨h1, h2, h3, h4⟩ := h
  exact ⟨h1, own_only h2 ho (fun b hb => hd b (List.mem_append_left _ hb)), fun k nv mv it q1 q2 => ⟨(h3 k nv mv it q1 q2).1.only ho (fun b hb => hd b (List.mem_append_right _ (mem_fpL q1 (.inl hb)))), (h3 k nv mv it q1 q2).2.only ho (fun b hb => hd b (List.mem_append_right _ (mem_fpL q1 (.inr hb))))⟩, h4⟩
theorem OwnC.kept {w w' : World} {base : Nat} {v : Value} {its : List ItemD} {cs : List (Value × Value)} (h : OwnC w base v its cs) (hk : Kept w w') : OwnC w' base v its cs := h.only (hk.only []) (fun _ _ => List.not_mem_nil)
theorem OwnL.toC {w : World} {base : Nat} {v : Value} {its : List ItemD} {S : List Nat} (h : OwnL w base v its S) : ∃ cs, OwnC w base v its cs ∧ S = fp v ++ fpL cs ∧ ∀ b ∈ S, base ≤ b ∧ b < w.heap.size := by
  obtain ⟨cs, h1, h2, h3, h4, h5, h6⟩ := h
  exact ⟨cs, ⟨h1, h2, h3, h4 ▸ h5⟩, h4, h6⟩
theorem set_mid {α : Type} (A B : List α) (x y : α) (j : Nat) (hj : j = A.length) : (A ++ x :: B).set j y = A ++ y :: B := by
  subst hj
  rw [List.set_append_right _ _ (Nat.le_refl _)]
  simp
theorem ml_step (k : Int) (its : List ItemD) (j : Nat) (it : ItemD) (h : its[j]? = some it) :
    (ml k (its.take j) ++ its.drop j).set j (markIt (nk k (its.take j)) it) = ml k (its.take (j + 1)) ++ its.drop (j + 1) := by
  obtain ⟨hj, rfl⟩ := List.getElem?_eq_some_iff.1 h
  rw [List.drop_eq_getElem_cons hj, set_mid _ _ _ _ _ (by rw [ml_length, List.length_take]; omega), take_snoc h, ml_snoc, List.append_assoc]
  rfl
theorem ml_at (k : Int) (its : List ItemD) (j : Nat) (hj : j < its.length) : (ml k (its.take j) ++ its.drop j)[j]? = its[j]? := by
  have hl : (ml k (its.take j)).length = j := by rw [ml_length, List.length_take]; omega
  rw [List.getElem?_append_right (by omega), hl, Nat.sub_self, List.getElem?_drop, Nat.add_zero]
theorem ml_len (k : Int) (its : List ItemD) (j : Nat) (hj : j ≤ its.length) : (ml k (its.take j) ++ its.drop j).length = its.length := by
  rw [List.length_append, ml_length, List.length_take, List.length_drop]
  omega
set_option maxHeartbeats 2000000 in
theorem markItemS_any (v : Value) (its : List ItemD) (cs : List (Value × Value)) (k : Int) (w : World) (base : Nat) (h : OwnC w base v its cs) (hk : 1 ≤ k) (hk2 : k ≤ 274877906944) (hn : itemsSize its ≤ 1048576) :
    Calls Try.prog 13 #[v, .int .i64 k] w fun e w' => e = .returned (.int .i64 (nk k its)) ∧ OwnC w' base v (ml k its) cs ∧ Only (fp v ++ fpL cs) w w' := by
  obtain ⟨A, c, rfl, hnc, hcm, -⟩ := own_form h.2.1
  unfold maxLen at hcm
  have HI := Lib.hid h
  have hlen : its.length ≤ 1048576 := by unfold itemsSize at hn; omega
  clear h
  go_enter Try.func13, Try.ntmps13
  go_wp2_with fail
  go_loopw [1, 5] (fun q i wr => ∃ j : Nat, j ≤ its.length ∧ i = .int .i64 j ∧ q = .int .i64 (nk k (its.take j)) ∧ OwnC wr base (.slice A its.length c) (ml k (its.take j) ++ its.drop j) cs ∧ Only (fp (.slice A its.length c) ++ fpL cs) w wr) (fun _ i _ => its.length - (intOf i).toNat)
  case atStart => exact ⟨0, Nat.zero_le _, rfl, rfl, by simpa [ml] using HI.out, Only.refl _ _⟩
  case round =>
    obtain ⟨j, hj, rfl, rfl, ho, hon⟩ := hrel
    by_cases hlt : j < its.length
    · obtain ⟨kb1, kb2⟩ := nk_bd k (its.take j)
      have kb3 := itemsSize_take its j
      obtain ⟨g, A1, c1, A2, c2, it, rfl, h2, h3, o1, o2⟩ := ownC_at ho (ml_len k its j hj).symm hlt
      have HA := Lib.hid h2
      rw [ml_at k its j hlt] at h2
      have hsz := item_size_le h2
      have hpt := item_parts it
      have HLT : Hid (j < (ml k (its.take j) ++ its.drop j).length) := Lib.hid (by rw [ml_len k its j hj]; exact hlt)
      have HL := Lib.hid (ml_len k its j hj)
      have H3 := Lib.hid h3
      have O1 := Lib.hid o1
      have O2 := Lib.hid o2
      have HO := Lib.hid ho
      have HN := Lib.hid hon
      have HK : Hid (nk k (its.take (j + 1)) = nextK (nk k (its.take j)) it) := Lib.hid (by rw [take_snoc h2, nk_snoc])
      have HM := Lib.hid (ml_step k its j it h2)
      have ND := Lib.hid (List.nodup_append.1 (fpL_inner (List.nodup_append.1 ho.2.2.2).2.1 h3)).2.2
      have M1 : Hid (∀ b, b ∈ fp (.slice A1 it.names.length c1) ∨ b ∈ fp (.slice A2 it.marks.length c2) → b ∈ fp (.slice (some ⟨g, 0, none⟩) its.length c) ++ fpL cs) := Lib.hid (fun b hb => List.mem_append_right _ (mem_fpL h3 hb))
      obtain ⟨⟨q0, q1, q2⟩, f0, f1, f2⟩ := ownC_cells ho HA.out h3
      clear h2 h3 o1 o2 ho hon
      generalize nk k (its.take j) = kj at *
      generalize hcur : ml k (its.take j) ++ its.drop j = cur at *
      clear hcur
      go_wp2_with fail
      clear q0 q1 q2 f0 f1 f2
      refine (markStringS_any _ _ _ _ base O1.out (by omega) (by omega) (by omega)).mono ?_
      rintro e w1 ⟨rfl, o1', on1⟩
      have C1 := HO.out.setItem (it' := { it with names := marksS kj it.names.length }) HA.out H3.out on1 (fun b hb => List.mem_append_left _ hb) rfl o1' (O2.out.only on1 (fun b hb hb' => ND.out b hb' b hb rfl))
      have O2' := Lib.hid (O2.out.only on1 (fun b hb hb' => ND.out b hb' b hb rfl))
      have O1' := Lib.hid o1'
      have ON1 := Lib.hid on1
      have I1 : Hid ((cur.set j { it with names := marksS kj it.names.length })[j]? = some { it with names := marksS kj it.names.length }) := Lib.hid (List.getElem?_set_self HLT.out)
      obtain ⟨⟨q0, q1, q2⟩, f0, f1, f2⟩ := ownC_cells C1 I1.out H3.out
      have C1' := Lib.hid C1
      clear o1' on1 C1
      go_wp2_with fail
      clear q0 q1 q2 f0 f1 f2
      refine (markIntS_any _ _ _ _ base O2'.out (by omega) (by omega) (by omega)).mono ?_
      rintro e w2 ⟨rfl, o2', on2⟩
      have C2 := C1'.out.setItem (it' := { it with names := marksS kj it.names.length, marks := marksI (kj + it.names.length) it.marks.length }) I1.out H3.out on2 (fun b hb => List.mem_append_right _ hb) rfl (O1'.out.only on2 (fun b hb hb' => ND.out b hb b hb' rfl)) o2'
      rw [List.set_set] at C2
      have ON2 := Lib.hid on2
      have I2 : Hid ((cur.set j { it with names := marksS kj it.names.length, marks := marksI (kj + it.names.length) it.marks.length })[j]? = some { it with names := marksS kj it.names.length, marks := marksI (kj + it.names.length) it.marks.length }) := Lib.hid (List.getElem?_set_self HLT.out)
      obtain ⟨⟨q0, q1, q2⟩, f0, f1, f2⟩ := ownC_cells C2 I2.out H3.out
      have C3 := C2.setLate (it' := markIt kj it) (by rw [List.length_set]; exact HL.out.symm) I2.out H3.out rfl rfl
      rw [List.set_set, HM.out] at C3
      have C3' := Lib.hid C3
      clear o2' on2 C2 C3
      go_wp2_with fail
      go_roundw
      case rel =>
        refine ⟨j + 1, by omega, by go_num, by rw [HK.out]; unfold nextK; go_num, C3'.out, ?_⟩
        refine Only.setCell ?_ (by simp [fp_some]) _
        exact (HN.out.trans (ON1.out.mono (fun b hb => M1.out b (.inl hb)))).trans (ON2.out.mono (fun b hb => M1.out b (.inr hb)))
      case measure => simp [intOf]; omega
    · obtain rfl : j = its.length := by omega
      have HO := Lib.hid ho
      clear ho
      go_wp2_with fail
      go_ret
      refine ⟨?_, ?_, hon⟩
      · rw [List.take_length]; rfl
      · have := HO.out
        rw [List.take_length, List.drop_length, List.append_nil] at this
        exact this
theorem ml_get (k : Int) (its : List ItemD) (j : Nat) (it : ItemD) (h : its[j]? = some it) : (ml k its)[j]? = some (markIt (nk k (its.take j)) it) := by
  induction its generalizing k j with
  | nil => simp at h
  | cons x l ih =>
    cases j with
    | zero => simp at h; subst h; simp [ml, nk]
    | succ j => simp at h; simp [ml, nk, ih _ _ h]
set_option maxHeartbeats 2000000 in
theorem heldItemS_any (v : Value) (its : List ItemD) (k : Int) (w : World) (h : ItemsAt w v (ml k its)) (hk : 1 ≤ k) (hk2 : k ≤ 274877906944) (hn : itemsSize its ≤ 1048576) :
    Calls Try.prog 22 #[v, .int .i64 k] w fun e w' => e = .returned (.int .i64 (nk k its)) ∧ Kept w w' := by
  obtain ⟨A, c, cs, rfl, hnc, hcm, hA⟩ := h.out
  have HML := Lib.hid (ml_length k its)
  rw [HML.out] at hnc
  unfold maxLen at hcm
  have HA := Lib.hid hA
  have hlen : its.length ≤ 1048576 := by unfold itemsSize at hn; omega
  clear hA h
  rw [HML.out]
  go_enter Try.func22, Try.ntmps22
  go_wp2_with fail
  go_loopw [1, 5] (fun q i wr => ∃ j : Nat, j ≤ its.length ∧ i = .int .i64 j ∧ q = .int .i64 (nk k (its.take j)) ∧ Kept w wr) (fun _ i _ => its.length - (intOf i).toNat)
  case atStart => exact ⟨0, Nat.zero_le _, rfl, rfl, Kept.refl _⟩
  case round =>
    obtain ⟨j, hj, rfl, rfl, hkept⟩ := hrel
    by_cases hlt : j < its.length
    · obtain ⟨kb1, kb2⟩ := nk_bd k (its.take j)
      have kb3 := itemsSize_take its j
      have h2 : its[j]? = some its[j] := List.getElem?_eq_getElem hlt
      have hsz := item_size_le h2
      have hpt := item_parts its[j]
      obtain ⟨b, o, A1, c1, A2, c2, it', rfl, hb, h2', h3, hit, q0, q1, q2⟩ := items_at (HA.out.kept hkept) (k := j) (by rw [HML.out]; exact hlt)
      rw [ml_get k its j _ h2] at h2'
      injection h2' with h2'
      subst h2'
      have HK : Hid (nk k (its.take (j + 1)) = nextK (nk k (its.take j)) its[j]) := Lib.hid (by rw [take_snoc h2, nk_snoc])
      generalize its[j] = it at *
      generalize nk k (its.take j) = kj at *
      have e1 : (markIt kj it).names.length = it.names.length := marksS_length _ _
      have e2 : (markIt kj it).marks.length = it.marks.length := marksI_length _ _
      rw [e1, e2] at hit
      rw [e1] at q0
      rw [e2] at q1
      obtain ⟨nv, mv, ee, r1, r2⟩ := hit
      simp only [Value.agg.injEq] at ee
      simp at ee
      obtain ⟨rfl, rfl⟩ := ee
      have S1 : Hid (Strs wr (.slice A1 it.names.length c1) (marksS kj it.names.length)) := Lib.hid r1
      have S2 : Hid (Ints wr (.slice A2 it.marks.length c2) (marksI (kj + it.names.length) it.marks.length)) := Lib.hid r2
      have q2' : wr.cell? ⟨b, o + j * 3 + 2, none⟩ = some (.bool ((kj + it.names.length + it.marks.length) % 3 == 0)) := q2
      clear r1 r2 q2 e1 e2 h2 h3
      have hlt' : (j : Int) < (its.length : Int) := by omega
      have HQ := Lib.hid (And.intro q0 (And.intro q1 q2'))
      go_wp2_with fail
      clear q0 q1 q2'
      refine (heldStringS_any _ _ _ _ S1.out (by omega) (by omega) (by omega)).mono ?_
      rintro e w1 ⟨rfl, k1⟩
      have p1 := (k1.cell (p := ⟨b, o + j * 3 + 1, none⟩) hb).trans HQ.out.2.1
      have p2 := (k1.cell (p := ⟨b, o + j * 3 + 2, none⟩) hb).trans HQ.out.2.2
      go_wp2_with fail
      refine (heldIntS_any _ _ _ _ (S2.out.kept k1) (by omega) (by omega) (by omega)).mono ?_
      rintro e w2 ⟨rfl, rfl⟩
      go_wp2_with fail
      go_roundw
      case rel => exact ⟨j + 1, by omega, by go_num, by rw [HK.out]; unfold nextK; go_num, hkept.trans k1⟩
      case measure => simp [intOf]; omega
    · obtain rfl : j = its.length := by omega
      go_wp2_with fail
      go_ret
      refine ⟨?_, hkept⟩
      rw [List.take_length]; rfl
end Go.Proofs.Ytapmlnpdjdneoaa

/- Items: NamesIn, the law. -/
namespace Go.Proofs.Ytapmlnpdjdneoaa
set_option linter.unusedVariables false
set_option linter.unusedSimpArgs false
open Go.RowKit Go.Lib

theorem namesD_len (zs : List ByteArray) : (namesD zs).length ≤ zs.length := by
  unfold namesD
  rw [List.length_map]
  refine Nat.le_trans names_len ?_
  unfold sortL
  rw [List.length_mergeSort, List.length_map]
  exact Nat.le_refl _
theorem niV_len (its : List ItemD) : (niV its).length ≤ 42 := by
  by_cases h : itemsB its = true
  · rw [niV_yes h]
    have h1 := namesD_len (allN its)
    have h2 := allN_len (itemsB_true h).2
    have h3 := (itemsB_true h).1
    omega
  · simp only [Bool.not_eq_true] at h
    rw [niV_no h]
    simp
set_option maxHeartbeats 4000000 in
theorem lawNamesIn_any {w : World} {v0 : Value} (z0 : List ItemD) (h0 : ItemsAt w v0 z0) :
    Calls Try.prog 3 #[v0] w fun e w' => e = .returned (.bool true) ∧ Kept w w' := by
  have H0 := Lib.hid h0
  clear h0
  go_enter Try.func3, Try.ntmps3
  have K0 := Kept.refl w
  go_wp2_with fail
  refine (szItemS_any _ z0 _ _ (H0.out.kept K0) (by omega) (by omega)).mono ?_
  rintro e w1 ⟨rfl, k1⟩
  have sz1 := k1.size
  have K1 := K0.trans k1
  by_cases hbig0 : ((itemsSize z0 : Nat) : Int) ≤ 1048576
  case neg =>
    have e1 : lessOr 1048576 (itemsSize z0) = -1 := by unfold lessOr; exact if_neg (by omega)
    rw [e1]
    go_wp2_with fail
    go_ret
    exact ⟨rfl, K1⟩
  have e1 : lessOr 1048576 (itemsSize z0) = 1048576 - (itemsSize z0 : Int) := by unfold lessOr; exact if_pos (by omega)
  rw [e1]
  clear e1
  have hX := niV_len z0
  go_wp2_with fail
  refine (toItemS_any _ z0 _ (H0.out.kept K1) (by omega)).mono ?_
  rintro e w2 ⟨u2, S2, rfl, o2, k2⟩
  have sz2 := k2.size
  have K2 := K1.trans k2
  have R2 := Lib.hid o2.items
  clear o2
  go_wp2_with fail
  refine (specNamesIn_any _ z0 _ R2.out).mono ?_
  rintro e w3 ⟨u3, rfl, o3, k3⟩
  replace R2 := Lib.hid (R2.out.kept k3)
  have sz3 := k3.size
  have K3 := K2.trans k3
  clear R2
  have RS := Lib.hid o3.strs
  clear o3
  have KS := Kept.refl w3
  go_wp2_with fail
  refine (toItemS_any _ z0 _ (H0.out.kept K3) (by omega)).mono ?_
  rintro e w4 ⟨u4, S4, rfl, o4, k4⟩
  replace KS := KS.trans k4
  have sz4 := k4.size
  have K4 := K3.trans k4
  obtain ⟨cs4, oc4, rfl, hF4⟩ := o4.toC
  have O4 := Lib.hid oc4
  have F4 := Lib.hid hF4
  clear o4 oc4 hF4
  go_wp2_with fail
  refine (implNamesIn_any _ z0 _ O4.out.items).mono ?_
  rintro e w5 ⟨u5, rfl, o5, k5⟩
  replace O4 := Lib.hid (O4.out.kept k5)
  replace KS := KS.trans k5
  have sz5 := k5.size
  have K5 := K4.trans k5
  have F5 := Lib.hid (own_fp o5.1)
  have O5 := Lib.hid o5
  clear o5
  go_wp2_with fail
  refine (eqStringS_any _ _ (niV z0) (niV z0) _ O5.out.strs (RS.out.kept KS)).mono ?_
  rintro e w6 ⟨rfl, k6⟩
  replace O4 := Lib.hid (O4.out.kept k6)
  replace O5 := Lib.hid (O5.out.kept k6)
  replace KS := KS.trans k6
  have sz6 := k6.size
  have K6 := K5.trans k6
  rw [show decide (niV z0 = niV z0) = true from by simp]
  go_wp2_with fail
  refine (toItemS_any _ z0 _ (H0.out.kept K6) (by omega)).mono ?_
  rintro e w7 ⟨u7, S7, rfl, o7, k7⟩
  replace O4 := Lib.hid (O4.out.kept k7)
  replace O5 := Lib.hid (O5.out.kept k7)
  replace KS := KS.trans k7
  have sz7 := k7.size
  have K7 := K6.trans k7
  have R7 := Lib.hid o7.items
  clear o7
  go_wp2_with fail
  refine (eqItemS_any _ _ (z0) _ O4.out.items R7.out).mono ?_
  rintro e w8 ⟨rfl, k8⟩
  replace R7 := Lib.hid (R7.out.kept k8)
  replace O4 := Lib.hid (O4.out.kept k8)
  replace O5 := Lib.hid (O5.out.kept k8)
  replace KS := KS.trans k8
  have sz8 := k8.size
  have K8 := K7.trans k8
  clear R7
  have nb4 := nk_bd (1) z0
  go_wp2_with fail
  refine (markItemS_any _ z0 cs4 _ _ _ O4.out (by omega) (by omega) (by omega)).mono ?_
  rintro e w9 ⟨rfl, o9, on9⟩
  have sz9 := on9.size
  replace O5 := Lib.hid (O5.out.only on9 (fun b hb hb' => by have := F5.out b hb; have := F4.out b hb'; omega))
  replace KS := on9.above KS (fun b hb => by have := F4.out b hb; omega)
  have K9 := on9.above K8 (fun b hb => by have := F4.out b hb; omega)
  replace O4 := Lib.hid o9
  clear o9 on9
  go_wp2_with fail
  refine (eqStringS_any _ _ (niV z0) (niV z0) _ O5.out.strs (RS.out.kept KS)).mono ?_
  rintro e w10 ⟨rfl, k10⟩
  replace O4 := Lib.hid (O4.out.kept k10)
  replace O5 := Lib.hid (O5.out.kept k10)
  replace KS := KS.trans k10
  have sz10 := k10.size
  have K10 := K9.trans k10
  rw [show decide (niV z0 = niV z0) = true from by simp]
  go_wp2_with fail
  refine (markStringS_any _ (niV z0) _ _ _ O5.out (by omega) (by omega) (by omega)).mono ?_
  rintro e w11 ⟨rfl, o11, on11⟩
  have sz11 := on11.size
  replace O4 := Lib.hid (O4.out.only on11 (fun b hb hb' => by have := F4.out b hb; have := F5.out b hb'; omega))
  replace KS := on11.above KS (fun b hb => by have := F5.out b hb; omega)
  have K11 := on11.above K10 (fun b hb => by have := F5.out b hb; omega)
  replace O5 := Lib.hid o11
  clear o11 on11
  go_wp2_with fail
  refine (heldStringS_any _ _ ((niV z0)).length _ O5.out.strs (by omega) (by omega) (by omega)).mono ?_
  rintro e w12 ⟨rfl, k12⟩
  replace O4 := Lib.hid (O4.out.kept k12)
  replace O5 := Lib.hid (O5.out.kept k12)
  replace KS := KS.trans k12
  have sz12 := k12.size
  have K12 := K11.trans k12
  go_wp2_with fail
  refine (toItemS_any _ z0 _ (H0.out.kept K12) (by omega)).mono ?_
  rintro e w13 ⟨u13, S13, rfl, o13, k13⟩
  replace O4 := Lib.hid (O4.out.kept k13)
  replace O5 := Lib.hid (O5.out.kept k13)
  replace KS := KS.trans k13
  have sz13 := k13.size
  have K13 := K12.trans k13
  have R13 := Lib.hid o13.items
  clear o13
  go_wp2_with fail
  refine (implNamesIn_any _ z0 _ R13.out).mono ?_
  rintro e w14 ⟨u14, rfl, o14, k14⟩
  replace R13 := Lib.hid (R13.out.kept k14)
  replace O4 := Lib.hid (O4.out.kept k14)
  replace O5 := Lib.hid (O5.out.kept k14)
  replace KS := KS.trans k14
  have sz14 := k14.size
  have K14 := K13.trans k14
  clear R13
  have RH := Lib.hid o14.strs
  clear o14
  go_wp2_with fail
  refine (eqStringS_any _ _ (niV z0) (niV z0) _ RH.out (RS.out.kept KS)).mono ?_
  rintro e w15 ⟨rfl, k15⟩
  replace RH := Lib.hid (RH.out.kept k15)
  replace O4 := Lib.hid (O4.out.kept k15)
  replace O5 := Lib.hid (O5.out.kept k15)
  replace KS := KS.trans k15
  have sz15 := k15.size
  have K15 := K14.trans k15
  rw [show decide (niV z0 = niV z0) = true from by simp]
  go_wp2_with fail
  refine (heldStringS_any _ _ ((niV z0)).length _ O5.out.strs (by omega) (by omega) (by omega)).mono ?_
  rintro e w16 ⟨rfl, k16⟩
  replace RH := Lib.hid (RH.out.kept k16)
  replace O4 := Lib.hid (O4.out.kept k16)
  replace O5 := Lib.hid (O5.out.kept k16)
  replace KS := KS.trans k16
  have sz16 := k16.size
  have K16 := K15.trans k16
  go_wp2_with fail
  go_ret
  exact ⟨rfl, K16⟩
end Go.Proofs.Ytapmlnpdjdneoaa

/- Arguments opened: a slice of integers. -/
namespace Go.Proofs.Ytapmlnpdjdneoaa
set_option linter.unusedVariables false
set_option linter.unusedSimpArgs false
set_option maxRecDepth 100000
open Go.ChangeShapes Go.WideShapes Go.ChangeAt Go.RowKit

theorem block_lt {w : World} {a : Addr} {v : Value} (h : w.cell? a = some v) : a.block < w.heap.size := by
  rcases Nat.lt_or_ge a.block w.heap.size with hlt | hge
  · exact hlt
  · unfold World.cell? at h
    rw [Array.getElem?_eq_none hge] at h
    cases h
theorem add_at {b o : Nat} (i : Nat) : (⟨b, o, none⟩ : Addr).add i = ⟨b, o + i, none⟩ := by
  unfold Addr.add
  split <;> simp_all
theorem spot_of {w : World} {x : Addr} {u : Value} (h : w.cell? (x.add 0) = some u) : ∃ b o, x = ⟨b, o, none⟩ := by
  obtain ⟨b, o, s⟩ := x
  have hs : s = none := by simpa [Addr.add] using World.cell?_spot h
  exact ⟨b, o, by rw [hs]⟩
theorem seq_of_cells {w : World} {x : Addr} {len cap size : Nat} {xs : List Value} (hl : len ≤ cap) (hm : cap ≤ maxLen) (hlen : xs.length = len * size) (hsz : 0 < size) (h : ∀ j u, xs[j]? = some u → w.cell? (x.add j) = some u) : Seq w (.slice (some x) len cap) len xs := by
  refine ⟨_, cap, rfl, hl, hm, (fun h => by cases h), fun hn => ?_⟩
  have h0 : 0 < xs.length := by rw [hlen]; exact Nat.mul_pos hn hsz
  obtain ⟨b, o, rfl⟩ := spot_of (h 0 _ (List.getElem?_eq_getElem h0))
  have hc := h 0 _ (List.getElem?_eq_getElem h0)
  refine ⟨b, o, rfl, ?_, fun j u hu => by rw [← add_at]; exact h j u hu⟩
  rw [add_at] at hc
  exact block_lt hc
section
variable {H : Type} {enc : TypeId × Value → H} {W : World} {r : Reach} {b0 base : Nat} {spare : Nat → Bool} {held : Bool} {v : Value} {d : DataW H} {p : List MemPlace} {x : DataW H × List MemPlace}
theorem ints_of_trod {fuel : Nat} (hf : DataW.trod enc Try.prog W base spare held fuel 35 [v] = some x) : ∃ zs, Ints W v zs := by
  rcases open_ints Try.underlying35 Try.underlying3 (by kernel_rfl) hf with ⟨hcs, _⟩ | ⟨ad, len0, cap0, zs, hcs, _, hl, hm, hz, _, hcell, hwz⟩
  · simp at hcs
    subst hcs
    exact ⟨[], Seq.nil _⟩
  · simp at hcs
    subst hcs
    have hge : len0 ≤ zs.length := by rw [hz]; split <;> omega
    refine ⟨zs.take len0, ?_⟩
    have hlen : (zs.take len0).length = len0 := by rw [List.length_take]; omega
    have hS := seq_of_cells (w := W) (x := ad) (len := len0) (cap := cap0) (size := 1) (xs := (zs.take len0).map (Value.int .i64)) hl hm (by rw [List.length_map, hlen]; omega) (by omega) (fun j u hu => by
      rw [List.getElem?_map] at hu
      obtain ⟨z, hz1, rfl⟩ := Option.map_eq_some_iff.1 hu
      have hj : j < len0 := by
        have := (List.getElem?_eq_some_iff.1 hz1).1
        rw [hlen] at this
        exact this
      rw [List.getElem?_take_of_lt hj] at hz1
      have := hcell j (by omega)
      rw [List.getD_eq_getElem?_getD, hz1] at this
      exact this)
    unfold Ints
    rw [hlen]
    exact hS
theorem open_I (hv : Value.okWide Try.prog W r b0 35 v) (h : DataW.Trod enc Try.prog W base spare held 35 v d p) : ∃ zs, Ints W v zs := by
  obtain ⟨a0, len0, cap0, rfl⟩ := okWide_slice Try.underlying35 hv
  obtain ⟨fuel, hf⟩ := h
  exact ints_of_trod hf
end
end Go.Proofs.Ytapmlnpdjdneoaa

/- Arguments opened: items and lists of items. -/
namespace Go.Proofs.Ytapmlnpdjdneoaa
set_option linter.unusedVariables false
set_option linter.unusedSimpArgs false
set_option maxRecDepth 100000
open Go.ChangeShapes Go.WideShapes Go.ChangeAt Go.RowKit Go.Joins Go.Deep
section
variable {H : Type} {enc : TypeId × Value → H} {W : World} {r : Reach} {b0 base : Nat} {spare : Nat → Bool} {held : Bool} {v : Value} {d : DataW H} {p : List MemPlace} {x : DataW H × List MemPlace}
theorem strs_of_trod {fuel : Nat} (hf : DataW.trod enc Try.prog W base spare held fuel 24 [v] = some x) : ∃ zs, Strs W v zs := by
  rcases open_strings Try.underlying24 Try.underlying9 (by kernel_rfl) hf with ⟨hcs, _⟩ | ⟨ad, len0, cap0, zs, hcs, _, hl, hm, hz, _, hcell, hwz⟩
  · simp at hcs
    subst hcs
    exact ⟨[], Seq.nil _, by simp⟩
  · simp at hcs
    subst hcs
    have hge : len0 ≤ zs.length := by rw [hz]; split <;> omega
    refine ⟨zs.take len0, ?_, fun z hz => hwz z (List.mem_of_mem_take hz)⟩
    have hlen : (zs.take len0).length = len0 := by rw [List.length_take]; omega
    have hS := seq_of_cells (w := W) (x := ad) (len := len0) (cap := cap0) (size := 1) (xs := (zs.take len0).map Value.string) hl hm (by rw [List.length_map, hlen]; omega) (by omega) (fun j u hu => by
      rw [List.getElem?_map] at hu
      obtain ⟨z, hz1, rfl⟩ := Option.map_eq_some_iff.1 hu
      have hj : j < len0 := by
        have := (List.getElem?_eq_some_iff.1 hz1).1
        rw [hlen] at this
        exact this
      rw [List.getElem?_take_of_lt hj] at hz1
      have := hcell j (by omega)
      rw [List.getD_eq_getElem?_getD, hz1] at this
      exact this)
    rw [hlen]
    exact hS
theorem item_of_parts {v0 v1 v2 : Value} {y0 y1 y2 : DataW H × List MemPlace} {n : Nat} (h0 : DataW.trod enc Try.prog W base spare held n 24 [v0] = some y0) (h1 : DataW.trod enc Try.prog W base spare held n 35 [v1] = some y1) (h2 : DataW.trod enc Try.prog W base spare held n 4 [v2] = some y2) :
    ∃ it : ItemD, v2 = .bool it.late ∧ Strs W v0 it.names ∧ Ints W v1 it.marks := by
  obtain ⟨ns, q0⟩ := strs_of_trod h0
  obtain ⟨ms, q1⟩ := ints_of_trod h1
  obtain ⟨b, q2, _⟩ := DataW.trod_bool Try.underlying4 h2
  simp at q2
  exact ⟨⟨ns, ms, b⟩, q2, q0, q1⟩
theorem open_T (hv : Value.okWide Try.prog W r b0 49 v) (h : DataW.Trod enc Try.prog W base spare held 49 v d p) : ∃ it, ItemAt W v it := by
  obtain ⟨v0, v1, v2, y0, y1, y2, n, rfl, _, _, h0, h1, h2⟩ := open_agg3 Try.underlying49 (by kernel_rfl) (by kernel_rfl) hv h
  obtain ⟨it, rfl, q0, q1⟩ := item_of_parts h0 h1 h2
  exact ⟨it, _, _, rfl, q0, q1⟩
theorem open_L (hv : Value.okWide Try.prog W r b0 22 v) (h : DataW.Trod enc Try.prog W base spare held 22 v d p) : ∃ its, ItemsAt W v its := by
  obtain ⟨a0, len0, cap0, rfl⟩ := okWide_slice Try.underlying22 hv
  obtain ⟨fuel, hf⟩ := h
  have hC : Try.prog.cellsOf 49 = 3 := by kernel_rfl
  rcases open_slice Try.underlying22 hf with ⟨hcs, _⟩ | ⟨ad, len, cap, m, n, D, Pl, hcs, _, hl, hm, hmm, _, hi⟩
  · simp [Value.cells] at hcs
    obtain ⟨rfl, rfl, rfl⟩ := hcs
    exact ⟨[], [], rfl, Seq.nil _, by simp⟩
  · simp [Value.cells] at hcs
    obtain ⟨rfl, rfl, rfl⟩ := hcs
    have hge : len0 ≤ m := by rw [hmm]; split <;> omega
    have each : ∀ i : Fin len0, ∃ q : (Value × Value) × ItemD, (W.cell? (ad.add (i.1 * 3)) = some q.1.1 ∧ W.cell? ((ad.add (i.1 * 3)).add 1) = some q.1.2 ∧ W.cell? ((ad.add (i.1 * 3)).add 2) = some (.bool q.2.late)) ∧ Strs W q.1.1 q.2.names ∧ Ints W q.1.2 q.2.marks := by
      intro i
      obtain ⟨cs', hc, ht'⟩ := hi i.1 (by omega)
      rw [hC] at hc
      obtain ⟨_, hcl, hat⟩ := World.cells?_some hc
      obtain ⟨y0, y1, y2, n', _, _, h0, h1, h2⟩ := trod_struct3 Try.underlying49 ht'
      have hS : Try.prog.cellsOf 24 = 1 := by kernel_rfl
      have hI : Try.prog.cellsOf 35 = 1 := by kernel_rfl
      have hB : Try.prog.cellsOf 4 = 1 := by kernel_rfl
      match cs', hcl with
      | [x0, x1, x2], _ =>
        dsimp only at h0 h1 h2
        rw [hS] at h0
        rw [hI] at h1
        rw [hB] at h2
        obtain ⟨it, rfl, q0, q1⟩ := item_of_parts (v0 := x0) (v1 := x1) (v2 := x2) h0 h1 h2
        exact ⟨((x0, x1), it), ⟨hat 0 (by omega), hat 1 (by omega), hat 2 (by omega)⟩, q0, q1⟩
    refine ⟨List.ofFn fun i => (Classical.choose (each i)).2, List.ofFn fun i => (Classical.choose (each i)).1, by simp, ?_, ?_⟩
    · rw [List.length_ofFn]
      refine seq_of_cells (size := 3) hl hm (by rw [flat_length row3 3 (fun _ => rfl)]; simp) (by omega) (fun j u hu => ?_)
      have hj : j < len0 * 3 := by
        have := (List.getElem?_eq_some_iff.1 hu).1
        rw [flat_length row3 3 (fun _ => rfl)] at this
        simpa using this
      have hi3 : j / 3 < len0 := by omega
      have hsp := Classical.choose_spec (each ⟨j / 3, hi3⟩)
      have hz : (List.zip (List.ofFn fun i => (Classical.choose (each i)).1) (List.ofFn fun i => (Classical.choose (each i)).2))[j / 3]? = some (Classical.choose (each ⟨j / 3, hi3⟩)) := by
        rw [List.getElem?_zip_eq_some]
        constructor <;> rw [List.getElem?_ofFn, dif_pos hi3]
      have hfl := flat_get row3 3 (fun _ => rfl) (List.zip (List.ofFn fun i => (Classical.choose (each i)).1) (List.ofFn fun i => (Classical.choose (each i)).2)) (j / 3) (j % 3) (by omega)
      rw [show j / 3 * 3 + j % 3 = j from by omega, hu, hz] at hfl
      have hadd : ad.add j = (ad.add (j / 3 * 3)).add (j % 3) := by
        rw [Go.Deep.add_add]
        congr 1
        omega
      rw [hadd]
      have hm3 : j % 3 = 0 ∨ j % 3 = 1 ∨ j % 3 = 2 := by omega
      rcases hm3 with h | h | h <;> rw [h] at hfl ⊢
      · rw [show ∀ a : Addr, a.add 0 = a from fun a => by simp [Addr.add]]
        rw [hsp.1.1]
        simpa [row3] using hfl.symm
      · rw [hsp.1.2.1]
        simpa [row3] using hfl.symm
      · rw [hsp.1.2.2]
        simpa [row3] using hfl.symm
    · intro k nv mv it q1 q2
      rw [List.getElem?_ofFn] at q1 q2
      split at q1
      · rename_i hk
        rw [dif_pos hk] at q2
        injection q1 with q1
        injection q2 with q2
        have hsp := (Classical.choose_spec (each ⟨k, hk⟩)).2
        rw [q1, q2] at hsp
        exact hsp
      · cases q1
end
end Go.Proofs.Ytapmlnpdjdneoaa
