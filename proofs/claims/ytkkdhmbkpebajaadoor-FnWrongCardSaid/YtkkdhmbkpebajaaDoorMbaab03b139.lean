/- Contracts of functions that the proof leans on. No condition. -/
import Derived.Test.YtkkdhmbkpebajaaDoorM049717b07b
import Derived.Deep.QuietTactic
import Derived.BigQuiet
import Derived.Lib.SliceRun
import Derived.Test.YtkkdhmbkpebajaaDoorShelf
/- Lists of items marked, and read again. -/
namespace Go.Proofs.YtkkdhmbkpebajaaDoor
set_option linter.unusedVariables false
set_option linter.unusedSimpArgs false
open Go.RowKit

theorem zip_set_row {cs : List (Value × Value)} {its : List ItemD} {j : Nat} {it' : ItemD} (hl : cs.length = its.length) (hj : j < its.length) :
    ((cs.zip its).flatMap row3).set (j * 3 + 2) (.bool it'.late) = (cs.zip (its.set j it')).flatMap row3 := by
  have hz : (cs.zip its).length = its.length := by rw [List.length_zip]; omega
  have hz' : (cs.zip (its.set j it')).length = its.length := by rw [List.length_zip, List.length_set]; omega
  apply List.ext_getElem?
  intro i
  by_cases hi : i < its.length * 3
  · have e : i = i / 3 * 3 + i % 3 := by omega
    have hm : i % 3 < 3 := by omega
    have hq : i / 3 < its.length := by omega
    have f1 := flat_get row3 3 (fun _ => rfl) (cs.zip its) (i / 3) (i % 3) hm
    have f2 := flat_get row3 3 (fun _ => rfl) (cs.zip (its.set j it')) (i / 3) (i % 3) hm
    rw [← e] at f1 f2
    have g1 : (cs.zip its)[i / 3]? = some (cs[i / 3], its[i / 3]) := by
      rw [List.getElem?_zip_eq_some]
      exact ⟨List.getElem?_eq_getElem _, List.getElem?_eq_getElem _⟩
    have g2 : (cs.zip (its.set j it'))[i / 3]? = some (cs[i / 3], (its.set j it')[i / 3]'(by rw [List.length_set]; exact hq)) := by
      rw [List.getElem?_zip_eq_some]
      exact ⟨List.getElem?_eq_getElem _, List.getElem?_eq_getElem _⟩
    rw [g1] at f1
    rw [g2] at f2
    rw [f2, List.getElem?_set, f1]
    by_cases hij : i / 3 = j
    · subst hij
      have h3 : i % 3 = 0 ∨ i % 3 = 1 ∨ i % 3 = 2 := by omega
      rcases h3 with h | h | h
      · rw [if_neg (by omega), h]; rfl
      · rw [if_neg (by omega), h]; rfl
      · rw [if_pos (by omega), if_pos (by rw [flat_length row3 3 (fun _ => rfl), hz]; omega), h]
        simp [row3]
    · rw [if_neg (by omega)]
      have : (its.set j it')[i / 3]'(by rw [List.length_set]; exact hq) = its[i / 3] := by rw [List.getElem_set_ne (Ne.symm hij)]
      simp [row3, this]
  · rw [List.getElem?_eq_none (by rw [List.length_set, flat_length row3 3 (fun _ => rfl), hz]; omega), List.getElem?_eq_none (by rw [flat_length row3 3 (fun _ => rfl), hz']; omega)]
theorem OwnC.setLate {w : World} {base g cap n : Nat} {its : List ItemD} {cs : List (Value × Value)} {j : Nat} {it it' : ItemD} {nv mv : Value}
    (h : OwnC w base (.slice (some ⟨g, 0, none⟩) n cap) its cs) (hnl : n = its.length) (hi : its[j]? = some it) (hc : cs[j]? = some (nv, mv)) (hn : it'.names = it.names) (hm : it'.marks = it.marks) :
    OwnC (w.setCell ⟨g, j * 3 + 2, none⟩ (.bool it'.late)) base (.slice (some ⟨g, 0, none⟩) n cap) (its.set j it') cs := by
  subst hnl
  obtain ⟨h1, h2, h3, h4⟩ := h
  have hj : j < its.length := (List.getElem?_eq_some_iff.1 hi).1
  have hnd := List.nodup_append.1 h4
  have ho : Only [g] w (w.setCell ⟨g, j * 3 + 2, none⟩ (.bool it'.late)) := (Only.refl _ _).setCell (by simp) _
  refine ⟨by simpa using h1, ?_, ?_, h4⟩
  · have hs := (h2.stored (j * 3 + 2) (.bool it'.late)).1
    rw [zip_set_row h1 hj] at hs
    rw [List.length_set]
    exact hs
  · intro k nv' mv' x q1 q2
    have hg : ∀ b, b ∈ fp nv' ∨ b ∈ fp mv' → b ∉ [g] := fun b hb hbg => by
      rw [List.mem_singleton] at hbg
      exact hnd.2.2 g (by simp [fp_some]) b (mem_fpL q1 hb) hbg.symm
    by_cases hk : k = j
    · subst hk
      rw [List.getElem?_set_self hj] at q2
      simp at q2
      subst q2
      obtain ⟨r1, r2⟩ := h3 k nv' mv' it q1 hi
      rw [hn, hm]
      exact ⟨r1.only ho (fun b hb => hg b (.inl hb)), r2.only ho (fun b hb => hg b (.inr hb))⟩
    · rw [List.getElem?_set_ne (Ne.symm hk)] at q2
      obtain ⟨r1, r2⟩ := h3 k nv' mv' x q1 q2
      exact ⟨r1.only ho (fun b hb => hg b (.inl hb)), r2.only ho (fun b hb => hg b (.inr hb))⟩
/-- the cells of an item of a list that the call owns -/
theorem ownC_cells {w : World} {base g n cap : Nat} {its : List ItemD} {cs : List (Value × Value)} {j : Nat} {it : ItemD} {nv mv : Value} (h : OwnC w base (.slice (some ⟨g, 0, none⟩) n cap) its cs) (hi : its[j]? = some it) (hc : cs[j]? = some (nv, mv)) :
    (w.cell? ⟨g, j * 3, none⟩ = some nv ∧ w.cell? ⟨g, j * 3 + 1, none⟩ = some mv ∧ w.cell? ⟨g, j * 3 + 2, none⟩ = some (.bool it.late)) ∧
      (w.frozen? ⟨g, j * 3, none⟩ = false ∧ w.frozen? ⟨g, j * 3 + 1, none⟩ = false ∧ w.frozen? ⟨g, j * 3 + 2, none⟩ = false) := by
  obtain ⟨h1, h2, h3, h4⟩ := h
  obtain ⟨A', c', e, _, _, hA⟩ := own_form h2
  simp only [Value.slice.injEq] at e
  obtain ⟨_, hn, rfl⟩ := e
  subst hn
  have hj : j < its.length := (List.getElem?_eq_some_iff.1 hi).1
  have hz : (cs.zip its)[j]? = some ((nv, mv), it) := by rw [List.getElem?_zip_eq_some]; exact ⟨hc, hi⟩
  have hf := flat_get row3 3 (fun _ => rfl) (cs.zip its) j
  have hcell : ∀ i, i < 3 → w.cell? ⟨g, j * 3 + i, none⟩ = (row3 ((nv, mv), it))[i]? := fun i hi3 => by
    rw [h2.cellAt (j * 3 + i) (by omega), hf i hi3, hz]
    rfl
  exact ⟨⟨hcell 0 (by omega), hcell 1 (by omega), hcell 2 (by omega)⟩, h2.frozenAt _, h2.frozenAt _, h2.frozenAt _⟩
theorem ownC_at {w : World} {base : Nat} {A : Option Addr} {n c : Nat} {its : List ItemD} {cs : List (Value × Value)} (h : OwnC w base (.slice A n c) its cs) (hnl : n = its.length) {j : Nat} (hj : j < n) :
    ∃ g A1 c1 A2 c2 it, A = some ⟨g, 0, none⟩ ∧ its[j]? = some it ∧ cs[j]? = some (.slice A1 it.names.length c1, .slice A2 it.marks.length c2) ∧
      OwnS w base (.slice A1 it.names.length c1) it.names ∧ OwnI w base (.slice A2 it.marks.length c2) it.marks := by
  subst hnl
  obtain ⟨h1, h2, h3, h4⟩ := h
  obtain ⟨A', c', e, _, _, hA⟩ := own_form h2
  simp only [Value.slice.injEq] at e
  obtain ⟨rfl, _, rfl⟩ := e
  obtain ⟨g, rfl⟩ := hA (by omega)
  have q1 : its[j]? = some its[j] := List.getElem?_eq_getElem hj
  obtain ⟨nv, mv, q2⟩ : ∃ nv mv, cs[j]? = some (nv, mv) := ⟨_, _, List.getElem?_eq_getElem (by omega)⟩
  obtain ⟨r1, r2⟩ := h3 j nv mv its[j] q2 q1
  obtain ⟨A1, c1, rfl, _⟩ := own_form r1.1
  obtain ⟨A2, c2, rfl, _⟩ := own_form r2
  exact ⟨g, A1, c1, A2, c2, its[j], rfl, q1, q2, r1, r2⟩
theorem OwnC.items {w : World} {base : Nat} {v : Value} {its : List ItemD} {cs : List (Value × Value)} (h : OwnC w base v its cs) : ItemsAt w v its := by
  obtain ⟨h1, h2, h3, _⟩ := h
  exact ⟨cs, h1, Seq.of_own h2, fun k nv mv it q1 q2 => ⟨(h3 k nv mv it q1 q2).1.strs, (h3 k nv mv it q1 q2).2.ints⟩⟩
theorem OwnC.only {w w' : World} {base : Nat} {v : Value} {its : List ItemD} {cs : List (Value × Value)} {T : List Nat} (h : OwnC w base v its cs) (ho : Only T w w') (hd : ∀ b ∈ fp v ++ fpL cs, b ∉ T) : OwnC w' base v its cs := by
  obtain ⟨h1, h2, h3, h4⟩ := h
  exact ⟨h1, own_only h2 ho (fun b hb => hd b (List.mem_append_left _ hb)), fun k nv mv it q1 q2 => ⟨(h3 k nv mv it q1 q2).1.only ho (fun b hb => hd b (List.mem_append_right _ (mem_fpL q1 (.inl hb)))), (h3 k nv mv it q1 q2).2.only ho (fun b hb => hd b (List.mem_append_right _ (mem_fpL q1 (.inr hb))))⟩, h4⟩
theorem OwnC.kept {w w' : World} {base : Nat} {v : Value} {its : List ItemD} {cs : List (Value × Value)} (h : OwnC w base v its cs) (hk : Kept w w') : OwnC w' base v its cs := h.only (hk.only []) (fun _ _ => List.not_mem_nil)
theorem OwnL.toC {w : World} {base : Nat} {v : Value} {its : List ItemD} {S : List Nat} (h : OwnL w base v its S) : ∃ cs, OwnC w base v its cs ∧ S = fp v ++ fpL cs ∧ ∀ b ∈ S, base ≤ b ∧ b < w.heap.size := by
  obtain ⟨cs, h1, h2, h3, h4, h5, h6⟩ := h
  exact ⟨cs, ⟨h1, h2, h3, h4 ▸ h5⟩, h4, h6⟩
theorem set_mid {α : Type} (A B : List α) (x y : α) (j : Nat) (hj : j = A.length) : (A ++ x :: B).set j y = A ++ y :: B := by
  subst hj
  rw [List.set_append_right _ _ (Nat.le_refl _)]
  simp
theorem ml_step (k : Int) (its : List ItemD) (j : Nat) (it : ItemD) (h : its[j]? = some it) :
    (ml k (its.take j) ++ its.drop j).set j (markIt (nk k (its.take j)) it) = ml k (its.take (j + 1)) ++ its.drop (j + 1) := by
  obtain ⟨hj, rfl⟩ := List.getElem?_eq_some_iff.1 h
  rw [List.drop_eq_getElem_cons hj, set_mid _ _ _ _ _ (by rw [ml_length, List.length_take]; omega), take_snoc h, ml_snoc, List.append_assoc]
  rfl
theorem ml_at (k : Int) (its : List ItemD) (j : Nat) (hj : j < its.length) : (ml k (its.take j) ++ its.drop j)[j]? = its[j]? := by
  have hl : (ml k (its.take j)).length = j := by rw [ml_length, List.length_take]; omega
  rw [List.getElem?_append_right (by omega), hl, Nat.sub_self, List.getElem?_drop, Nat.add_zero]
theorem ml_len (k : Int) (its : List ItemD) (j : Nat) (hj : j ≤ its.length) : (ml k (its.take j) ++ its.drop j).length = its.length := by
  rw [List.length_append, ml_length, List.length_take, List.length_drop]
  omega
theorem ml_get (k : Int) (its : List ItemD) (j : Nat) (it : ItemD) (h : its[j]? = some it) : (ml k its)[j]? = some (markIt (nk k (its.take j)) it) := by
  induction its generalizing k j with
  | nil => simp at h
  | cons x l ih =>
    cases j with
    | zero => simp at h; subst h; simp [ml, nk]
    | succ j => simp at h; simp [ml, nk, ih _ _ h]
end Go.Proofs.YtkkdhmbkpebajaaDoor

/- Regions that draw their order, whose operations read and whose callees may make new memory: one walk, in the class of the worlds that keep what was there. -/
namespace Go.Proofs.YtkkdhmbkpebajaaDoor
set_option linter.unusedVariables false
set_option linter.unusedSimpArgs false
open Go.RowKit

structure After (W : World) where
  w : World
  kept : Kept W w
instance (W : World) : Nonempty (After W) := ⟨⟨W, Kept.refl W⟩⟩
theorem region_after {P : Program} {id : Nat} {Q : Exit → Act → World → Prop} {a : Act} {w : World} {l : List Oper} (hm : P.follows .mixedOrders = true) (hB : Region.lexB .any l.toArray = true)
    (h : wpQuiet P l.toArray (fun w' => ∃ s : After w.drew, w' = s.w) (fun a' => ∀ w', (∃ s : After w.drew, w' = s.w) → Q .normal a' w') l a) : (Code.region id l.toArray true).wp P Q a w :=
  wp_region_quiet (C := fun w' => ∃ s : After w.drew, w' = s.w) hm hB ⟨⟨w.drew, Kept.refl _⟩, rfl⟩ h
theorem after_of {P : Program} {f : FuncId} {args : Array Value} {W : World} {s : After W} {v : Value} (h : Calls P f args s.w fun e w' => e = .returned v ∧ Kept s.w w') :
    Calls P f args s.w fun e w'' => e = .returned v ∧ ∃ s' : After W, w'' = s'.w :=
  h.mono fun _ w' ⟨he, hk⟩ => ⟨he, ⟨w', s.kept.trans hk⟩, rfl⟩
theorem after_same {P : Program} {f : FuncId} {args : Array Value} {W : World} {s : After W} {v : Value} (h : Calls P f args s.w fun e w' => e = .returned v ∧ s.w = w') :
    Calls P f args s.w fun e w'' => e = .returned v ∧ ∃ s' : After W, w'' = s'.w :=
  h.mono fun _ _ ⟨he, hk⟩ => ⟨he, s, hk.symm⟩
theorem After.cell {W : World} {p : Addr} {v : Value} (h : W.cell? p = some v) (hp : p.block < W.heap.size) (s : After W) : s.w.cell? p = some v := (s.kept.cell hp).trans h
end Go.Proofs.YtkkdhmbkpebajaaDoor

/- Lists of items that a call builds by append. -/
namespace Go.Proofs.YtkkdhmbkpebajaaDoor
set_option linter.unusedVariables false
set_option linter.unusedSimpArgs false
open Go.RowKit

theorem ownT_fps {w : World} {base : Nat} {v : Value} {it : ItemD} (h : OwnT w base v it) : ∀ b ∈ fpA v, base ≤ b ∧ b < w.heap.size := by
  obtain ⟨nv, mv, rfl, h1, h2, h3⟩ := h
  rw [fpA_item]
  intro b hb
  rcases List.mem_append.1 hb with hb | hb
  · exact own_fp h1.1 b hb
  · exact own_fp h2 b hb
theorem OwnC.fps {w : World} {base : Nat} {v : Value} {its : List ItemD} {cs : List (Value × Value)} (h : OwnC w base v its cs) : ∀ b ∈ fp v ++ fpL cs, base ≤ b ∧ b < w.heap.size := by
  obtain ⟨h1, h2, h3, _⟩ := h
  intro b hb
  rcases List.mem_append.1 hb with hb | hb
  · exact own_fp h2 b hb
  · unfold fpL at hb
    obtain ⟨⟨nv, mv⟩, hp, hb⟩ := List.mem_flatMap.1 hb
    obtain ⟨k, hk⟩ := List.getElem?_of_mem hp
    have hlt : k < its.length := by rw [← h1]; exact (List.getElem?_eq_some_iff.1 hk).1
    obtain ⟨q1, q2⟩ := h3 k nv mv its[k] hk (List.getElem?_eq_getElem hlt)
    rcases List.mem_append.1 hb with hb | hb
    · exact own_fp q1.1 b hb
    · exact own_fp q2 b hb
theorem OwnC.base {w : World} {base base' : Nat} {v : Value} {its : List ItemD} {cs : List (Value × Value)} (h : OwnC w base v its cs) (hb : base' ≤ base) : OwnC w base' v its cs :=
  ⟨h.1, own_base h.2.1 hb, fun k nv mv it q1 q2 => ⟨⟨own_base (h.2.2.1 k nv mv it q1 q2).1.1 hb, (h.2.2.1 k nv mv it q1 q2).1.2⟩, own_base (h.2.2.1 k nv mv it q1 q2).2 hb⟩, h.2.2.2⟩
theorem OwnC.toL {w : World} {base : Nat} {v : Value} {its : List ItemD} {cs : List (Value × Value)} (h : OwnC w base v its cs) : OwnL w base v its (fp v ++ fpL cs) :=
  ⟨cs, h.1, h.2.1, h.2.2.1, rfl, h.2.2.2, h.fps⟩
theorem OwnC.nil0 (w : World) (base : Nat) : OwnC w base (.slice none 0 0) [] [] := ⟨rfl, World.ownsRow_nil _ _ _ _, fun k _ _ _ h => by simp at h, by simp [fp, fpL, Value.ownBlock]⟩
theorem OwnC.made {w : World} {base : Nat} (g : Nat) (hb : base ≤ g) (h : Box w g 34 #[]) : OwnC w base (.slice (some ⟨g, 0, none⟩) 0 0) [] [] :=
  ⟨rfl, own_made g _ 3 hb h, fun k _ _ _ h => by simp at h, by simp [fp_some, fpL]⟩
/-- one item more -/
theorem OwnC.push {w w' : World} {base : Nat} {v v' nv mv : Value} {its : List ItemD} {cs : List (Value × Value)} {it : ItemD} (h : OwnC w base v its cs) (hn : OwnS w base nv it.names) (hm : OwnI w base mv it.marks)
    (hnd : (fp nv ++ fp mv).Nodup) (hd : ∀ b ∈ fp nv ++ fp mv, b ∉ fp v ++ fpL cs) (ho : w'.ownsRow base 34 3 v' (its.length + 1) ((cs.zip its).flatMap row3 ++ [nv, mv, .bool it.late]))
    (hg : w.grownBy w' v.ownBlock) (hv : v'.ownBlock = v.ownBlock ∨ v'.ownBlock = some w.heap.size) : OwnC w' base v' (its ++ [it]) (cs ++ [(nv, mv)]) := by
  have hon := only_of_grown hg
  have hfs := h.fps
  have hfn : ∀ b ∈ fp nv ++ fp mv, b < w.heap.size := fun b hb => by
    rcases List.mem_append.1 hb with hb | hb
    · exact (own_fp hn.1 b hb).2
    · exact (own_fp hm b hb).2
  have hd1 : ∀ b ∈ fp nv ++ fp mv, b ∉ fp v := fun b hb hb' => hd b hb (List.mem_append_left _ hb')
  have hnod := List.nodup_append.1 h.2.2.2
  refine ⟨by simp [h.1], ?_, ?_, ?_⟩
  · rw [List.length_append, List.length_singleton]
    have e : (cs ++ [(nv, mv)]).zip (its ++ [it]) = cs.zip its ++ [((nv, mv), it)] := by
      rw [List.zip_append h.1]
      rfl
    rw [e, List.flatMap_append]
    simpa [row3] using ho
  · intro k nv' mv' it' q1 q2
    rcases getElem?_snoc q1 with q | ⟨qk, qe⟩
    · have hk : k < its.length := by rw [← h.1]; exact (List.getElem?_eq_some_iff.1 q).1
      rw [List.getElem?_append_left hk] at q2
      obtain ⟨r1, r2⟩ := h.2.2.1 k nv' mv' it' q q2
      have hx : ∀ b, b ∈ fp nv' ∨ b ∈ fp mv' → b ∉ fp v := fun b hb hb' => hnod.2.2 b hb' b (mem_fpL q hb) rfl
      exact ⟨r1.only hon (fun b hb => hx b (.inl hb)), r2.only hon (fun b hb => hx b (.inr hb))⟩
    · simp only [Prod.mk.injEq] at qe
      obtain ⟨rfl, rfl⟩ := qe
      rw [qk, h.1, List.getElem?_concat_length] at q2
      injection q2 with q2
      subst q2
      exact ⟨hn.only hon (fun b hb => hd1 b (List.mem_append_left _ hb)), hm.only hon (fun b hb => hd1 b (List.mem_append_right _ hb))⟩
  · rw [fpL_snoc]
    have hv' : ∀ b ∈ fp v', b ∈ fp v ∨ b = w.heap.size := fun b hb => by
      have hb' : v'.ownBlock = some b := by simpa [fp] using hb
      rcases hv with hv | hv
      · left
        rw [hv] at hb'
        simpa [fp] using hb'
      · right
        rw [hv] at hb'
        injection hb' with hb'
        exact hb'.symm
    rw [List.nodup_append]
    refine ⟨nodup_one _, List.nodup_append.2 ⟨hnod.2.1, hnd, fun x hx y hy e => ?_⟩, fun x hx y hy e => ?_⟩
    · subst e
      exact hd x hy (List.mem_append_right _ hx)
    · subst e
      rcases hv' x hx with hx | rfl
      · rcases List.mem_append.1 hy with hy | hy
        · exact hnod.2.2 x hx x hy rfl
        · exact hd1 x hy hx
      · rcases List.mem_append.1 hy with hy | hy
        · have := (hfs _ (List.mem_append_right _ hy)).2
          omega
        · have := hfn _ hy
          omega
theorem set3 {w : World} {g : Nat} {t : TypeId} {x0 x1 x2 : Value} (h : Box w g t #[x0, x1, x2]) (u0 u1 u2 : Value) :
    ∃ w9, w9 = ((w.setCell ⟨g, 0, none⟩ u0).setCell ⟨g, 1, none⟩ u1).setCell ⟨g, 2, none⟩ u2 ∧ Box w9 g t #[u0, u1, u2] ∧ Only [g] w w9 :=
  ⟨_, rfl, ((h.set 0 u0).set 1 u1).set 2 u2, (((Only.refl [g] w).setCell (by simp) _).setCell (by simp) _).setCell (by simp) _⟩
theorem Box.far3 {w : World} {b g : Nat} {t : TypeId} {cs : Array Value} (h : Box w b t cs) (hne : b ≠ g) (u0 u1 u2 : Value) :
    Box (((w.setCell ⟨g, 0, none⟩ u0).setCell ⟨g, 1, none⟩ u1).setCell ⟨g, 2, none⟩ u2) b t cs := ((h.far _ hne _).far _ hne _).far _ hne _
/-- append(out, item) -/
theorem run_append_T {P : Program} (w : World) (base : Nat) (t ty e : TypeId) (i : TypeInfo) (z : Value) (ht : P.underlying t = some (.slice e)) (hi : P.info? e = some i) (hz : i.zero = some z)
    (hsize : i.size = 3) (hby : i.bytes = 56) (hzs : z.cells.size = 3) (v : Value) (n : Nat) (xs : List Value) (hown : w.ownsRow base e 3 v n xs) (g : Nat) (c0 c1 c2 : Value) (hB : Box w g e #[c0, c1, c2])
    (h1 : c0.oneCell' = true ∧ c1.oneCell' = true ∧ c2.oneCell' = true) (hl : n ≤ 1000000) (hbase : base ≤ w.heap.size) :
    ∃ v' w', (Builtin.append_ #[t, t] ty #[v, .slice (some ⟨g, 0, none⟩) 1 1]).run P w = .ok v' w' ∧ w'.ownsRow base e 3 v' (n + 1) (xs ++ [c0, c1, c2]) ∧ w.grownBy w' v.ownBlock ∧ (v'.ownBlock = v.ownBlock ∨ v'.ownBlock = some w.heap.size) := by
  obtain ⟨v', w', hrun, h2, h3, _, h5⟩ := run_append_own_at (P := P) w base t ty e i z 3 56 ht hi hz hsize hby hzs (by omega) v n xs hown ⟨g, 0, none⟩ 1 1 [c0, c1, c2] rfl (by
    intro j u hu
    have e1 : (⟨g, 0, none⟩ : Addr).add j = ⟨g, j, none⟩ := by unfold Addr.add; split <;> simp_all
    rw [e1, hB.cell j, ← hu]
    exact List.getElem?_toArray (xs := [c0, c1, c2]) (i := j)) (by
    intro u hu
    simp only [List.mem_cons, List.not_mem_nil, or_false] at hu
    rcases hu with rfl | rfl | rfl
    · exact h1.1
    · exact h1.2.1
    · exact h1.2.2) (by unfold maxLen; omega) (by omega) hbase
  exact ⟨v', w', hrun, h2, h3, h5⟩
theorem wp_append_T (w : World) {o : Oper} {a : Act} {K : Act → World → Prop} {Q : Exit → Act → World → Prop} (s x : Operand)
    (ho : o.op = .call { callee := .builtin .append, args := #[s, x], argTypes := #[27, 27] })
    (base : Nat) (v : Value) (n : Nat) (xs : List Value) (hs : a.eval s = v) (hown : w.ownsRow base 34 3 v n xs) (g : Nat) (c0 c1 c2 : Value) (hx : a.eval x = .slice (some ⟨g, 0, none⟩) 1 1)
    (hB : Box w g 34 #[c0, c1, c2]) (h1 : c0.oneCell' = true ∧ c1.oneCell' = true ∧ c2.oneCell' = true) (hl : n ≤ 1000000) (hbase : base ≤ w.heap.size)
    (h : ∀ v' w', w'.ownsRow base 34 3 v' (n + 1) (xs ++ [c0, c1, c2]) → w.grownBy w' v.ownBlock → (v'.ownBlock = v.ownBlock ∨ v'.ownBlock = some w.heap.size) → K (a.put o.dst v') w') : o.wp Tryd.prog a w K Q := by
  obtain ⟨i0, hi, hz0, hz1, hz2⟩ := info_parts info_item
  obtain ⟨v', w', hrun, h2, h3, h4⟩ := run_append_T (P := Tryd.prog) w base 27 o.type 34 i0 _ Tryd.underlying27 hi hz0 hz1 hz2 rfl v n xs hown g c0 c1 c2 hB h1 hl hbase
  unfold Oper.wp execOp
  simp only [ho, resolve, invoke, builtin, Sem.run_bind, Sem.run_pure, Result.andThen_ok, List.map_toArray, List.map_cons, List.map_nil, hs, hx, hrun]
  exact h v' w' h2 h3 h4
theorem wpList_append_T (w : World) {ops : Array Oper} {rest : List Oper} {o : Oper} {a : Act} {Q : Exit → Act → World → Prop} (hgd : o.guard = none) (s x : Operand)
    (ho : o.op = .call { callee := .builtin .append, args := #[s, x], argTypes := #[27, 27] })
    (base : Nat) (v : Value) (n : Nat) (xs : List Value) (hs : a.eval s = v) (hown : w.ownsRow base 34 3 v n xs) (g : Nat) (c0 c1 c2 : Value) (hx : a.eval x = .slice (some ⟨g, 0, none⟩) 1 1)
    (hB : Box w g 34 #[c0, c1, c2]) (h1 : c0.oneCell' = true ∧ c1.oneCell' = true ∧ c2.oneCell' = true) (hl : n ≤ 1000000) (hbase : base ≤ w.heap.size)
    (h : ∀ v' w', w'.ownsRow base 34 3 v' (n + 1) (xs ++ [c0, c1, c2]) → w.grownBy w' v.ownBlock → (v'.ownBlock = v.ownBlock ∨ v'.ownBlock = some w.heap.size) → wpList Tryd.prog ops Q rest (a.put o.dst v') w') : wpList Tryd.prog ops Q (o :: rest) a w :=
  wpList_plain hgd fun _ hK => wp_append_T w s x ho base v n xs hs hown g c0 c1 c2 hx hB h1 hl hbase fun v' w' h2 h3 h4 => hK _ _ (h v' w' h2 h3 h4)
theorem step_append_T (w : World) {ops : Array Oper} {o : Oper} {a : Act} {K : Act → World → Prop} {Q : Exit → Act → World → Prop} {E : Prop} (hgd : o.guard = none) (s x : Operand)
    (ho : o.op = .call { callee := .builtin .append, args := #[s, x], argTypes := #[27, 27] })
    (base : Nat) (v : Value) (n : Nat) (xs : List Value) (hs : a.eval s = v) (hown : w.ownsRow base 34 3 v n xs) (g : Nat) (c0 c1 c2 : Value) (hx : a.eval x = .slice (some ⟨g, 0, none⟩) 1 1)
    (hB : Box w g 34 #[c0, c1, c2]) (h1 : c0.oneCell' = true ∧ c1.oneCell' = true ∧ c2.oneCell' = true) (hl : n ≤ 1000000) (hbase : base ≤ w.heap.size)
    (h : ∀ v' w', w'.ownsRow base 34 3 v' (n + 1) (xs ++ [c0, c1, c2]) → w.grownBy w' v.ownBlock → (v'.ownBlock = v.ownBlock ∨ v'.ownBlock = some w.heap.size) → K (a.put o.dst v') w') :
    if Region.wanted o (yielded ops a.tmps) = true then Oper.wp Tryd.prog o a w K Q else E := by
  have hw : Region.wanted o (yielded ops a.tmps) = true := by simp [Region.wanted, hgd]
  rw [if_pos hw]
  exact wp_append_T w s x ho base v n xs hs hown g c0 c1 c2 hx hB h1 hl hbase h
/-! ### one row after another -/
theorem mixA_get {α : Type} {a b : List α} {j : Nat} (h : a.length = b.length) (hj : j < b.length) : (a.take j ++ b.drop j)[j]? = b[j]? := by
  rw [List.getElem?_append_right (by rw [List.length_take]; omega), List.length_take, Nat.min_eq_left (by omega), Nat.sub_self, List.getElem?_drop, Nat.add_zero]
theorem mixA_set {α : Type} {a b : List α} {j : Nat} {z : α} (h : a.length = b.length) (hj : j < b.length) (hz : a[j]? = some z) : (a.take j ++ b.drop j).set j z = a.take (j + 1) ++ b.drop (j + 1) := by
  rw [List.set_append_right _ _ (by rw [List.length_take]; omega), List.length_take, Nat.min_eq_left (by omega), Nat.sub_self, take_snoc hz, List.append_assoc]
  congr 1
  rw [List.drop_eq_getElem_cons hj]
  rfl
theorem mixA_len {α : Type} {a b : List α} {j : Nat} (h : a.length = b.length) (hj : j ≤ b.length) : (a.take j ++ b.drop j).length = b.length := by
  rw [List.length_append, List.length_take, List.length_drop]; omega
end Go.Proofs.YtkkdhmbkpebajaaDoor

/- Items: ItemText, both sides and the law. -/
namespace Go.Proofs.YtkkdhmbkpebajaaDoor
set_option linter.unusedVariables false
set_option linter.unusedSimpArgs false
set_option linter.unnecessarySimpa false
open Go.RowKit Go.Lib

theorem OwnT.only {w w' : World} {base : Nat} {v : Value} {it : ItemD} {S : List Nat} (h : OwnT w base v it) (ho : Only S w w') (hd : ∀ b ∈ fpA v, b ∉ S) : OwnT w' base v it := by
  obtain ⟨nv, mv, rfl, h1, h2, h3⟩ := h
  rw [fpA_item] at hd
  exact ⟨nv, mv, rfl, h1.only ho (fun b hb => hd b (List.mem_append_left _ hb)), h2.only ho (fun b hb => hd b (List.mem_append_right _ hb)), h3⟩
theorem OwnT.kept {w w' : World} {base : Nat} {v : Value} {it : ItemD} (h : OwnT w base v it) (hk : Kept w w') : OwnT w' base v it := h.only (hk.only []) (fun _ _ => List.not_mem_nil)
theorem OwnT.fps {w : World} {base : Nat} {v : Value} {it : ItemD} (h : OwnT w base v it) : ∀ b ∈ fpA v, base ≤ b ∧ b < w.heap.size := by
  obtain ⟨nv, mv, rfl, h1, h2, h3⟩ := h
  rw [fpA_item]
  intro b hb
  rcases List.mem_append.1 hb with hb | hb
  · exact own_fp h1.1 b hb
  · exact own_fp h2 b hb
def itV (it : ItemD) : ByteArray := if itemB it then itT it else ⟨#[]⟩
theorem itV_yes {it : ItemD} (h : itemB it = true) : itV it = itT it := by unfold itV; rw [h]; rfl
theorem itV_no {it : ItemD} (h : itemB it = false) : itV it = ⟨#[]⟩ := by unfold itV; rw [h]; rfl
end Go.Proofs.YtkkdhmbkpebajaaDoor

/- An item's marks. -/
namespace Go.Proofs.YtkkdhmbkpebajaaDoor
set_option linter.unusedVariables false
set_option linter.unusedSimpArgs false
open Go.RowKit

def nextM (k : Int) (x : ItemD) : Int := k + x.names.length + x.marks.length
def markM (k : Int) (x : ItemD) : ItemD := ⟨marksS k x.names.length, marksI (k + x.names.length) x.marks.length, x.late⟩
end Go.Proofs.YtkkdhmbkpebajaaDoor

/- Reading items: plain facts about words and their signs; rows in a box; splitting by the library; the marks of one item. -/
namespace Go.Proofs.YtkkdhmbkpebajaaDoor
set_option linter.unusedVariables false
set_option linter.unusedSimpArgs false
set_option linter.unnecessarySimpa false
open Go.RowKit Go.Lib

theorem Only.over {S T : List Nat} {a b c : World} (h : Only S a b) (k : Only T b c) (hT : ∀ x ∈ T, x ∈ S ∨ a.heap.size ≤ x) : Only S a c :=
  ⟨k.os.trans h.os, k.tape.trans h.tape, k.output.trans h.output, Nat.le_trans h.size k.size, fun i hi hn => (k.block i (Nat.lt_of_lt_of_le hi h.size) (fun hx => by rcases hT i hx with q | q; exact hn q; omega)).trans (h.block i hi hn)⟩
theorem Only.step {S : List Nat} {a b c : World} (h : Only S a b) (k : Kept b c) : Only S a c := h.trans (k.only S)
theorem Box.set0 {w : World} {b : Nat} {t : TypeId} {x y z : Value} (h : Box w b t #[x, y, z]) (u : Value) : Box (w.setCell ⟨b, 0, none⟩ u) b t #[u, y, z] := h.set 0 u
theorem Box.set1 {w : World} {b : Nat} {t : TypeId} {x y z : Value} (h : Box w b t #[x, y, z]) (u : Value) : Box (w.setCell ⟨b, 1, none⟩ u) b t #[x, u, z] := h.set 1 u
theorem Box.set2 {w : World} {b : Nat} {t : TypeId} {x y z : Value} (h : Box w b t #[x, y, z]) (u : Value) : Box (w.setCell ⟨b, 2, none⟩ u) b t #[x, y, u] := h.set 2 u
/-- append(out, xs...), strings: only the row's own block turns; where the new row lies -/
theorem wpList_append_SD (w : World) {ops : Array Oper} {rest : List Oper} {o : Oper} {a : Act} {Q : Exit → Act → World → Prop} (hgd : o.guard = none) (s x : Operand)
    (ho : o.op = .call { callee := .builtin .append, args := #[s, x], argTypes := #[31, 31] })
    (base : Nat) (v : Value) (zs : List ByteArray) (hs : a.eval s = v) (hown : OwnS w base v zs) (u : Value) (ys : List ByteArray) (hx : a.eval x = u) (hr : Strs w u ys)
    (hl : zs.length + ys.length ≤ 16777216) (hbase : base ≤ w.heap.size)
    (h : ∀ v' w', OwnS w' base v' (zs ++ ys) → Only (fp v) w w' → (∀ b ∈ fp v', b ∈ fp v ∨ b = w.heap.size) → wpList Tryd.prog ops Q rest (a.put o.dst v') w') : wpList Tryd.prog ops Q (o :: rest) a w := by
  refine wpList_plain hgd fun K hK => ?_
  obtain ⟨i0, hi, hz0, hz1, hz2⟩ := info_parts info_str
  obtain ⟨v', w', hrun, h2, h3, h4⟩ := run_append_locG (P := Tryd.prog) w base 31 o.type 9 i0 _ 1 16 Tryd.underlying31 hi hz0 hz1 hz2 rfl (by omega) v zs.length _ hown.1 u ys.length (ys.map Value.string) hr.1 (by simp) (fun y hy => by obtain ⟨_, _, rfl⟩ := List.mem_map.1 hy; rfl) (by unfold maxLen; omega) (by omega) hbase
  unfold Oper.wp execOp
  simp only [ho, resolve, invoke, builtin, Sem.run_bind, Sem.run_pure, Result.andThen_ok, List.map_toArray, List.map_cons, List.map_nil, hs, hx, hrun]
  refine hK _ _ (h v' w' ?_ (only_of_grown h3) (fun b hb => ?_))
  · refine ⟨by rw [List.length_append, List.map_append]; exact h2, fun e he => ?_⟩
    rcases List.mem_append.1 he with he | he
    · exact hown.2 e he
    · exact hr.2 e he
  · have hb' : v'.ownBlock = some b := by simpa [fp] using hb
    rcases h4 with h4 | h4
    · left; rw [h4] at hb'; simpa [fp] using hb'
    · right; rw [h4] at hb'; exact (Option.some.inj hb').symm
/-- the same, numbers -/
theorem wpList_append_ID (w : World) {ops : Array Oper} {rest : List Oper} {o : Oper} {a : Act} {Q : Exit → Act → World → Prop} (hgd : o.guard = none) (s x : Operand)
    (ho : o.op = .call { callee := .builtin .append, args := #[s, x], argTypes := #[32, 32] })
    (base : Nat) (v : Value) (zs : List Int) (hs : a.eval s = v) (hown : OwnI w base v zs) (u : Value) (ys : List Int) (hx : a.eval x = u) (hr : Ints w u ys)
    (hl : zs.length + ys.length ≤ 16777216) (hbase : base ≤ w.heap.size)
    (h : ∀ v' w', OwnI w' base v' (zs ++ ys) → Only (fp v) w w' → (∀ b ∈ fp v', b ∈ fp v ∨ b = w.heap.size) → wpList Tryd.prog ops Q rest (a.put o.dst v') w') : wpList Tryd.prog ops Q (o :: rest) a w := by
  refine wpList_plain hgd fun K hK => ?_
  obtain ⟨i0, hi, hz0, hz1, hz2⟩ := info_parts info_int
  obtain ⟨v', w', hrun, h2, h3, h4⟩ := run_append_locG (P := Tryd.prog) w base 32 o.type 3 i0 _ 1 8 Tryd.underlying32 hi hz0 hz1 hz2 rfl (by omega) v zs.length _ hown u ys.length (ys.map (Value.int .i64)) hr (by simp) (fun y hy => by obtain ⟨_, _, rfl⟩ := List.mem_map.1 hy; rfl) (by unfold maxLen; omega) (by omega) hbase
  unfold Oper.wp execOp
  simp only [ho, resolve, invoke, builtin, Sem.run_bind, Sem.run_pure, Result.andThen_ok, List.map_toArray, List.map_cons, List.map_nil, hs, hx, hrun]
  refine hK _ _ (h v' w' ?_ (only_of_grown h3) (fun b hb => ?_))
  · unfold OwnI
    rw [List.length_append, List.map_append]
    exact h2
  · have hb' : v'.ownBlock = some b := by simpa [fp] using hb
    rcases h4 with h4 | h4
    · left; rw [h4] at hb'; simpa [fp] using hb'
    · right; rw [h4] at hb'; exact (Option.some.inj hb').symm

/-! ### words and signs -/
theorem endM_bd (w : List UInt8) : 0 ≤ endM w ∧ endM w ≤ 3 := by
  unfold endM
  split
  · split
    · omega
    · split
      · omega
      · split <;> omega
  · omega
theorem sig_one {m : Nat} (h1 : 1 ≤ m) (h3 : m ≤ 3) : ∃ c, signL (m : Int) = [c] ∧ ∀ b : UInt8, (if b = 60 then (1 : Int) else if b = 101 then 2 else if b = 42 then 3 else 0) = (m : Int) ↔ b = c := by
  have hm : m = 1 ∨ m = 2 ∨ m = 3 := by omega
  rcases hm with rfl | rfl | rfl
  · refine ⟨60, rfl, fun b => ⟨fun h => ?_, fun h => by subst h; rfl⟩⟩
    by_cases h1 : b = 60
    · exact h1
    · rw [if_neg h1] at h; split at h
      · cases h
      · split at h <;> cases h
  · refine ⟨101, rfl, fun b => ⟨fun h => ?_, fun h => by subst h; rfl⟩⟩
    by_cases h1 : b = 60
    · rw [if_pos h1] at h; cases h
    · rw [if_neg h1] at h
      by_cases h2 : b = 101
      · exact h2
      · rw [if_neg h2] at h; split at h <;> cases h
  · refine ⟨42, rfl, fun b => ⟨fun h => ?_, fun h => by subst h; rfl⟩⟩
    by_cases h1 : b = 60
    · rw [if_pos h1] at h; cases h
    · rw [if_neg h1] at h
      by_cases h2 : b = 101
      · rw [if_pos h2] at h; cases h
      · rw [if_neg h2] at h
        by_cases h3 : b = 42
        · exact h3
        · rw [if_neg h3] at h; cases h
/-- a word ends with a sign just if its mark is that sign's -/
theorem suf_sign {w : List UInt8} {m : Nat} (h1 : 1 ≤ m) (h3 : m ≤ 3) : hasSuffix w (signL (m : Int)) = decide (endM w = (m : Int)) := by
  obtain ⟨c, e, hc⟩ := sig_one h1 h3
  rw [e]
  induction w using snocInd with
  | h0 =>
    have : ¬ endM [] = (m : Int) := by rw [endM_nil]; omega
    rw [decide_eq_false this]
    rfl
  | h1 l b _ =>
    rw [endM_snoc]
    have hb := hc b
    by_cases hbc : b = c
    · rw [decide_eq_true (hb.2 hbc)]
      subst hbc
      exact List.isSuffixOf_iff_suffix.2 ⟨l, rfl⟩
    · rw [decide_eq_false (fun h => hbc (hb.1 h)), Bool.eq_false_iff]
      intro hs
      obtain ⟨t, ht⟩ := List.isSuffixOf_iff_suffix.1 hs
      have := (List.append_inj' ht rfl).2
      injection this with this
      exact hbc this.symm
theorem cut_sign {w : List UInt8} {m : Nat} (h1 : 1 ≤ m) (h3 : m ≤ 3) (he : endM w = (m : Int)) : trimSuffix w (signL (m : Int)) = cutM w := by
  have hs := suf_sign (w := w) h1 h3
  rw [decide_eq_true he] at hs
  obtain ⟨c, e, _⟩ := sig_one h1 h3
  have hs' := hs
  rw [e] at hs'
  obtain ⟨t, ht⟩ := List.isSuffixOf_iff_suffix.1 hs'
  unfold trimSuffix cutM
  rw [show hasSuffix w (signL (m : Int)) = true from hs, if_pos rfl, if_neg (by omega), e, ← ht]
  simp
def nmW (z : ByteArray) : ByteArray := nameM z.data.toList
def mkW (z : ByteArray) : Int := endM z.data.toList
theorem nmW_zero {z : ByteArray} (h : mkW z = 0) : nmW z = z := by
  unfold nmW nameM cutM
  unfold mkW at h
  rw [if_pos h]
theorem nmW_cut {z : ByteArray} (h : ¬ mkW z = 0) : z.extract 0 (z.size - 1) = nmW z := by
  unfold nmW nameM cutM
  unfold mkW at h
  rw [if_neg h, pc_ext]
  unfold pc tx
  rw [List.drop_zero, List.dropLast_eq_take, size_eq]
theorem last_ext {z : ByteArray} (h : 0 < z.size) : ∃ p b, z.data.toList = p ++ [b] ∧ z.extract (z.size - 1) z.size = tx [b] := by
  have hne : z.data.toList ≠ [] := by intro e; rw [size_eq, e] at h; simp at h
  refine ⟨_, _, (List.dropLast_concat_getLast hne).symm, ?_⟩
  rw [pc_ext]
  unfold pc
  congr 1
  rw [size_eq, List.take_length]
  conv => lhs; rw [← List.dropLast_concat_getLast hne]
  rw [List.drop_left' (by rw [List.length_dropLast, List.length_append, List.length_dropLast]; simp)]
theorem mkW_pos {z : ByteArray} (h : ¬ mkW z = 0) : 0 < z.size := by
  rcases Nat.eq_zero_or_pos z.size with h0 | h0
  · exfalso
    apply h
    unfold mkW
    rw [show z.data.toList = [] from List.eq_nil_of_length_eq_zero (by rw [← size_eq]; exact h0)]
    rfl
  · exact h0
theorem last_yes {z : ByteArray} {m : Nat} (h1 : 1 ≤ m) (h3 : m ≤ 3) (he : mkW z = (m : Int)) : z.extract (z.size - 1) z.size = sgB m := by
  obtain ⟨p, b, e, hx⟩ := last_ext (z := z) (mkW_pos (by omega))
  obtain ⟨c, ec, hc⟩ := sig_one h1 h3
  unfold mkW at he
  rw [e, endM_snoc] at he
  rw [hx, (hc b).1 he]
  unfold sgB
  rw [ec]
theorem last_no {z : ByteArray} {m : Nat} (h0 : 0 < z.size) (h1 : 1 ≤ m) (h3 : m ≤ 3) (he : ¬ mkW z = (m : Int)) : ¬ (z.extract (z.size - 1) z.size).toList = (sgB m).toList := by
  obtain ⟨p, b, e, hx⟩ := last_ext h0
  obtain ⟨c, ec, hc⟩ := sig_one h1 h3
  unfold mkW at he
  rw [e, endM_snoc] at he
  rw [hx, tx_toList]
  unfold sgB
  rw [tx_toList, ec]
  intro h
  injection h with h
  exact he ((hc b).2 h)
def nmsP (t : ByteArray) : List ByteArray := (spB 43 t).map nmW
def mksP (t : ByteArray) : List Int := (spB 43 t).map mkW
theorem nmsP_len (t : ByteArray) : (nmsP t).length = (spB 43 t).length := by simp [nmsP]
theorem mksP_len (t : ByteArray) : (mksP t).length = (spB 43 t).length := by simp [mksP]
theorem nmsP_snoc {t z : ByteArray} {k : Nat} (h : (spB 43 t)[k]? = some z) : (nmsP t).take (k + 1) = (nmsP t).take k ++ [nmW z] := take_snoc (by unfold nmsP; rw [List.getElem?_map, h]; rfl)
theorem mksP_snoc {t z : ByteArray} {k : Nat} (h : (spB 43 t)[k]? = some z) : (mksP t).take (k + 1) = (mksP t).take k ++ [mkW z] := take_snoc (by unfold mksP; rw [List.getElem?_map, h]; rfl)
theorem itP_parts {s t : ByteArray} {late : Bool} (ht : trimSuffix s.data.toList [32, 120] = t.data.toList) (hl : hasSuffix s.data.toList [32, 120] = late) : itP s.data.toList = ⟨nmsP t, mksP t, late⟩ := by
  unfold itP nmsP mksP spB
  rw [ht, hl, List.map_map, List.map_map]
  rfl
def piB (s : ByteArray) : Bool := itemB (itP s.data.toList)
def zeroT : ItemD := ⟨[], [], false⟩
def piV (s : ByteArray) : ItemD := if piB s then itP s.data.toList else zeroT
theorem piV_yes {s : ByteArray} (h : piB s = true) : piV s = itP s.data.toList := by unfold piV; rw [h]; rfl
theorem piV_no {s : ByteArray} (h : piB s = false) : piV s = zeroT := by unfold piV; rw [h]; rfl
theorem piV_len (s : ByteArray) : (piV s).names.length ≤ 3 ∧ (piV s).marks.length ≤ 3 := by
  cases h : piB s with
  | true =>
    rw [piV_yes h]
    obtain ⟨_, _, a, _, b⟩ := item_of h
    omega
  | false => rw [piV_no h]; exact ⟨by decide, by decide⟩
def PiPost (s : ByteArray) (w : World) (e : Ending) (w' : World) : Prop := ∃ v', e = .returned (.tuple #[v', .bool (piB s)]) ∧ OwnT w' w.heap.size v' (piV s) ∧ Kept w w'
/-- a cut string's size -/
theorem spB_sz {b : UInt8} {t z : ByteArray} (h : z ∈ spB b t) : z.size ≤ t.size := by
  unfold spB at h
  obtain ⟨l, hl, rfl⟩ := List.mem_map.1 h
  have hj := splitOn_join b t.data.toList
  rw [tx_size, size_eq, ← hj]
  have hm : ∀ (L : List (List UInt8)), l ∈ L → l.length ≤ (Lib.join L [b]).length := by
    intro L
    induction L with
    | nil => intro h; cases h
    | cons x r ih =>
      intro h
      cases r with
      | nil =>
        rw [join_one]
        rcases List.mem_cons.1 h with rfl | h
        · exact Nat.le_refl _
        · cases h
      | cons y r =>
        have e : Lib.join (x :: y :: r) [b] = x ++ [b] ++ Lib.join (y :: r) [b] := by rw [join_cons, join_cons]; simp [joinTail]
        rw [e, List.length_append, List.length_append]
        rcases List.mem_cons.1 h with rfl | h
        · omega
        · have := ih h; omega
  exact hm _ hl
theorem spB_le (b : UInt8) (t : ByteArray) : (spB b t).length ≤ t.size + 1 := by
  unfold spB
  rw [List.length_map, size_eq]
  exact splitOn_length_le _ _
theorem split_any (s : ByteArray) (b : UInt8) (w : World) (hs : s.size ≤ 1048576) (hm : HasMax w) :
    Calls Tryd.prog 35 #[.string s, .string ⟨#[b]⟩] w fun e w' => ∃ cap, e = .returned (.slice (some ⟨w.heap.size, 0, none⟩) (spB b s).length cap) ∧ OwnS w' w.heap.size (.slice (some ⟨w.heap.size, 0, none⟩) (spB b s).length cap) (spB b s) ∧ Kept w w' := by
  obtain ⟨m, hm⟩ := hm
  have e0 : splitB ⟨#[b]⟩ 0 (countB s ⟨#[b]⟩) s = spB b s := by
    have h1 := splitB_one b s
    unfold spB
    rw [← h1, List.map_map]
    conv => lhs; rw [← List.map_id (splitB ⟨#[b]⟩ 0 (countB s ⟨#[b]⟩) s)]
    refine List.map_congr_left fun x _ => ?_
    show x = tx x.data.toList
    rw [tx_of]
  have hc : countB s ⟨#[b]⟩ + 1 = (spB b s).length := by rw [← e0, Lib.splitB_all ⟨#[b]⟩ (Nat.le_refl 1) 0 _ s rfl]
  refine (Tryd.strings_Split s ⟨#[b]⟩ m w (by omega) hm (Nat.le_refl 1)).mono ?_
  rintro e w' ⟨rfl, rfl⟩
  rw [hc, e0]
  have hl := spB_le b s
  refine ⟨_, rfl, ⟨?_, fun z hz => by have := spB_sz hz; unfold maxLen; omega⟩, (Kept.refl w).alloc _⟩
  refine own_of_box (Box.new w _ _ _ rfl) (Nat.le_refl _) (Nat.le_refl _) (by unfold maxLen; omega) (by simp) (List.take_of_length_le (by simp))
end Go.Proofs.YtkkdhmbkpebajaaDoor
