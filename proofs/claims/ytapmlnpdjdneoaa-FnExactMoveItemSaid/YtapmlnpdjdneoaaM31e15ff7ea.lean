/- Contracts of functions that the proof leans on. No condition. -/
import Derived.Test.YtapmlnpdjdneoaaM09bb176834
import Derived.SliceStrings
import Derived.Lib.SmallJoins
import Derived.Deep.Slices
import Derived.Deep.Fields
/- Arguments opened: elements, lists of elements, codes. -/
namespace Go.Proofs.Ytapmlnpdjdneoaa
set_option linter.unusedVariables false
set_option linter.unusedSimpArgs false
open Go.ChangeShapes Go.WideShapes Go.ChangeAt Go.RowKit Go.Joins Go.Deep
set_option maxRecDepth 100000
section
variable {H : Type} {enc : TypeId × Value → H} {W : World} {r : Reach} {b0 base : Nat} {spare : Nat → Bool} {held : Bool} {v : Value} {d : DataW H} {p : List MemPlace} {x : DataW H × List MemPlace}
theorem elem_of_parts {v0 v1 v2 v3 : Value} {y0 y1 y2 y3 : DataW H × List MemPlace} {n : Nat} (h0 : DataW.trod enc Try.prog W base spare held n 9 [v0] = some y0) (h1 : DataW.trod enc Try.prog W base spare held n 3 [v1] = some y1) (h2 : DataW.trod enc Try.prog W base spare held n 3 [v2] = some y2) (h3 : DataW.trod enc Try.prog W base spare held n 3 [v3] = some y3) :
    ∃ e : ElemD, v0 = .string e.name ∧ v1 = .int .i64 e.family ∧ v2 = .int .i64 e.level ∧ v3 = .int .i64 e.base ∧ e.name.size ≤ maxLen := by
  obtain ⟨s, q0, _, hs⟩ := DataW.trod_string Try.underlying9 h0
  obtain ⟨a, q1, _⟩ := DataW.trod_int Try.underlying3 h1
  obtain ⟨b, q2, _⟩ := DataW.trod_int Try.underlying3 h2
  obtain ⟨c, q3, _⟩ := DataW.trod_int Try.underlying3 h3
  simp at q0 q1 q2 q3
  exact ⟨⟨s, a, b, c⟩, q0, q1, q2, q3, hs⟩
theorem open_E (hv : Value.okWide Try.prog W r b0 84 v) (h : DataW.Trod enc Try.prog W base spare held 84 v d p) : ∃ e, ElemAt W v e := by
  obtain ⟨v0, v1, v2, v3, y0, y1, y2, y3, n, rfl, _, _, h0, h1, h2, h3⟩ := open_agg4 Try.underlying84 (by kernel_rfl) (by kernel_rfl) hv h
  obtain ⟨e, rfl, rfl, rfl, rfl, hs⟩ := elem_of_parts h0 h1 h2 h3
  exact ⟨e, rfl, hs⟩
theorem elems_of_trod {fuel : Nat} (hf : DataW.trod enc Try.prog W base spare held fuel 34 [v] = some x) : ∃ es, Elems W v es := by
  have hC : Try.prog.cellsOf 84 = 4 := by kernel_rfl
  rcases open_slice Try.underlying34 hf with ⟨hcs, _⟩ | ⟨ad, len0, cap0, m, n, D, Pl, hcs, _, hl, hm, hmm, _, hi⟩
  · simp at hcs
    subst hcs
    exact ⟨[], Seq.nil _, by simp⟩
  · simp at hcs
    subst hcs
    have hge : len0 ≤ m := by rw [hmm]; split <;> omega
    have each : ∀ i : Fin len0, ∃ e : ElemD, (W.cell? (ad.add (i.1 * 4)) = some (.string e.name) ∧ W.cell? ((ad.add (i.1 * 4)).add 1) = some (.int .i64 e.family) ∧ W.cell? ((ad.add (i.1 * 4)).add 2) = some (.int .i64 e.level) ∧ W.cell? ((ad.add (i.1 * 4)).add 3) = some (.int .i64 e.base)) ∧ e.name.size ≤ maxLen := by
      intro i
      obtain ⟨cs', hc, ht'⟩ := hi i.1 (by omega)
      rw [hC] at hc
      obtain ⟨_, hcl, hat⟩ := World.cells?_some hc
      obtain ⟨y0, y1, y2, y3, n', _, _, h0, h1, h2, h3⟩ := trod_struct4 Try.underlying84 ht'
      have hS : Try.prog.cellsOf 9 = 1 := by kernel_rfl
      have hI : Try.prog.cellsOf 3 = 1 := by kernel_rfl
      match cs', hcl with
      | [x0, x1, x2, x3], _ =>
        dsimp only at h0 h1 h2 h3
        rw [hS] at h0
        rw [hI] at h1 h2 h3
        obtain ⟨e, rfl, rfl, rfl, rfl, hs⟩ := elem_of_parts (v0 := x0) (v1 := x1) (v2 := x2) (v3 := x3) h0 h1 h2 h3
        exact ⟨e, ⟨hat 0 (by omega), hat 1 (by omega), hat 2 (by omega), hat 3 (by omega)⟩, hs⟩
    refine ⟨List.ofFn fun i => Classical.choose (each i), ?_, ?_⟩
    · rw [List.length_ofFn]
      refine seq_of_cells (size := 4) hl hm (by rw [flat_length cells4 4 (fun _ => rfl)]; simp) (by omega) (fun j u hu => ?_)
      have hj : j < len0 * 4 := by
        have := (List.getElem?_eq_some_iff.1 hu).1
        rw [flat_length cells4 4 (fun _ => rfl)] at this
        simpa using this
      have hi4 : j / 4 < len0 := by omega
      have hsp := Classical.choose_spec (each ⟨j / 4, hi4⟩)
      have hz : (List.ofFn fun i => Classical.choose (each i))[j / 4]? = some (Classical.choose (each ⟨j / 4, hi4⟩)) := by
        rw [List.getElem?_ofFn, dif_pos hi4]
      have hfl := flat_get cells4 4 (fun _ => rfl) (List.ofFn fun i => Classical.choose (each i)) (j / 4) (j % 4) (by omega)
      rw [show j / 4 * 4 + j % 4 = j from by omega, hu, hz] at hfl
      have hadd : ad.add j = (ad.add (j / 4 * 4)).add (j % 4) := by
        rw [Go.Deep.add_add]
        congr 1
        omega
      rw [hadd]
      have hm4 : j % 4 = 0 ∨ j % 4 = 1 ∨ j % 4 = 2 ∨ j % 4 = 3 := by omega
      rcases hm4 with h | h | h | h <;> rw [h] at hfl ⊢
      · rw [show ∀ a : Addr, a.add 0 = a from fun a => by simp [Addr.add]]
        rw [hsp.1.1]
        simpa [cells4] using hfl.symm
      · rw [hsp.1.2.1]
        simpa [cells4] using hfl.symm
      · rw [hsp.1.2.2.1]
        simpa [cells4] using hfl.symm
      · rw [hsp.1.2.2.2]
        simpa [cells4] using hfl.symm
    · intro e he
      obtain ⟨k, hk⟩ := List.getElem?_of_mem he
      rw [List.getElem?_ofFn] at hk
      split at hk
      · rename_i hk'
        injection hk with hk
        have hsp := (Classical.choose_spec (each ⟨k, hk'⟩)).2
        rw [hk] at hsp
        exact hsp
      · cases hk
theorem open_C (hv : Value.okWide Try.prog W r b0 37 v) (h : DataW.Trod enc Try.prog W base spare held 37 v d p) : ∃ c, CodeAt W v c := by
  obtain ⟨cs, rfl, hsz⟩ := okWide_struct Try.underlying37 hv
  obtain ⟨l⟩ := cs
  have hC : Try.prog.cellsOf 37 = 6 := by kernel_rfl
  have hE : Try.prog.cellsOf 34 = 1 := by kernel_rfl
  have hL : Try.prog.cellsOf 35 = 1 := by kernel_rfl
  have hI : Try.prog.cellsOf 3 = 1 := by kernel_rfl
  match l, hsz.trans hC with
  | [c0, c1, c2, c3, c4, c5], _ =>
    obtain ⟨fuel, hf⟩ := h
    obtain ⟨xs, n, _, hx, _, hlen, hg⟩ := DataW.trod_struct Try.underlying37 hf
    match xs, hlen with
    | [y0, y1, y2, y3, y4, y5], _ =>
      have g0 : DataW.trod enc Try.prog W base spare held n 34 (List.take (Try.prog.cellsOf 34) (List.drop 0 [c0, c1, c2, c3, c4, c5])) = some y0 := hg 0 _ rfl
      rw [hE] at g0
      have g1 : DataW.trod enc Try.prog W base spare held n 35 (List.take (Try.prog.cellsOf 35) (List.drop 1 [c0, c1, c2, c3, c4, c5])) = some y1 := hg 1 _ rfl
      rw [hL] at g1
      have g2 : DataW.trod enc Try.prog W base spare held n 3 (List.take (Try.prog.cellsOf 3) (List.drop 2 [c0, c1, c2, c3, c4, c5])) = some y2 := hg 2 _ rfl
      rw [hI] at g2
      have g3 : DataW.trod enc Try.prog W base spare held n 3 (List.take (Try.prog.cellsOf 3) (List.drop 3 [c0, c1, c2, c3, c4, c5])) = some y3 := hg 3 _ rfl
      rw [hI] at g3
      have g4 : DataW.trod enc Try.prog W base spare held n 3 (List.take (Try.prog.cellsOf 3) (List.drop 4 [c0, c1, c2, c3, c4, c5])) = some y4 := hg 4 _ rfl
      rw [hI] at g4
      have g5 : DataW.trod enc Try.prog W base spare held n 3 (List.take (Try.prog.cellsOf 3) (List.drop 5 [c0, c1, c2, c3, c4, c5])) = some y5 := hg 5 _ rfl
      rw [hI] at g5
      obtain ⟨es, q0⟩ := elems_of_trod (v := c0) (x := y0) (by simpa using g0)
      obtain ⟨ls, q1⟩ := ints_of_trod (v := c1) (x := y1) (by simpa using g1)
      obtain ⟨a, q2, _⟩ := DataW.trod_int (cs := [c2]) (x := y2) Try.underlying3 (by simpa using g2)
      obtain ⟨b, q3, _⟩ := DataW.trod_int (cs := [c3]) (x := y3) Try.underlying3 (by simpa using g3)
      obtain ⟨c, q4, _⟩ := DataW.trod_int (cs := [c4]) (x := y4) Try.underlying3 (by simpa using g4)
      obtain ⟨d, q5, _⟩ := DataW.trod_int (cs := [c5]) (x := y5) Try.underlying3 (by simpa using g5)
      simp at q2 q3 q4 q5
      subst q2 q3 q4 q5
      exact ⟨⟨es, ls, a, b, c, d⟩, c0, c1, rfl, q0, q1⟩
end
end Go.Proofs.Ytapmlnpdjdneoaa
