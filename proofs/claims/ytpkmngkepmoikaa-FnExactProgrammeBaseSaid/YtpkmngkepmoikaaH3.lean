/- Codes copied. -/
import Derived.Test.YtpkmngkepmoikaaH2
import Derived.Deep.DeepCutAuto
namespace Go.Proofs.Ytpkmngkepmoikaa
set_option linter.unusedVariables false
set_option linter.unusedSimpArgs false
open Go.RowKit

set_option maxHeartbeats 8000000 in
theorem toCode_any (v : Value) (x : CodeD) (w : World) (h : CodeAt w v x) (hn : x.elems.length ≤ 1048576) (hm : x.limits.length ≤ 1048576) :
    Calls Try.prog 11 #[v] w fun e w' => ∃ v', e = .returned v' ∧ OwnK w' w.heap.size v' x ∧ Kept w w' := by
  obtain ⟨nv, mv, rfl, h1, h2⟩ := h
  have H1 := Lib.hid h1
  have H2 := Lib.hid h2
  clear h1 h2
  go_enter Try.func11, Try.ntmps11
  go_wp2_with fail
  refine (toElementS_any _ _ _ (H1.out.kept (((((Kept.refl w).alloc _).alloc _).alloc _))) hn).mono ?_
  rintro e w1 ⟨v1, rfl, o1, k1⟩
  obtain ⟨A1, c1, rfl, _, _, _⟩ := own_form o1.1
  have B0 := (((Box.new w w.heap.size 25 #[nv, mv, .int .i64 x.repeats, .int .i64 x.bonus, .int .i64 x.keeps, .int .i64 x.fall] rfl).alloc _).alloc _).kept k1
  have B1 := ((Box.new (w.alloc (.cells #[nv, mv, .int .i64 x.repeats, .int .i64 x.bonus, .int .i64 x.keeps, .int .i64 x.fall] 25)) (w.heap.size + 1) 32 #[.slice none 0 0, .slice none 0 0, .int .i64 0, .int .i64 0, .int .i64 0, .int .i64 0] (by simp)).alloc _).kept k1
  have B2 := (Box.new ((w.alloc (.cells #[nv, mv, .int .i64 x.repeats, .int .i64 x.bonus, .int .i64 x.keeps, .int .i64 x.fall] 25)).alloc (.cells #[.slice none 0 0, .slice none 0 0, .int .i64 0, .int .i64 0, .int .i64 0, .int .i64 0] 32)) (w.heap.size + 1 + 1) 32 #[.slice none 0 0, .slice none 0 0, .int .i64 0, .int .i64 0, .int .i64 0, .int .i64 0] (by simp)).kept k1
  have K1 : Kept w w1 := ((((Kept.refl w).alloc _).alloc _).alloc _).trans k1
  have hz1 : w.heap.size + 1 + 1 < w1.heap.size := B2.lt
  have O1 := Lib.hid o1
  obtain ⟨c0, f0⟩ := B0.six
  obtain ⟨c1', f1⟩ := B1.six
  obtain ⟨c2', f2⟩ := B2.six
  clear o1 k1
  go_wp2_with fail
  clear c0 f0 c1' f1 c2' f2
  refine (toIntS_any _ _ _ (H2.out.kept (K1.setCell (by simp; omega) _)) hm).mono ?_
  rintro e w2 ⟨v2, rfl, o2, k2⟩
  obtain ⟨A2, c2, rfl, _, _, _⟩ := own_form o2
  have K2 : Kept w w2 := (K1.setCell (by simp; omega) _).trans k2
  replace B0 := (B0.far ⟨w.heap.size + 1 + 1, 0, none⟩ (by dsimp only; omega) _).kept k2
  replace B1 := (B1.far ⟨w.heap.size + 1 + 1, 0, none⟩ (by dsimp only; omega) _).kept k2
  replace B2 := (B2.set 0 _).kept k2
  have O2 := Lib.hid o2
  obtain ⟨c0, f0⟩ := B0.six
  obtain ⟨c1', f1⟩ := B1.six
  obtain ⟨c2', f2⟩ := B2.six
  clear o2
  go_upto_region 8 with (fail)
  clear c0 f0 c1' f1 c2' f2
  obtain ⟨w3, hw3⟩ : ∃ w3, w3 = (((((w2.setCell ⟨w.heap.size + 1 + 1, 1, none⟩ (.slice A2 x.limits.length c2)).setCell ⟨w.heap.size + 1 + 1, 2, none⟩ (.int .i64 x.repeats)).setCell ⟨w.heap.size + 1 + 1, 3, none⟩ (.int .i64 x.bonus)).setCell ⟨w.heap.size + 1 + 1, 4, none⟩ (.int .i64 x.keeps)).setCell ⟨w.heap.size + 1 + 1, 5, none⟩ (.int .i64 x.fall)) := ⟨_, rfl⟩
  rw [← hw3]
  replace B1 : Box w3 _ _ _ := hw3 ▸ (((((B1.far ⟨w.heap.size + 1 + 1, 1, none⟩ (by dsimp only; omega) (.slice A2 x.limits.length c2)).far ⟨w.heap.size + 1 + 1, 2, none⟩ (by dsimp only; omega) (.int .i64 x.repeats)).far ⟨w.heap.size + 1 + 1, 3, none⟩ (by dsimp only; omega) (.int .i64 x.bonus)).far ⟨w.heap.size + 1 + 1, 4, none⟩ (by dsimp only; omega) (.int .i64 x.keeps)).far ⟨w.heap.size + 1 + 1, 5, none⟩ (by dsimp only; omega) (.int .i64 x.fall))
  replace B2 : Box w3 _ _ _ := hw3 ▸ (((((B2.set 1 (.slice A2 x.limits.length c2)).set 2 (.int .i64 x.repeats)).set 3 (.int .i64 x.bonus)).set 4 (.int .i64 x.keeps)).set 5 (.int .i64 x.fall))
  have Q3 : Only [w.heap.size + 1 + 1] w2 w3 := by
    rw [hw3]
    repeat (refine Only.setCell ?_ (by simp) _)
    exact Only.refl _ _
  clear hw3 B0
  obtain ⟨c1', f1⟩ := B1.six
  obtain ⟨c2', f2⟩ := B2.six
  go_wp2_with fail
  refine bodyPost_ret (v := .agg #[.slice A1 x.elems.length c1, .slice A2 x.limits.length c2, .int .i64 x.repeats, .int .i64 x.bonus, .int .i64 x.keeps, .int .i64 x.fall]) (by simp [results, Try.results11, go_sem, c1', c2', f1, f2]) rfl ⟨_, rfl, ⟨_, _, rfl, ?_, ?_, ?_⟩, ?_⟩
  · refine (fun q : Only [w.heap.size + 1, w.heap.size + 1 + 1] _ _ => ⟨own_far (S := [w.heap.size + 1, w.heap.size + 1 + 1]) O1.out.1 q (by simp <;> omega) (by simp <;> omega), O1.out.2⟩) ?_
    repeat (refine Only.setCell ?_ (by simp) _)
    exact Only.trans (Only.trans (Only.setCell (Only.refl _ _) (by simp) _) (k2.only _)) (Q3.mono (by simp))
  · refine own_far (S := [w.heap.size + 1, w.heap.size + 1 + 1]) O2.out ?_ (by have := K1.size; simp <;> omega) (by have := K1.size; simp <;> omega)
    repeat (refine Only.setCell ?_ (by simp) _)
    exact Q3.mono (by simp)
  · rw [fpA_code]
    exact nodup_fp (m := w1.heap.size) (fun x hx => (own_fp O1.out.1 x hx).2) (fun x hx => by have := (own_fp O2.out x hx).1; simpa using this)
  · repeat (refine Kept.setCell ?_ (by dsimp only; omega) _)
    exact Q3.above K2 (by simp; omega)
end Go.Proofs.Ytpkmngkepmoikaa
