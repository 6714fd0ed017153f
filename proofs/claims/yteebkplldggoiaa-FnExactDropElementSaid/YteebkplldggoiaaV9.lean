/- Codes copied by the reference and by the program. -/
import Derived.Test.YteebkplldggoiaaV6
import Derived.Test.YteebkplldggoiaaApE
namespace Go.Proofs.Yteebkplldggoiaa
open Go.RowKit

theorem Box.far6 {w : World} {b g : Nat} {t : TypeId} {cs : Array Value} (h : Box w b t cs) (hne : b ≠ g) (u0 u1 u2 u3 u4 u5 : Value) :
    Box ((((((w.setCell ⟨g, 0, none⟩ u0).setCell ⟨g, 1, none⟩ u1).setCell ⟨g, 2, none⟩ u2).setCell ⟨g, 3, none⟩ u3).setCell ⟨g, 4, none⟩ u4).setCell ⟨g, 5, none⟩ u5) b t cs :=
  (((((h.far ⟨g, 0, none⟩ hne u0).far ⟨g, 1, none⟩ hne u1).far ⟨g, 2, none⟩ hne u2).far ⟨g, 3, none⟩ hne u3).far ⟨g, 4, none⟩ hne u4).far ⟨g, 5, none⟩ hne u5
theorem set6 {w : World} {g : Nat} {t : TypeId} {x0 x1 x2 x3 x4 x5 : Value} (h : Box w g t #[x0, x1, x2, x3, x4, x5]) (u0 u1 u2 u3 u4 u5 : Value) :
    ∃ w3, w3 = ((((((w.setCell ⟨g, 0, none⟩ u0).setCell ⟨g, 1, none⟩ u1).setCell ⟨g, 2, none⟩ u2).setCell ⟨g, 3, none⟩ u3).setCell ⟨g, 4, none⟩ u4).setCell ⟨g, 5, none⟩ u5) ∧ Box w3 g t #[u0, u1, u2, u3, u4, u5] ∧ Only [g] w w3 := by
  refine ⟨_, rfl, (((((h.set 0 u0).set 1 u1).set 2 u2).set 3 u3).set 4 u4).set 5 u5, ?_⟩
  repeat (refine Only.setCell ?_ (by simp) _)
  exact Only.refl _ _
theorem l1Own_any (v : Value) (zs : List Int) (w : World) (h : Ints w v zs) (hn : zs.length ≤ 1048576) :
    Calls Try.prog 89 #[v] w fun e w' => ∃ v', e = .returned v' ∧ OwnI w' w.heap.size v' zs ∧ Kept w w' := by
  have H := Lib.hid h
  clear h
  go_enter Try.func89, Try.ntmps89
  go_wp2_with (at_builtin; refine wpList_append_I _ rfl _ _ rfl w.heap.size _ [] rfl (own_made _ _ 1 (Nat.le_refl _) (Box.new _ _ _ _ rfl)) _ zs rfl (H.out.kept ((Kept.refl _).alloc _)) (by simp; omega) (by simp) ?_; intro v' w' ho' hg)
  have kg := ((Kept.refl w).alloc (.cells #[] 3)).grew (own_made (base := w.heap.size) _ _ 1 (Nat.le_refl _) (Box.new _ _ _ _ rfl)) hg (Nat.le_refl _)
  go_ret
  exact ⟨_, rfl, ho', kg⟩
theorem copyInts_any (v : Value) (zs : List Int) (w : World) (h : Ints w v zs) (hn : zs.length ≤ 1048576) :
    Calls Try.prog 90 #[v] w fun e w' => ∃ v', e = .returned v' ∧ OwnI w' w.heap.size v' zs ∧ Kept w w' := by
  have H := Lib.hid h
  clear h
  go_enter Try.func90, Try.ntmps90
  go_wp2_with (at_builtin; refine wpList_append_I _ rfl _ _ rfl w.heap.size _ [] rfl (own_made _ _ 1 (Nat.le_refl _) (Box.new _ _ _ _ rfl)) _ zs rfl (H.out.kept ((Kept.refl _).alloc _)) (by simp; omega) (by simp) ?_; intro v' w' ho' hg)
  have kg := ((Kept.refl w).alloc (.cells #[] 3)).grew (own_made (base := w.heap.size) _ _ 1 (Nat.le_refl _) (Box.new _ _ _ _ rfl)) hg (Nat.le_refl _)
  go_ret
  exact ⟨_, rfl, ho', kg⟩
set_option maxHeartbeats 4000000 in
theorem cdOwn_any (v : Value) (x : CodeD) (w : World) (h : CodeAt w v x) (hn : x.elems.length ≤ 1048576) (hm : x.limits.length ≤ 1048576) :
    Calls Try.prog 70 #[v] w fun e w' => ∃ v', e = .returned v' ∧ OwnK w' w.heap.size v' x ∧ Kept w w' := by
  obtain ⟨nv, mv, rfl, q1, q2⟩ := h
  obtain ⟨A, c, rfl, hnc, hcm, hl⟩ := q1.1.out
  obtain ⟨A2, c2, rfl, _, _, _⟩ := q2.out
  have H1 := Lib.hid q1
  have H2 := Lib.hid q2
  clear q1 q2 hl
  go_enter Try.func70, Try.ntmps70
  go_wp2_with fail
  have B0 := (Box.new w w.heap.size 30 #[.slice A x.elems.length c, .slice A2 x.limits.length c2, .int .i64 x.repeats, .int .i64 x.bonus, .int .i64 x.keeps, .int .i64 x.fall] rfl).alloc (.cells #[.slice none 0 0, .slice none 0 0, .int .i64 0, .int .i64 0, .int .i64 0, .int .i64 0] 30)
  have B1 := Box.new (w.alloc (.cells #[.slice A x.elems.length c, .slice A2 x.limits.length c2, .int .i64 x.repeats, .int .i64 x.bonus, .int .i64 x.keeps, .int .i64 x.fall] 30)) (w.heap.size + 1) 30 #[.slice none 0 0, .slice none 0 0, .int .i64 0, .int .i64 0, .int .i64 0, .int .i64 0] (by simp)
  have K0 : Kept w ((w.alloc (.cells #[.slice A x.elems.length c, .slice A2 x.limits.length c2, .int .i64 x.repeats, .int .i64 x.bonus, .int .i64 x.keeps, .int .i64 x.fall] 30)).alloc (.cells #[.slice none 0 0, .slice none 0 0, .int .i64 0, .int .i64 0, .int .i64 0, .int .i64 0] 30)) := ((Kept.refl w).alloc _).alloc _
  generalize (w.alloc (.cells #[.slice A x.elems.length c, .slice A2 x.limits.length c2, .int .i64 x.repeats, .int .i64 x.bonus, .int .i64 x.keeps, .int .i64 x.fall] 30)).alloc (.cells #[.slice none 0 0, .slice none 0 0, .int .i64 0, .int .i64 0, .int .i64 0, .int .i64 0] 30) = w0 at *
  replace B0 : Box w0.drew w.heap.size 30 _ := B0
  have hz0 : w.heap.size + 1 < w0.heap.size := B1.lt
  have B1d : Box w0.drew (w.heap.size + 1) 30 #[.slice none 0 0, .slice none 0 0, .int .i64 0, .int .i64 0, .int .i64 0, .int .i64 0] := B1
  have K0d : Kept w w0.drew := K0.drew
  have B0a : Box (w0.alloc (.cells #[] 53)).drew w.heap.size 30 #[.slice A x.elems.length c, .slice A2 x.limits.length c2, .int .i64 x.repeats, .int .i64 x.bonus, .int .i64 x.keeps, .int .i64 x.fall] := B0.alloc _
  clear B1
  go_region_held3 (fun w' => w'.cell? ⟨w.heap.size, 0, none⟩ = some (.slice A x.elems.length c) ∧ w'.cell? ⟨w.heap.size, 1, none⟩ = some (.slice A2 x.limits.length c2) ∧ w'.cell? ⟨w.heap.size, 2, none⟩ = some (.int .i64 x.repeats) ∧ w'.cell? ⟨w.heap.size, 3, none⟩ = some (.int .i64 x.bonus) ∧ w'.cell? ⟨w.heap.size, 4, none⟩ = some (.int .i64 x.keeps) ∧ w'.cell? ⟨w.heap.size, 5, none⟩ = some (.int .i64 x.fall)) (first | (with_reducible exact B0.six.1) | (with_reducible exact B0a.six.1) | (with_reducible exact (B0.kept (by assumption)).six.1) | (with_reducible exact (Box.far6 (B0.kept (by assumption)) (by omega) _ _ _ _ _ _).six.1))
    (first | (refine step_append_E _ rfl _ _ rfl w0.drew.heap.size _ [] rfl ⟨own_made _ _ 4 (Nat.le_refl _) (Box.new _ _ _ _ rfl), (fun _ h => by cases h)⟩ _ x.elems rfl (H1.out.kept (K0d.alloc _)) (by simp; omega) (by simp) ?_; intro v1 w1 o1 hg1; have k1 := ((Kept.refl w0.drew).alloc (.cells #[] 53)).grew (own_made (base := w0.drew.heap.size) _ _ 4 (Nat.le_refl _) (Box.new _ _ _ _ rfl)) hg1 (Nat.le_refl _); clear hg1; obtain ⟨A1, c1, rfl, _, _, _⟩ := own_form o1.1; have O1 := Lib.hid o1; clear o1) | (go_at_call 89; refine (l1Own_any _ x.limits _ (H2.out.kept (K0d.trans k1)) hm).mono ?_; rintro e w2 ⟨v2, rfl, o2, k2⟩; have k12 := k1.trans k2; obtain ⟨A3, c3, rfl, _, _, _⟩ := own_form o2; have O2 := Lib.hid o2; clear o2; obtain ⟨cc, ff⟩ := (B1d.kept k12).six))
  rename_i hheld
  clear hheld cc ff
  obtain ⟨w3, hw3, B3, Q3⟩ := set6 (B1d.kept k12) (.slice A1 x.elems.length c1) (.slice A3 x.limits.length c3) (.int .i64 x.repeats) (.int .i64 x.bonus) (.int .i64 x.keeps) (.int .i64 x.fall)
  rw [← hw3]
  clear hw3
  obtain ⟨cc, ff⟩ := B3.six
  go_wp2_with fail
  have hz1 := k1.size
  have hz2 := k2.size
  have hzd : w0.drew.heap.size = w0.heap.size := rfl
  refine bodyPost_ret (v := .agg #[.slice A1 x.elems.length c1, .slice A3 x.limits.length c3, .int .i64 x.repeats, .int .i64 x.bonus, .int .i64 x.keeps, .int .i64 x.fall]) (by simp [results, Try.results70, go_sem, cc, ff]) rfl ⟨_, rfl, ⟨_, _, rfl, ?_, ?_, ?_⟩, ?_⟩
  · exact OwnE.far (S := [w.heap.size + 1]) (O1.out.kept k2) Q3 (by simp; omega) (by omega)
  · exact OwnI.far (S := [w.heap.size + 1]) O2.out Q3 (by simp; omega) (by omega)
  · rw [fpA_code]
    exact nodup_fp (m := w1.heap.size) (fun y hy => (own_fp O1.out.1 y hy).2) (fun y hy => (own_fp O2.out y hy).1)
  · exact Q3.above (K0d.trans k12) (by simp)
end Go.Proofs.Yteebkplldggoiaa
