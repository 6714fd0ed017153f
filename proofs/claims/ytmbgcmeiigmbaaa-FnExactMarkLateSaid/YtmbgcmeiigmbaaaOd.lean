/- Lists of items copied; marks cleared, late ones set. -/
import Derived.Test.YtmbgcmeiigmbaaaOc
import Derived.Test.YtmbgcmeiigmbaaaS
import Derived.Deep.RegionHeld3
import Derived.Deep.DeepCutAuto
namespace Go.Proofs.Ytmbgcmeiigmbaaa
open Go.RowKit

theorem l1OwnI_any (v : Value) (zs : List Int) (w : World) (h : Ints w v zs) (hn : zs.length ≤ 1048576) :
    Calls Try.prog 136 #[v] w fun e w' => ∃ v', e = .returned v' ∧ OwnI w' w.heap.size v' zs ∧ Kept w w' := by
  have H := Lib.hid h
  clear h
  go_enter Try.func136, Try.ntmps136
  go_wp2_with (at_builtin; refine wpList_append_I _ rfl _ _ rfl w.heap.size _ [] rfl (own_made _ _ 1 (Nat.le_refl _) (Box.new _ _ _ _ rfl)) _ zs rfl (H.out.kept ((Kept.refl _).alloc _)) (by simp; omega) (by simp) ?_; intro v' w' ho' hg)
  have kg := ((Kept.refl w).alloc (.cells #[] 3)).grew (own_made (base := w.heap.size) _ _ 1 (Nat.le_refl _) (Box.new _ _ _ _ rfl)) hg (Nat.le_refl _)
  go_ret
  exact ⟨_, rfl, ho', kg⟩
theorem copyIntsI_any (v : Value) (zs : List Int) (w : World) (h : Ints w v zs) (hn : zs.length ≤ 1048576) :
    Calls Try.prog 56 #[v] w fun e w' => ∃ v', e = .returned v' ∧ OwnI w' w.heap.size v' zs ∧ Kept w w' := by
  have H := Lib.hid h
  clear h
  go_enter Try.func56, Try.ntmps56
  go_wp2_with (at_builtin; refine wpList_append_I _ rfl _ _ rfl w.heap.size _ [] rfl (own_made _ _ 1 (Nat.le_refl _) (Box.new _ _ _ _ rfl)) _ zs rfl (H.out.kept ((Kept.refl _).alloc _)) (by simp; omega) (by simp) ?_; intro v' w' ho' hg)
  have kg := ((Kept.refl w).alloc (.cells #[] 3)).grew (own_made (base := w.heap.size) _ _ 1 (Nat.le_refl _) (Box.new _ _ _ _ rfl)) hg (Nat.le_refl _)
  go_ret
  exact ⟨_, rfl, ho', kg⟩
theorem l1OwnS_any (v : Value) (zs : List ByteArray) (w : World) (h : Strs w v zs) (hn : zs.length ≤ 1048576) :
    Calls Try.prog 96 #[v] w fun e w' => ∃ v', e = .returned v' ∧ OwnS w' w.heap.size v' zs ∧ Kept w w' := by
  have H := Lib.hid h
  clear h
  go_enter Try.func96, Try.ntmps96
  go_wp2_with (at_builtin; refine wpList_append_S _ rfl _ _ rfl w.heap.size _ [] rfl ⟨own_made _ _ 1 (Nat.le_refl _) (Box.new _ _ _ _ rfl), (fun _ h => by cases h)⟩ _ zs rfl (H.out.kept ((Kept.refl _).alloc _)) (by simp; omega) (by simp) ?_; intro v' w' ho' hg)
  have kg := ((Kept.refl w).alloc (.cells #[] 9)).grew (own_made (base := w.heap.size) _ _ 1 (Nat.le_refl _) (Box.new _ _ _ _ rfl)) hg (Nat.le_refl _)
  go_ret
  exact ⟨_, rfl, ho', kg⟩
set_option maxRecDepth 100000 in
set_option maxHeartbeats 4000000 in
theorem copyItem_any (v : Value) (it : ItemD) (w : World) (h : ItemAt w v it) (hn : it.names.length ≤ 1048576) (hm : it.marks.length ≤ 1048576) :
    Calls Try.prog 135 #[v] w fun e w' => ∃ v', e = .returned v' ∧ OwnT w' w.heap.size v' it ∧ Kept w w' := by
  obtain ⟨nv, mv, rfl, q1, q2⟩ := h
  obtain ⟨A, c, rfl, hnc, hcm, hl⟩ := q1.1.out
  obtain ⟨A2, c2, rfl, _, _, _⟩ := q2.out
  have H1 := Lib.hid q1
  have H2 := Lib.hid q2
  clear q1 q2 hl
  go_enter Try.func135, Try.ntmps135
  go_wp2_with fail
  have B0 := (Box.new w w.heap.size 64 #[.slice A it.names.length c, .slice A2 it.marks.length c2, .bool it.late] rfl).alloc (.cells #[.slice none 0 0, .slice none 0 0, .bool false] 64)
  have B1 := Box.new (w.alloc (.cells #[.slice A it.names.length c, .slice A2 it.marks.length c2, .bool it.late] 64)) (w.heap.size + 1) 64 #[.slice none 0 0, .slice none 0 0, .bool false] (by simp)
  have K0 : Kept w ((w.alloc (.cells #[.slice A it.names.length c, .slice A2 it.marks.length c2, .bool it.late] 64)).alloc (.cells #[.slice none 0 0, .slice none 0 0, .bool false] 64)) := ((Kept.refl w).alloc _).alloc _
  generalize (w.alloc (.cells #[.slice A it.names.length c, .slice A2 it.marks.length c2, .bool it.late] 64)).alloc (.cells #[.slice none 0 0, .slice none 0 0, .bool false] 64) = w0 at *
  replace B0 : Box w0.drew w.heap.size 64 _ := B0
  have hz0 : w.heap.size + 1 < w0.heap.size := B1.lt
  have B1d : Box w0.drew (w.heap.size + 1) 64 #[.slice none 0 0, .slice none 0 0, .bool false] := B1
  have K0d : Kept w w0.drew := K0.drew
  have B0a : Box (w0.alloc (.cells #[] 9)).drew w.heap.size 64 #[.slice A it.names.length c, .slice A2 it.marks.length c2, .bool it.late] := B0.alloc _
  clear B1
  go_region_held3 (fun w' => w'.cell? ⟨w.heap.size, 0, none⟩ = some (.slice A it.names.length c) ∧ w'.cell? ⟨w.heap.size, 1, none⟩ = some (.slice A2 it.marks.length c2) ∧ w'.cell? ⟨w.heap.size, 2, none⟩ = some (.bool it.late)) (first | (with_reducible exact B0.three.1) | (with_reducible exact B0a.three.1) | (with_reducible exact (B0.kept (by assumption)).three.1) | (with_reducible exact (Box.far3 (B0.kept (by assumption)) (by omega) _ _ _).three.1))
    (first | (refine step_append_S _ rfl _ _ rfl w0.drew.heap.size _ [] rfl ⟨own_made _ _ 1 (Nat.le_refl _) (Box.new _ _ _ _ rfl), (fun _ h => by cases h)⟩ _ it.names rfl (H1.out.kept (K0d.alloc _)) (by simp; omega) (by simp) ?_; intro v1 w1 o1 hg1; have k1 := ((Kept.refl w0.drew).alloc (.cells #[] 9)).grew (own_made (base := w0.drew.heap.size) _ _ 1 (Nat.le_refl _) (Box.new _ _ _ _ rfl)) hg1 (Nat.le_refl _); clear hg1; obtain ⟨A1, c1, rfl, _, _, _⟩ := own_form o1.1; have O1 := Lib.hid o1; clear o1) | (go_at_call 56; refine (copyIntsI_any _ it.marks _ (H2.out.kept (K0d.trans k1)) hm).mono ?_; rintro e w2 ⟨v2, rfl, o2, k2⟩; have k12 := k1.trans k2; obtain ⟨A3, c3, rfl, _, _, _⟩ := own_form o2; have O2 := Lib.hid o2; clear o2; obtain ⟨cc, ff⟩ := (B1d.kept k12).three))
  rename_i hheld
  clear hheld cc ff
  obtain ⟨w3, hw3, B3, Q3⟩ := set3 (B1d.kept k12) (.slice A1 it.names.length c1) (.slice A3 it.marks.length c3) (.bool it.late)
  rw [← hw3]
  clear hw3
  obtain ⟨cc, ff⟩ := B3.three
  go_wp2_with fail
  have hz1 := k1.size
  have hz2 := k2.size
  have hzd : w0.drew.heap.size = w0.heap.size := rfl
  refine bodyPost_ret (v := .agg #[.slice A1 it.names.length c1, .slice A3 it.marks.length c3, .bool it.late]) (by simp [results, Try.results135, go_sem, cc, ff]) rfl ⟨_, rfl, ⟨_, _, rfl, ?_, ?_, ?_⟩, ?_⟩
  · exact OwnS.far (S := [w.heap.size + 1]) (O1.out.kept k2) Q3 (by simp; omega) (by omega)
  · exact OwnI.far (S := [w.heap.size + 1]) O2.out Q3 (by simp; omega) (by omega)
  · rw [fpA_item]
    exact nodup_fp (m := w1.heap.size) (fun y hy => (own_fp O1.out.1 y hy).2) (fun y hy => (own_fp O2.out y hy).1)
  · exact Q3.above (K0d.trans k12) (by simp)
end Go.Proofs.Ytmbgcmeiigmbaaa
