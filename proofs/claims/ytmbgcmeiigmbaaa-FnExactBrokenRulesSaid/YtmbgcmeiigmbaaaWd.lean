/- Items over a code: full bases. -/
import Derived.Test.YtmbgcmeiigmbaaaWc
import Derived.Test.YtmbgcmeiigmbaaaRd
import Derived.Test.YtmbgcmeiigmbaaaAp2
import Derived.IntWalk
namespace Go.Proofs.Ytmbgcmeiigmbaaa
open Go.RowKit

theorem wsV_small {x : CodeD} {it : ItemD} (hx : codeB x = true) (hk : knI x it = true) : (wsV x it).all (inB · (-1000000) 1000000) = true := by
  rw [List.all_eq_true]
  intro z hz
  have := wsV_bd hx hk z hz
  exact inB_of (by omega) (by omega)
theorem fullV_late {x : CodeD} {it : ItemD} (h : it.late = true) : fullV x it = lateV (sumV x it) x.bonus := by unfold fullV; rw [if_pos h]
theorem fullV_early {x : CodeD} {it : ItemD} (h : it.late = false) : fullV x it = sumV x it := by unfold fullV; rw [h]; rfl
/-- the row [z] just built -/
theorem ints_new (w : World) (z : Int) : Ints (w.alloc (.cells #[.int .i64 z] 3)) (.slice (some ⟨w.heap.size, 0, none⟩) 1 1) [z] := by
  refine ⟨_, 1, rfl, Nat.le_refl _, by decide, (fun h => by cases h), fun _ => ⟨w.heap.size, 0, rfl, by simp, fun j u hu => ?_⟩⟩
  rcases j with _ | j
  · simp at hu
    subst hu
    exact (Box.new w _ _ _ rfl).cell 0
  · simp at hu
end Go.Proofs.Ytmbgcmeiigmbaaa
