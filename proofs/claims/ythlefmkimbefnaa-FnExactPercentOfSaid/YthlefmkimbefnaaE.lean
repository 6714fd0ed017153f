/- Contracts of chapter 1: percents. -/
import Derived.Test.YthlefmkimbefnaaC
namespace Go.Proofs.Ythlefmkimbefnaa
open Go.RowKit

def pctIn (n percent mode : Int) : Bool := inB n (-1000000) 1000000 && inB percent 0 1000 && inB mode (-1) 1
def pctOk (n percent mode : Int) : Bool := pctIn n percent mode && inB (poMd (n * percent) 100 mode) (-1000000) 1000000
def pctV (n percent mode : Int) : Int := if pctOk n percent mode then poMd (n * percent) 100 mode else 0
theorem pct_bd {n percent : Int} (h1 : inB n (-1000000) 1000000 = true) (h2 : inB percent 0 1000 = true) : -1000000000 ≤ n * percent ∧ n * percent ≤ 1000000000 := by
  have q1 := inB_true h1
  have q2 := inB_true h2
  have := mul_bd (a := n) (d := percent) (A := 1000000) (D := 1000) (by omega) (by omega) (by omega) (by omega)
  omega
theorem specPercent_any (n percent mode : Int) (w : World) :
    Calls Try.prog 22 #[.int .i64 n, .int .i64 percent, .int .i64 mode] w fun e w' => e = .returned (.tuple #[.int .i64 (pctV n percent mode), .bool (pctOk n percent mode)]) ∧ Kept w w' := by
  by_cases h1 : inB n (-1000000) 1000000 = true <;> by_cases h2 : inB percent 0 1000 = true <;> by_cases h3 : inB mode (-1) 1 = true
  · obtain ⟨q1, q2⟩ := pct_bd h1 h2
    by_cases h4 : inB (poMd (n * percent) 100 mode) (-1000000) 1000000 = true
    all_goals
      try simp only [Bool.not_eq_true] at h4
      go_enter Try.func22, Try.ntmps22
      go_wp2_with (first | (go_at_call 52; refine (poGood_any _ _).mono ?_; rintro e w' ⟨rfl, rfl⟩) | (go_at_call 53; refine (l1In_any _ _ _ _).mono ?_; rintro e w' ⟨rfl, rfl⟩) | (go_at_call 48; refine (poIsMode_any _ _).mono ?_; rintro e w' ⟨rfl, rfl⟩) | (go_at_call 49; refine (poMode_any _ _ _ _ (by omega) (by omega) (by omega) (by omega) h3).mono ?_; rintro e w' ⟨rfl, rfl⟩))
      go_ret2
      exact ⟨by simp [pctV, pctOk, pctIn, h1, h2, h3, h4], Kept.refl _⟩
  all_goals
    simp only [Bool.not_eq_true] at *
    go_enter Try.func22, Try.ntmps22
    go_wp2_with (first | (go_at_call 52; refine (poGood_any _ _).mono ?_; rintro e w' ⟨rfl, rfl⟩) | (go_at_call 53; refine (l1In_any _ _ _ _).mono ?_; rintro e w' ⟨rfl, rfl⟩) | (go_at_call 48; refine (poIsMode_any _ _).mono ?_; rintro e w' ⟨rfl, rfl⟩))
    go_ret2
    exact ⟨by simp [pctV, pctOk, pctIn, h1, h2, h3], Kept.refl _⟩
theorem all_one (x lo hi : Int) : [x].all (inB · lo hi) = inB x lo hi := by simp
theorem implPercent_any (n percent mode : Int) (w : World) :
    Calls Try.prog 23 #[.int .i64 n, .int .i64 percent, .int .i64 mode] w fun e w' => e = .returned (.tuple #[.int .i64 (pctV n percent mode), .bool (pctOk n percent mode)]) ∧ Kept w w' := by
  by_cases h1 : inB n (-1000000) 1000000 = true <;> by_cases h2 : inB percent 0 1000 = true <;> by_cases h3 : inB mode (-1) 1 = true
  · obtain ⟨q1, q2⟩ := pct_bd h1 h2
    by_cases h4 : inB (poMd (n * percent) 100 mode) (-1000000) 1000000 = true
    all_goals
      try simp only [Bool.not_eq_true] at h4
      go_enter Try.func23, Try.ntmps23
      go_wp2_with (first | (go_at_call 54; refine (arePoints_any _ [_] _ (ints_new _ _ (by simp) _ _)).mono ?_; rintro e w' ⟨rfl, rfl⟩; rw [all_one]) | (go_at_call 55; refine (within_any _ _ _ _).mono ?_; rintro e w' ⟨rfl, rfl⟩) | (go_at_call 50; refine (isMode_any _ _).mono ?_; rintro e w' ⟨rfl, rfl⟩) | (go_at_call 51; refine (roundPart_any _ _ _ _ (by omega) (by omega) (by omega) (by omega) h3).mono ?_; rintro e w' ⟨rfl, rfl⟩))
      go_ret2
      exact ⟨by simp [pctV, pctOk, pctIn, h1, h2, h3, h4], by repeat (first | exact Kept.refl _ | apply Kept.alloc)⟩
  all_goals
    simp only [Bool.not_eq_true] at *
    go_enter Try.func23, Try.ntmps23
    go_wp2_with (first | (go_at_call 54; refine (arePoints_any _ [_] _ (ints_new _ _ (by simp) _ _)).mono ?_; rintro e w' ⟨rfl, rfl⟩; rw [all_one]) | (go_at_call 55; refine (within_any _ _ _ _).mono ?_; rintro e w' ⟨rfl, rfl⟩) | (go_at_call 50; refine (isMode_any _ _).mono ?_; rintro e w' ⟨rfl, rfl⟩))
    go_ret2
    exact ⟨by simp [pctV, pctOk, pctIn, h1, h2, h3], (Kept.refl _).alloc _⟩
theorem lawPercentOf_any {w : World}  (a0 : Int) (a1 : Int) (a2 : Int) (_ : (Lit.int .i64 a0).wf = true) (_ : (Lit.int .i64 a1).wf = true) (_ : (Lit.int .i64 a2).wf = true) :
    Calls Try.prog 8 #[.int .i64 a0, .int .i64 a1, .int .i64 a2] w fun e w' => e = .returned (.bool true) ∧ Kept w w' := by
  go_enter Try.func8, Try.ntmps8
  go_wp2_with fail
  refine (specPercent_any _ _ _ _ ).mono ?_
  rintro e w1 ⟨rfl, k1⟩
  have K1 := k1
  go_wp2_with fail
  refine (implPercent_any _ _ _ _ ).mono ?_
  rintro e w2 ⟨rfl, k2⟩
  have K2 := K1.trans k2
  go_wp2_with fail
  go_ret
  exact ⟨rfl, K2⟩
end Go.Proofs.Ythlefmkimbefnaa
