/- Contracts of the functions of chapter 1 that compute with numbers alone. -/
import Derived.Test.YthlefmkimbefnaaProg
import Derived.WalkKit
import Derived.WalkLawsBesides
import Derived.WalkSpells
import Derived.LoopTactic
import Derived.RegionTactic
import Derived.Deep.QuietTactic
import Derived.BigQuiet
import Derived.Handy
import Derived.Outline
import Derived.Below
import Derived.Lib.Hide
namespace Go.Proofs.Ythlefmkimbefnaa
open Go.RowKit

/-! ### what is kept -/
def Kept (w w' : World) : Prop := Below w.heap.size w w'
theorem Kept.refl (w : World) : Kept w w := Below.refl _ _
theorem Kept.trans {a b c : World} (h : Kept a b) (k : Kept b c) : Kept a c := Below.trans h (Below.mono k h.size)
theorem Kept.drew {a b : World} (h : Kept a b) : Kept a b.drew := Below.drew h
theorem Kept.drewN {a b : World} (h : Kept a b) (n : Nat) : Kept a (b.drewN n) := ⟨h.os, h.tape, h.output, h.size, h.block⟩
theorem Kept.alloc {a b : World} (h : Kept a b) (o : Obj) : Kept a (b.alloc o) := Below.alloc h h.size o
theorem Kept.setCell {a b : World} (h : Kept a b) {p : Addr} (hp : a.heap.size ≤ p.block) (u : Value) : Kept a (b.setCell p u) := Below.setCell h hp u
theorem Kept.cell {a b : World} (h : Kept a b) {p : Addr} (hp : p.block < a.heap.size) : b.cell? p = a.cell? p := Below.cell h hp
theorem ret_int {k : IntKind} {a b : Int} (h : a = b) : Ending.returned (.int k a) = .returned (.int k b) := by rw [h]

/-! ### plain functions -/
def inB (n lo hi : Int) : Bool := decide (lo ≤ n) && decide (n ≤ hi)
theorem inB_true {n lo hi : Int} (h : inB n lo hi = true) : lo ≤ n ∧ n ≤ hi := by simpa [inB] using h
theorem inB_of {n lo hi : Int} (h1 : lo ≤ n) (h2 : n ≤ hi) : inB n lo hi = true := by simp [inB, h1, h2]
def partB (a b : Int) : Bool := inB a (-1000000000000) 1000000000000 && inB b 1 1000000
theorem partB_true {a b : Int} (h : partB a b = true) : -1000000000000 ≤ a ∧ a ≤ 1000000000000 ∧ 1 ≤ b ∧ b ≤ 1000000 := by
  unfold partB at h
  rw [Bool.and_eq_true] at h
  have h1 := inB_true h.1
  have h2 := inB_true h.2
  exact ⟨h1.1, h1.2, h2.1, h2.2⟩
def sgn (n : Int) : Int := if 0 < n then 1 else if n < 0 then -1 else 0
def poMd (a b mode : Int) : Int := if mode = -1 then a / b else if mode = 0 then (2 * a + b) / (2 * b) else -(-a / b)

/-! ### walks -/
theorem l1In_any (n lo hi : Int) (w : World) :
    Calls Try.prog 53 #[.int .i64 n, .int .i64 lo, .int .i64 hi] w fun e w' => e = .returned (.bool (inB n lo hi)) ∧ w = w' := by
  go_enter Try.func53, Try.ntmps53
  go_wp2
  all_goals
    go_ret
    refine ⟨?_, rfl⟩
    simp [inB]
    try omega
theorem within_any (n lo hi : Int) (w : World) :
    Calls Try.prog 55 #[.int .i64 n, .int .i64 lo, .int .i64 hi] w fun e w' => e = .returned (.bool (inB n lo hi)) ∧ w = w' := by
  go_enter Try.func55, Try.ntmps55
  go_wp2
  all_goals
    go_ret
    refine ⟨?_, rfl⟩
    simp [inB]
    try omega
theorem poPart_any (a b : Int) (w : World) :
    Calls Try.prog 42 #[.int .i64 a, .int .i64 b] w fun e w' => e = .returned (.bool (partB a b)) ∧ w = w' := by
  go_enter Try.func42, Try.ntmps42
  go_wp2_with (go_at_call 53; refine (l1In_any _ _ _ _).mono ?_; rintro e w' ⟨rfl, rfl⟩)
  all_goals
    go_ret
    exact ⟨by simp [partB, *], rfl⟩
theorem isPart_any (a b : Int) (w : World) :
    Calls Try.prog 44 #[.int .i64 a, .int .i64 b] w fun e w' => e = .returned (.bool (partB a b)) ∧ w = w' := by
  go_enter Try.func44, Try.ntmps44
  go_wp2_with (go_at_call 55; refine (within_any _ _ _ _).mono ?_; rintro e w' ⟨rfl, rfl⟩)
  all_goals
    go_ret
    exact ⟨by simp [partB, *], rfl⟩
theorem l1Sign_any (n : Int) (w : World) :
    Calls Try.prog 43 #[.int .i64 n] w fun e w' => e = .returned (.int .i64 (sgn n)) ∧ w = w' := by
  go_enter Try.func43, Try.ntmps43
  go_wp2
  all_goals
    go_ret
    exact ⟨ret_int (by unfold sgn; split <;> (try split) <;> omega), rfl⟩
theorem signOf_any (n : Int) (w : World) :
    Calls Try.prog 45 #[.int .i64 n] w fun e w' => e = .returned (.int .i64 (sgn n)) ∧ w = w' := by
  go_enter Try.func45, Try.ntmps45
  go_wp2
  all_goals
    go_ret
    exact ⟨ret_int (by unfold sgn; split <;> (try split) <;> omega), rfl⟩
def cmpV (a b c d : Int) : Int := if partB a b && partB c d then sgn (a * d - c * b) else 0
theorem mul_bd {a d A D : Int} (h1 : -A ≤ a) (h2 : a ≤ A) (h3 : 0 ≤ d) (h4 : d ≤ D) : -(A * D) ≤ a * d ∧ a * d ≤ A * D := by
  have hA : 0 ≤ A := by omega
  constructor
  · have q1 : -A * d ≤ a * d := Int.mul_le_mul_of_nonneg_right h1 h3
    have q2 : A * d ≤ A * D := Int.mul_le_mul_of_nonneg_left h4 hA
    rw [Int.neg_mul] at q1
    omega
  · have q1 : a * d ≤ A * d := Int.mul_le_mul_of_nonneg_right h2 h3
    have q2 : A * d ≤ A * D := Int.mul_le_mul_of_nonneg_left h4 hA
    omega
theorem part_mul {a b c d : Int} (h1 : partB a b = true) (h2 : partB c d = true) : -1000000000000000000 ≤ a * d ∧ a * d ≤ 1000000000000000000 := by
  have q1 := partB_true h1
  have q2 := partB_true h2
  have := mul_bd (a := a) (d := d) (A := 1000000000000) (D := 1000000) (by omega) (by omega) (by omega) (by omega)
  omega
theorem specCompare_any (a b c d : Int) (w : World) :
    Calls Try.prog 14 #[.int .i64 a, .int .i64 b, .int .i64 c, .int .i64 d] w fun e w' => e = .returned (.tuple #[.int .i64 (cmpV a b c d), .bool (partB a b && partB c d)]) ∧ w = w' := by
  by_cases h1 : partB a b = true <;> by_cases h2 : partB c d = true
  · obtain ⟨q1, q2⟩ := part_mul h1 h2
    obtain ⟨q3, q4⟩ := part_mul h2 h1
    go_enter Try.func14, Try.ntmps14
    go_wp2_with (first | (go_at_call 42; refine (poPart_any _ _ _).mono ?_; rintro e w' ⟨rfl, rfl⟩) | (go_at_call 43; refine (l1Sign_any _ _).mono ?_; rintro e w' ⟨rfl, rfl⟩))
    go_ret2
    exact ⟨by simp [cmpV, h1, h2], rfl⟩
  all_goals
    simp only [Bool.not_eq_true] at *
    go_enter Try.func14, Try.ntmps14
    go_wp2_with (first | (go_at_call 42; refine (poPart_any _ _ _).mono ?_; rintro e w' ⟨rfl, rfl⟩) | (go_at_call 43; refine (l1Sign_any _ _).mono ?_; rintro e w' ⟨rfl, rfl⟩))
    go_ret2
    exact ⟨by simp [cmpV, h1, h2], rfl⟩
theorem implCompare_any (a b c d : Int) (w : World) :
    Calls Try.prog 15 #[.int .i64 a, .int .i64 b, .int .i64 c, .int .i64 d] w fun e w' => e = .returned (.tuple #[.int .i64 (cmpV a b c d), .bool (partB a b && partB c d)]) ∧ w = w' := by
  by_cases h1 : partB a b = true <;> by_cases h2 : partB c d = true
  · obtain ⟨q1, q2⟩ := part_mul h1 h2
    obtain ⟨q3, q4⟩ := part_mul h2 h1
    go_enter Try.func15, Try.ntmps15
    go_wp2_with (first | (go_at_call 44; refine (isPart_any _ _ _).mono ?_; rintro e w' ⟨rfl, rfl⟩) | (go_at_call 45; refine (signOf_any _ _).mono ?_; rintro e w' ⟨rfl, rfl⟩))
    go_ret2
    exact ⟨by simp [cmpV, h1, h2], rfl⟩
  all_goals
    simp only [Bool.not_eq_true] at *
    go_enter Try.func15, Try.ntmps15
    go_wp2_with (first | (go_at_call 44; refine (isPart_any _ _ _).mono ?_; rintro e w' ⟨rfl, rfl⟩) | (go_at_call 45; refine (signOf_any _ _).mono ?_; rintro e w' ⟨rfl, rfl⟩))
    go_ret2
    exact ⟨by simp [cmpV, h1, h2], rfl⟩
theorem lawCompare_any (a b c d : Int) (_ : (Lit.int .i64 a).wf = true) (_ : (Lit.int .i64 b).wf = true) (_ : (Lit.int .i64 c).wf = true) (_ : (Lit.int .i64 d).wf = true) (w : World) :
    Calls Try.prog 4 #[.int .i64 a, .int .i64 b, .int .i64 c, .int .i64 d] w fun e w' => e = .returned (.bool true) ∧ Kept w w' := by
  go_enter Try.func4, Try.ntmps4
  go_wp2_with (first | (go_at_call 14; refine (specCompare_any _ _ _ _ _).mono ?_; rintro e w' ⟨rfl, rfl⟩) | (go_at_call 15; refine (implCompare_any _ _ _ _ _).mono ?_; rintro e w' ⟨rfl, rfl⟩))

  go_ret
  exact ⟨rfl, Kept.refl _⟩
theorem lawConstants_any (w : World) :
    Calls Try.prog 3 #[] w fun e w' => e = .returned (.bool true) ∧ Kept w w' := by
  go_enter Try.func3, Try.ntmps3
  go_wp2

  go_ret
  exact ⟨rfl, Kept.refl _⟩
end Go.Proofs.Ythlefmkimbefnaa
