/- Codes: ElementWorth. -/
import Derived.Test.YtmbgcmeiigmbaaaV5
namespace Go.Proofs.Ytmbgcmeiigmbaaa
open Go.RowKit

theorem codeB_elem {x : CodeD} {k : Nat} {y : ElemD} (h : codeB x = true) (hy : x.elems[k]? = some y) : elemB y = true := by
  unfold codeB elemsB at h
  simp only [Bool.and_eq_true] at h
  have h1 := List.all_eq_true.1 h.2 k (by have := (List.getElem?_eq_some_iff.1 hy).1; simpa using this)
  unfold stepB at h1
  rw [hy] at h1
  simp only [Bool.and_eq_true] at h1
  exact h1.1
theorem elemB_parts {y : ElemD} (h : elemB y = true) : (0 ≤ y.family ∧ y.family ≤ 4) ∧ (0 ≤ y.level ∧ y.level ≤ 4) ∧ 1 ≤ y.base ∧ y.base ≤ 2000 := by
  unfold elemB at h
  simp only [Bool.and_eq_true] at h
  exact ⟨inB_true h.1.1.2, inB_true h.1.2, inB_true h.2⟩
theorem codeB_rests {x : CodeD} (h : codeB x = true) : (1 ≤ x.repeats ∧ x.repeats ≤ 3) ∧ (0 ≤ x.bonus ∧ x.bonus ≤ 20) ∧ (50 ≤ x.keeps ∧ x.keeps ≤ 100) ∧ 0 ≤ x.fall ∧ x.fall ≤ 500 := by
  unfold codeB restB at h
  simp only [Bool.and_eq_true] at h
  exact ⟨inB_true h.1.2.1.1.1, inB_true h.1.2.1.1.2, inB_true h.1.2.1.2, inB_true h.1.2.2⟩
theorem codeB_heads {x : CodeD} (h : codeB x = true) : (1 ≤ x.elems.length ∧ x.elems.length ≤ 24) ∧ x.limits.length = 5 := by
  unfold codeB headB at h
  simp only [Bool.and_eq_true] at h
  have := inB_true h.1.1.1.1
  exact ⟨⟨by omega, by omega⟩, by simpa using h.1.1.1.2⟩
def worthN (keeps base m : Int) : Int := if m = 1 then base * keeps / 100 else if m = 2 then base * 9 / 10 else if m = 3 then 0 else base
theorem worthN_nonneg {keeps base : Int} (m : Int) (h1 : 0 ≤ keeps) (h2 : 0 ≤ base) : 0 ≤ worthN keeps base m := by
  have := Int.mul_nonneg h2 h1
  unfold worthN
  split
  · exact Int.ediv_nonneg this (by omega)
  · split
    · exact Int.ediv_nonneg (by omega) (by omega)
    · split <;> omega
def worthAt (x : CodeD) (s : ByteArray) (m : Int) : Int := if 0 ≤ findV x.elems s then match x.elems[(findV x.elems s).toNat]? with | some y => worthN x.keeps y.base m | none => -1 else -1
theorem worthAt_none {x : CodeD} {s : ByteArray} (m : Int) (h : findV x.elems s = -1) : worthAt x s m = -1 := by unfold worthAt; rw [h]; rfl
theorem worthAt_hit {x : CodeD} {s : ByteArray} {k : Nat} {y : ElemD} (m : Int) (h : findV x.elems s = k) (hy : x.elems[k]? = some y) : worthAt x s m = worthN x.keeps y.base m := by
  unfold worthAt
  rw [h, if_pos (by omega), Int.toNat_natCast, hy]
def ewOk (x : CodeD) (s : ByteArray) (m : Int) : Bool := feOk x s && inB m 0 3
def ewV (x : CodeD) (s : ByteArray) (m : Int) : Int := if ewOk x s m then worthAt x s m else 0
theorem ewV_no {x : CodeD} {s : ByteArray} {m : Int} (h : ewOk x s m = false) : ewV x s m = 0 := by unfold ewV; rw [h]; rfl
theorem ewV_yes {x : CodeD} {s : ByteArray} {m : Int} (h : ewOk x s m = true) : ewV x s m = worthAt x s m := if_pos h
theorem feOk_hit {x : CodeD} {s : ByteArray} {k : Nat} (hc : codeB x = true) (h : findV x.elems s = k) : feOk x s = true := by
  unfold feOk
  rw [hc, h, Bool.true_and]
  exact decide_eq_true (by omega)
theorem feOk_none {x : CodeD} {s : ByteArray} (h : findV x.elems s = -1) : feOk x s = false := by
  unfold feOk
  rw [h]
  exact Bool.and_false _
end Go.Proofs.Ytmbgcmeiigmbaaa
