/- Codes: ElementWorth. -/
import Derived.Test.YtpkmngkepmoikaaV5
namespace Go.Proofs.Ytpkmngkepmoikaa
set_option linter.unusedVariables false
set_option linter.unusedSimpArgs false
open Go.RowKit

theorem codeB_elem {x : CodeD} {k : Nat} {y : ElemD} (h : codeB x = true) (hy : x.elems[k]? = some y) : elemB y = true := by
  unfold codeB elemsB at h
  simp only [Bool.and_eq_true] at h
  have h1 := List.all_eq_true.1 h.2 k (by have := (List.getElem?_eq_some_iff.1 hy).1; simpa using this)
  unfold stepB at h1
  rw [hy] at h1
  simp only [Bool.and_eq_true] at h1
  exact h1.1
theorem elemB_parts {y : ElemD} (h : elemB y = true) : (0 ≤ y.family ∧ y.family ≤ 4) ∧ (0 ≤ y.level ∧ y.level ≤ 4) ∧ 1 ≤ y.base ∧ y.base ≤ 2000 := by
  unfold elemB at h
  simp only [Bool.and_eq_true] at h
  exact ⟨inB_true h.1.1.2, inB_true h.1.2, inB_true h.2⟩
theorem codeB_rests {x : CodeD} (h : codeB x = true) : (1 ≤ x.repeats ∧ x.repeats ≤ 3) ∧ (0 ≤ x.bonus ∧ x.bonus ≤ 20) ∧ (50 ≤ x.keeps ∧ x.keeps ≤ 100) ∧ 0 ≤ x.fall ∧ x.fall ≤ 500 := by
  unfold codeB restB at h
  simp only [Bool.and_eq_true] at h
  exact ⟨inB_true h.1.2.1.1.1, inB_true h.1.2.1.1.2, inB_true h.1.2.1.2, inB_true h.1.2.2⟩
theorem codeB_heads {x : CodeD} (h : codeB x = true) : (1 ≤ x.elems.length ∧ x.elems.length ≤ 24) ∧ x.limits.length = 5 := by
  unfold codeB headB at h
  simp only [Bool.and_eq_true] at h
  have := inB_true h.1.1.1.1
  exact ⟨⟨by omega, by omega⟩, by simpa using h.1.1.1.2⟩
def worthN (keeps base m : Int) : Int := if m = 1 then base * keeps / 100 else if m = 2 then base * 9 / 10 else if m = 3 then 0 else base
theorem worthN_nonneg {keeps base : Int} (m : Int) (h1 : 0 ≤ keeps) (h2 : 0 ≤ base) : 0 ≤ worthN keeps base m := by
  have := Int.mul_nonneg h2 h1
  unfold worthN
  split
  · exact Int.ediv_nonneg this (by omega)
  · split
    · exact Int.ediv_nonneg (by omega) (by omega)
    · split <;> omega
def worthAt (x : CodeD) (s : ByteArray) (m : Int) : Int := if 0 ≤ findV x.elems s then match x.elems[(findV x.elems s).toNat]? with | some y => worthN x.keeps y.base m | none => -1 else -1
theorem worthAt_none {x : CodeD} {s : ByteArray} (m : Int) (h : findV x.elems s = -1) : worthAt x s m = -1 := by unfold worthAt; rw [h]; rfl
theorem worthAt_hit {x : CodeD} {s : ByteArray} {k : Nat} {y : ElemD} (m : Int) (h : findV x.elems s = k) (hy : x.elems[k]? = some y) : worthAt x s m = worthN x.keeps y.base m := by
  unfold worthAt
  rw [h, if_pos (by omega), Int.toNat_natCast, hy]
def ewOk (x : CodeD) (s : ByteArray) (m : Int) : Bool := feOk x s && inB m 0 3
def ewV (x : CodeD) (s : ByteArray) (m : Int) : Int := if ewOk x s m then worthAt x s m else 0
theorem ewV_no {x : CodeD} {s : ByteArray} {m : Int} (h : ewOk x s m = false) : ewV x s m = 0 := by unfold ewV; rw [h]; rfl
theorem ewV_yes {x : CodeD} {s : ByteArray} {m : Int} (h : ewOk x s m = true) : ewV x s m = worthAt x s m := if_pos h
theorem feOk_hit {x : CodeD} {s : ByteArray} {k : Nat} (hc : codeB x = true) (h : findV x.elems s = k) : feOk x s = true := by
  unfold feOk
  rw [hc, h, Bool.true_and]
  exact decide_eq_true (by omega)
theorem feOk_none {x : CodeD} {s : ByteArray} (h : findV x.elems s = -1) : feOk x s = false := by
  unfold feOk
  rw [h]
  exact Bool.and_false _
set_option maxHeartbeats 1000000 in
theorem worthOf_any (v v1 : Value) (x : CodeD) (y : ElemD) (m : Int) (w : World) (h : CodeAt w v x) (h1 : ElemAt w v1 y) (hk : 50 ≤ x.keeps ∧ x.keeps ≤ 100) (hy : 1 ≤ y.base ∧ y.base ≤ 2000) :
    Calls Try.prog 120 #[v, v1, .int .i64 m] w fun e w' => e = .returned (.int .i64 (worthN x.keeps y.base m)) ∧ Kept w w' := by
  obtain ⟨nv, mv, rfl, q1, q2⟩ := h
  obtain ⟨A, c, rfl, _, _, _⟩ := q1.1.out
  obtain ⟨A2, c2, rfl, _, _, _⟩ := q2.out
  obtain ⟨rfl, _⟩ := h1
  clear q1 q2
  obtain ⟨hk1, hk2⟩ := hk
  obtain ⟨hy1, hy2⟩ := hy
  have hp : y.base * x.keeps ≤ 200000 := by
    have h1 := Int.mul_le_mul_of_nonneg_left hk2 (show (0 : Int) ≤ y.base by omega)
    omega
  have hp0 : 0 ≤ y.base * x.keeps := Int.mul_nonneg (by omega) (by omega)
  have K0 : Kept w ((w.alloc (.cells #[.slice A x.elems.length c, .slice A2 x.limits.length c2, .int .i64 x.repeats, .int .i64 x.bonus, .int .i64 x.keeps, .int .i64 x.fall] 32)).alloc (.cells #[.string y.name, .int .i64 y.family, .int .i64 y.level, .int .i64 y.base] 36)) := ((Kept.refl w).alloc _).alloc _
  by_cases m1 : m = 1
  · subst m1
    go_enter Try.func120, Try.ntmps120
    go_wp2_with fail
    go_ret
    exact ⟨ret_int (by unfold worthN; rw [if_pos rfl]), K0⟩
  · by_cases m2 : m = 2
    · subst m2
      go_enter Try.func120, Try.ntmps120
      go_wp2_with fail
      go_ret
      exact ⟨ret_int (by unfold worthN; rw [if_neg (by omega), if_pos rfl]), K0⟩
    · by_cases m3 : m = 3
      · subst m3
        go_enter Try.func120, Try.ntmps120
        go_wp2_with fail
        go_ret
        exact ⟨ret_int (by unfold worthN; rw [if_neg (by omega), if_neg (by omega), if_pos rfl]), K0⟩
      · have e1 : (m == 1) = false := beq_eq_false_iff_ne.2 m1
        have e2 : (m == 2) = false := beq_eq_false_iff_ne.2 m2
        have e3 : (m == 3) = false := beq_eq_false_iff_ne.2 m3
        have HN := Lib.hid (show worthN x.keeps y.base m = y.base from by unfold worthN; rw [if_neg m1, if_neg m2, if_neg m3])
        clear m1 m2 m3
        go_enter Try.func120, Try.ntmps120
        go_wp2_with fail
        go_ret
        exact ⟨ret_int HN.out.symm, K0⟩
set_option maxHeartbeats 1000000 in
theorem bsWorth_any (v : Value) (x : CodeD) (s : ByteArray) (m : Int) (w : World) (h : CodeAt w v x) (hx : codeB x = true) :
    Calls Try.prog 104 #[v, .string s, .int .i64 m] w fun e w' => e = .returned (.int .i64 (worthAt x s m)) ∧ Kept w w' := by
  have h0 := h
  obtain ⟨nv, mv, rfl, q1, q2⟩ := h
  obtain ⟨A, c, rfl, hnc, hcm, hl⟩ := q1.1.out
  obtain ⟨A2, c2, rfl, _, _, _⟩ := q2.out
  unfold maxLen at hcm
  have HL := Lib.hid hl
  have HS := Lib.hid q1.2
  have H0 := Lib.hid h0
  clear h0 q1 q2 hl
  have B0 := Box.new w w.heap.size 32 #[.slice A x.elems.length c, .slice A2 x.limits.length c2, .int .i64 x.repeats, .int .i64 x.bonus, .int .i64 x.keeps, .int .i64 x.fall] rfl
  have K0 : Kept w (w.alloc (.cells #[.slice A x.elems.length c, .slice A2 x.limits.length c2, .int .i64 x.repeats, .int .i64 x.bonus, .int .i64 x.keeps, .int .i64 x.fall] 32)) := (Kept.refl w).alloc _
  obtain ⟨_, _, ⟨hk1, hk2⟩, _⟩ := codeB_rests hx
  go_enter Try.func104, Try.ntmps104
  go_wp2_with fail
  refine (cdFind_any _ x s _ (H0.out.kept K0)).mono ?_
  rintro e w1 ⟨rfl, k1⟩
  have K1 := K0.trans k1
  rcases findV_cases x.elems s with hf | ⟨k, y, hf, hy, hit⟩
  · have HN := Lib.hid (worthAt_none m hf)
    rw [hf]
    clear hf
    go_wp2_with fail
    go_ret
    exact ⟨ret_int HN.out.symm, K1⟩
  · have hlt : k < x.elems.length := (List.getElem?_eq_some_iff.1 hy).1
    obtain ⟨b, o, y', rfl, hb', h2, q0, q1, q2, q3⟩ := elems_at (HL.out.kept K1) hlt
    rw [hy] at h2
    injection h2 with h2
    subst h2
    obtain ⟨_, _, hy1, hy2⟩ := elemB_parts (codeB_elem hx hy)
    have HN := Lib.hid (worthAt_hit m hf hy)
    have hp : y.base * x.keeps ≤ 200000 := by
      have h1 := Int.mul_le_mul_of_nonneg_left hk2 (show (0 : Int) ≤ y.base by omega)
      omega
    have hp0 : 0 ≤ y.base * x.keeps := Int.mul_nonneg (by omega) (by omega)
    rw [hf]
    clear hf hy hit
    obtain ⟨x0, y0⟩ := (B0.kept k1).six
    by_cases m1 : m = 1
    · subst m1
      go_wp2_with fail
      go_ret
      exact ⟨ret_int (by rw [HN.out]; unfold worthN; rw [if_pos rfl]), K1⟩
    · by_cases m2 : m = 2
      · subst m2
        go_wp2_with fail
        go_ret
        exact ⟨ret_int (by rw [HN.out]; unfold worthN; rw [if_neg (by omega), if_pos rfl]), K1⟩
      · by_cases m3 : m = 3
        · subst m3
          go_wp2_with fail
          go_ret
          exact ⟨ret_int (by rw [HN.out]; unfold worthN; rw [if_neg (by omega), if_neg (by omega), if_pos rfl]), K1⟩
        · have e1 : (m == 1) = false := beq_eq_false_iff_ne.2 m1
          have e2 : (m == 2) = false := beq_eq_false_iff_ne.2 m2
          have e3 : (m == 3) = false := beq_eq_false_iff_ne.2 m3
          have HN' := Lib.hid (HN.out.trans (show worthN x.keeps y.base m = y.base from by unfold worthN; rw [if_neg m1, if_neg m2, if_neg m3]))
          clear m1 m2 m3
          go_wp2_with fail
          go_ret
          exact ⟨ret_int HN'.out.symm, K1⟩
end Go.Proofs.Ytpkmngkepmoikaa
