/- Codes: the element with a name. -/
import Derived.Test.YtpkmngkepmoikaaV4
namespace Go.Proofs.Ytpkmngkepmoikaa
set_option linter.unusedVariables false
set_option linter.unusedSimpArgs false
open Go.RowKit

def hitB (s : ByteArray) (y : ElemD) : Bool := y.name.toList == s.toList
def findV (es : List ElemD) (s : ByteArray) : Int := match es.findIdx? (hitB s) with | some k => (k : Int) | none => -1
theorem findV_hit {es : List ElemD} {s : ByteArray} {k : Nat} {y : ElemD} (h : es[k]? = some y) (hy : hitB s y = true) (hb : ∀ j z, j < k → es[j]? = some z → hitB s z = false) : findV es s = k := by
  obtain ⟨hk, rfl⟩ := List.getElem?_eq_some_iff.1 h
  have : es.findIdx? (hitB s) = some k := List.findIdx?_eq_some_iff_getElem.2 ⟨hk, hy, fun j hj => by
    rw [hb j es[j] hj (List.getElem?_eq_getElem (by omega))]
    exact Bool.false_ne_true⟩
  unfold findV
  rw [this]
theorem findV_none {es : List ElemD} {s : ByteArray} (hb : ∀ j z, j < es.length → es[j]? = some z → hitB s z = false) : findV es s = -1 := by
  have : es.findIdx? (hitB s) = none := List.findIdx?_eq_none_iff.2 fun z hz => by
    obtain ⟨j, hj⟩ := List.getElem?_of_mem hz
    exact hb j z (List.getElem?_eq_some_iff.1 hj).1 hj
  unfold findV
  rw [this]
theorem findV_cases (es : List ElemD) (s : ByteArray) : findV es s = -1 ∨ ∃ (k : Nat) (y : ElemD), findV es s = k ∧ es[k]? = some y ∧ hitB s y = true := by
  unfold findV
  cases h : es.findIdx? (hitB s) with
  | none => exact .inl rfl
  | some k =>
    obtain ⟨hk, hy, _⟩ := List.findIdx?_eq_some_iff_getElem.1 h
    exact .inr ⟨k, es[k], rfl, List.getElem?_eq_getElem hk, hy⟩
def feOk (x : CodeD) (s : ByteArray) : Bool := codeB x && decide (0 ≤ findV x.elems s)
def feV (x : CodeD) (s : ByteArray) : Int := if feOk x s then findV x.elems s else 0
theorem feV_no {x : CodeD} {s : ByteArray} (h : feOk x s = false) : feV x s = 0 := by unfold feV; rw [h]; rfl
theorem feV_yes {x : CodeD} {s : ByteArray} (h : feOk x s = true) : feV x s = findV x.elems s := if_pos h
theorem none_snoc {es : List ElemD} {s : ByteArray} {k : Nat} {y : ElemD} (h : es[k]? = some y) (hy : hitB s y = false) (hb : ∀ j z, j < k → es[j]? = some z → hitB s z = false) : ∀ j z, j < k + 1 → es[j]? = some z → hitB s z = false := by
  intro j z hj hz
  rcases Nat.lt_or_eq_of_le (Nat.le_of_lt_succ hj) with h1 | rfl
  · exact hb j z h1 hz
  · rw [h] at hz
    injection hz with hz
    subst hz
    exact hy
set_option maxHeartbeats 1000000 in
theorem cdFind_any (v : Value) (x : CodeD) (s : ByteArray) (w : World) (h : CodeAt w v x) :
    Calls Try.prog 109 #[v, .string s] w fun e w' => e = .returned (.int .i64 (findV x.elems s)) ∧ Kept w w' := by
  have h0 := h
  obtain ⟨nv, mv, rfl, q1, q2⟩ := h
  obtain ⟨A, c, rfl, hnc, hcm, hl⟩ := q1.1.out
  obtain ⟨A2, c2, rfl, _, _, _⟩ := q2.out
  unfold maxLen at hcm
  have HL := Lib.hid hl
  have HS := Lib.hid q1.2
  have H0 := Lib.hid h0
  clear h0 q1 q2 hl
  have B0 := Box.new w w.heap.size 32 #[.slice A x.elems.length c, .slice A2 x.limits.length c2, .int .i64 x.repeats, .int .i64 x.bonus, .int .i64 x.keeps, .int .i64 x.fall] rfl
  have K0 : Kept w (w.alloc (.cells #[.slice A x.elems.length c, .slice A2 x.limits.length c2, .int .i64 x.repeats, .int .i64 x.bonus, .int .i64 x.keeps, .int .i64 x.fall] 32)) := (Kept.refl w).alloc _
  go_enter Try.func109, Try.ntmps109
  go_wp2_with fail
  generalize w.alloc (.cells #[.slice A x.elems.length c, .slice A2 x.limits.length c2, .int .i64 x.repeats, .int .i64 x.bonus, .int .i64 x.keeps, .int .i64 x.fall] 32) = w0 at *
  go_loopw [10] (fun i wr => ∃ k : Nat, k ≤ x.elems.length ∧ i = .int .i64 k ∧ (∀ j z, j < k → x.elems[j]? = some z → hitB s z = false) ∧ Kept w0 wr) (fun i _ => x.elems.length - (intOf i).toNat)
  case atStart => exact ⟨0, Nat.zero_le _, rfl, (fun j _ hj => absurd hj (Nat.not_lt_zero j)), Kept.refl _⟩
  case round =>
    obtain ⟨k, hk, rfl, ha, hkept⟩ := hrel
    have HB := Lib.hid ha
    clear ha
    by_cases hlt : k < x.elems.length
    · obtain ⟨b, o, y, rfl, hb', h2, q0, q1, q2, q3⟩ := elems_at (HL.out.kept (K0.trans hkept)) hlt
      have HZ := Lib.hid h2
      clear h2
      by_cases hf : hitB s y = true
      · have HF := Lib.hid hf
        unfold hitB at hf
        go_wp2_with fail
        go_ret
        exact ⟨ret_int (findV_hit HZ.out HF.out HB.out).symm, (K0.trans hkept).alloc _⟩
      · simp only [Bool.not_eq_true] at hf
        have HF := Lib.hid hf
        unfold hitB at hf
        go_wp2_with fail
        go_roundw
        case rel => exact ⟨k + 1, by omega, by go_num, none_snoc HZ.out HF.out HB.out, hkept.alloc _⟩
        case measure => simp [intOf]; omega
    · obtain rfl : k = x.elems.length := by omega
      go_wp2_with fail
      go_ret
      exact ⟨ret_int (findV_none HB.out).symm, K0.trans hkept⟩
theorem hit_any (v : Value) (y : ElemD) (s : ByteArray) (p : Addr) (w : World) (h : ElemAt w v y) (hp : p.block < w.heap.size) (hc : w.cell? p = some (.string s)) :
    Calls Try.prog 125 #[v, .pointer (some p)] w fun e w' => e = .returned (.bool (hitB s y)) ∧ Kept w w' := by
  obtain ⟨rfl, hs⟩ := h
  have K0 : Kept w (w.alloc (.cells #[.string y.name, .int .i64 y.family, .int .i64 y.level, .int .i64 y.base] 36)) := (Kept.refl w).alloc _
  have hc' := (K0.cell hp).trans hc
  go_enter Try.func125, Try.ntmps125
  go_wp2_with fail
  go_ret
  exact ⟨rfl, K0⟩
set_option maxHeartbeats 1000000 in
theorem indexFunc_any (v : Value) (es : List ElemD) (s : ByteArray) (p : Addr) (w : World) (h : Elems w v es) (hp : p.block < w.heap.size) (hc : w.cell? p = some (.string s)) :
    Calls Try.prog 124 #[v, .func (.func 125) #[] #[.pointer (some p)]] w fun e w' => e = .returned (.int .i64 (findV es s)) ∧ Kept w w' := by
  obtain ⟨A, c, rfl, hnc, hcm, hl⟩ := h.1.out
  unfold maxLen at hcm
  have HL := Lib.hid hl
  have HS := Lib.hid h.2
  have HC := Lib.hid hc
  clear h hl hc
  go_enter Try.func124, Try.ntmps124
  go_wp2_with fail
  go_loopw [8] (fun i wr => ∃ k : Nat, k ≤ es.length ∧ i = .int .i64 k ∧ (∀ j z, j < k → es[j]? = some z → hitB s z = false) ∧ Kept w wr) (fun i _ => es.length - (intOf i).toNat)
  case atStart => exact ⟨0, Nat.zero_le _, rfl, (fun j _ hj => absurd hj (Nat.not_lt_zero j)), Kept.refl _⟩
  case round =>
    obtain ⟨k, hk, rfl, ha, hkept⟩ := hrel
    have HB := Lib.hid ha
    clear ha
    by_cases hlt : k < es.length
    · obtain ⟨b, o, y, rfl, hb', h2, q0, q1, q2, q3⟩ := elems_at (HL.out.kept hkept) hlt
      have hys := HS.out y (List.mem_of_getElem? h2)
      have HZ := Lib.hid h2
      have hp' : p.block < wr.heap.size := Nat.lt_of_lt_of_le hp hkept.size
      have HCW := Lib.hid ((hkept.cell hp).trans HC.out)
      clear h2
      go_wp2_with fail
      refine (hit_any _ y s p _ (ElemAt.mk y _ hys) hp' HCW.out).mono ?_
      rintro e w1 ⟨rfl, k1⟩
      by_cases hf : hitB s y = true
      · rw [hf]
        go_wp2_with fail
        go_ret
        exact ⟨ret_int (findV_hit HZ.out hf HB.out).symm, hkept.trans k1⟩
      · simp only [Bool.not_eq_true] at hf
        rw [hf]
        go_wp2_with fail
        go_roundw
        case rel => exact ⟨k + 1, by omega, by go_num, none_snoc HZ.out hf HB.out, hkept.trans k1⟩
        case measure => simp [intOf]; omega
    · obtain rfl : k = es.length := by omega
      go_wp2_with fail
      go_ret
      exact ⟨ret_int (findV_none HB.out).symm, hkept⟩
theorem findElement_any (v : Value) (x : CodeD) (s : ByteArray) (w : World) (h : CodeAt w v x) :
    Calls Try.prog 111 #[v, .string s] w fun e w' => e = .returned (.int .i64 (findV x.elems s)) ∧ Kept w w' := by
  obtain ⟨nv, mv, rfl, q1, q2⟩ := h
  have HE := Lib.hid q1
  obtain ⟨A, c, rfl, hnc, hcm, hl⟩ := q1.1.out
  obtain ⟨A2, c2, rfl, _, _, _⟩ := q2.out
  have K0 : Kept w ((w.alloc (.cells #[.slice A x.elems.length c, .slice A2 x.limits.length c2, .int .i64 x.repeats, .int .i64 x.bonus, .int .i64 x.keeps, .int .i64 x.fall] 32)).alloc (.cells #[.string s] 9)) := ((Kept.refl w).alloc _).alloc _
  clear q1 q2 hl
  go_enter Try.func111, Try.ntmps111
  go_wp2_with fail
  refine (indexFunc_any _ x.elems s _ _ (HE.out.kept K0) (by simp) (by simp [go_sem])).mono ?_
  rintro e w1 ⟨rfl, k1⟩
  go_wp2_with fail
  go_ret
  exact ⟨rfl, K0.trans k1⟩
end Go.Proofs.Ytpkmngkepmoikaa
