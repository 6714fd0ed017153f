/- Codes copied; elements and codes compared. -/
import Derived.Test.YtpkmngkepmoikaaH
namespace Go.Proofs.Ytpkmngkepmoikaa
set_option linter.unusedVariables false
set_option linter.unusedSimpArgs false
open Go.RowKit

set_option maxHeartbeats 400000 in
theorem eqElement_any (v1 v2 : Value) (x : ElemD) (w : World) (h1 : ElemAt w v1 x) (h2 : ElemAt w v2 x) :
    Calls Try.prog 75 #[v1, v2] w fun e w' => e = .returned (.bool true) ∧ Kept w w' := by
  obtain ⟨rfl, hs⟩ := h1
  obtain ⟨rfl, _⟩ := h2
  unfold maxLen at hs
  have e1 : (x.family != x.family) = false := by simp
  have e2 : (x.level != x.level) = false := by simp
  have e3 : (x.base != x.base) = false := by simp
  have e4 : (!x.name.toList == x.name.toList) = false := by simp
  go_enter Try.func75, Try.ntmps75
  go_wp2_with fail
  go_ret
  exact ⟨rfl, ((Kept.refl w).alloc _).alloc _⟩
set_option maxRecDepth 100000 in
set_option maxHeartbeats 1000000 in
theorem eqElementS_any (v1 v2 : Value) (es : List ElemD) (w : World) (h1 : Elems w v1 es) (h2 : Elems w v2 es) :
    Calls Try.prog 42 #[v1, v2] w fun e w' => e = .returned (.bool true) ∧ Kept w w' := by
  obtain ⟨A, c, rfl, hnc, hcm, hA⟩ := h1.1.out
  obtain ⟨A', c', rfl, hnc', hcm', hA'⟩ := h2.1.out
  unfold maxLen at hcm hcm'
  have HA := Lib.hid hA
  have HA' := Lib.hid hA'
  have HS := Lib.hid h1.2
  clear hA h1 hA' h2
  have hne : ((es.length : Int) != (es.length : Int)) = false := by simp
  go_enter Try.func42, Try.ntmps42
  go_wp2_with fail
  go_loopw [5] (fun i wr => ∃ k : Nat, k ≤ es.length ∧ i = .int .i64 k ∧ Kept w wr) (fun i _ => es.length - (intOf i).toNat)
  case atStart => exact ⟨0, Nat.zero_le _, rfl, Kept.refl _⟩
  case round =>
    obtain ⟨k, hk, rfl, hkept⟩ := hrel
    by_cases hlt : k < es.length
    · obtain ⟨b, o, x, rfl, hb, h2, q0, q1, q2, q3⟩ := elems_at (HA.out.kept hkept) hlt
      obtain ⟨b', o', x', rfl, hb', h2', q0', q1', q2', q3'⟩ := elems_at (HA'.out.kept hkept) hlt
      rw [h2] at h2'
      injection h2' with h2'
      subst h2'
      have HI := Lib.hid (ElemAt.mk x wr.drew (HS.out x (List.mem_of_getElem? h2)))
      have hlt' : (k : Int) < (es.length : Int) := by omega
      clear h2
      go_wp2_with fail
      go_still_tail 8, (by kernel_rfl)
      go_wp2_with fail
      refine (eqElement_any _ _ x _ HI.out HI.out).mono ?_
      rintro e w1 ⟨rfl, k1⟩
      go_wp2_with fail
      go_roundw
      case rel => exact ⟨k + 1, by omega, by go_num, hkept.drew.trans k1⟩
      case measure => simp [intOf]; omega
    · go_wp2_with fail
      go_ret
      exact ⟨rfl, hkept⟩
set_option maxHeartbeats 1000000 in
theorem eqCode_any (v1 v2 : Value) (a : CodeD) (w : World) (h1 : CodeAt w v1 a) (h2 : CodeAt w v2 a) :
    Calls Try.prog 14 #[v1, v2] w fun e w' => e = .returned (.bool true) ∧ Kept w w' := by
  obtain ⟨nv, mv, rfl, q1, q2⟩ := h1
  obtain ⟨nv', mv', rfl, q3, q4⟩ := h2
  have H1 := Lib.hid q1
  have H2 := Lib.hid q2
  have H3 := Lib.hid q3
  have H4 := Lib.hid q4
  clear q1 q2 q3 q4
  have K0 : Kept w ((w.alloc (.cells #[nv, mv, .int .i64 a.repeats, .int .i64 a.bonus, .int .i64 a.keeps, .int .i64 a.fall] 32)).alloc (.cells #[nv', mv', .int .i64 a.repeats, .int .i64 a.bonus, .int .i64 a.keeps, .int .i64 a.fall] 32)) := ((Kept.refl w).alloc _).alloc _
  have e1 : (a.repeats != a.repeats) = false := by simp
  have e2 : (a.bonus != a.bonus) = false := by simp
  have e3 : (a.keeps != a.keeps) = false := by simp
  have e4 : (a.fall != a.fall) = false := by simp
  go_enter Try.func14, Try.ntmps14
  go_wp2_with fail
  refine (eqElementS_any _ _ a.elems _ (H1.out.kept K0) (H3.out.kept K0)).mono ?_
  rintro e w1 ⟨rfl, k1⟩
  have B0 := ((Box.new w w.heap.size 32 #[nv, mv, .int .i64 a.repeats, .int .i64 a.bonus, .int .i64 a.keeps, .int .i64 a.fall] rfl).alloc (.cells #[nv', mv', .int .i64 a.repeats, .int .i64 a.bonus, .int .i64 a.keeps, .int .i64 a.fall] 32)).kept k1
  have B1 := (Box.new (w.alloc (.cells #[nv, mv, .int .i64 a.repeats, .int .i64 a.bonus, .int .i64 a.keeps, .int .i64 a.fall] 32)) (w.heap.size + 1) 32 #[nv', mv', .int .i64 a.repeats, .int .i64 a.bonus, .int .i64 a.keeps, .int .i64 a.fall] (by simp)).kept k1
  obtain ⟨c0, f0⟩ := B0.six
  obtain ⟨c1, f1⟩ := B1.six
  have K1 := K0.trans k1
  clear k1 f0 f1
  go_wp2_with fail
  clear c0 c1
  refine (eqIntS_any _ _ a.limits a.limits _ (H2.out.kept K1) (H4.out.kept K1)).mono ?_
  rintro e w2 ⟨rfl, k2⟩
  obtain ⟨c0, f0⟩ := (B0.kept k2).six
  obtain ⟨c1, f1⟩ := (B1.kept k2).six
  have K2 := K1.trans k2
  have hd : decide (a.limits = a.limits) = true := by simp
  rw [hd]
  clear hd f0 f1
  go_wp2_with fail
  go_ret
  exact ⟨rfl, K2⟩
end Go.Proofs.Ytpkmngkepmoikaa
