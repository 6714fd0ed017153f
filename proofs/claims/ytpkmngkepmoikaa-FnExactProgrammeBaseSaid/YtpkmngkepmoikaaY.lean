/- The marks that the laws write: elements, codes. -/
import Derived.Test.YtpkmngkepmoikaaH2
import Derived.Test.YtpkmngkepmoikaaT0
import Derived.Test.YtpkmngkepmoikaaZ
namespace Go.Proofs.Ytpkmngkepmoikaa
set_option linter.unusedVariables false
set_option linter.unusedSimpArgs false
open Go.RowKit

def markE (k : Int) : ElemD := ⟨mt k, k + 1, k + 2, k + 3⟩
def marksE (k : Int) (n : Nat) : List ElemD := (List.range n).map fun (i : Nat) => markE (k + 4 * (i : Int))
theorem marksE_length (k : Int) (n : Nat) : (marksE k n).length = n := by simp [marksE]
theorem marksE_get {k : Int} {n i : Nat} (h : i < n) : (marksE k n)[i]? = some (markE (k + 4 * i)) := by simp [marksE, h]
theorem marksE_size (k : Int) (n : Nat) : ∀ e ∈ marksE k n, e.name.size ≤ maxLen := by
  intro z hz
  unfold marksE at hz
  obtain ⟨i, _, rfl⟩ := List.mem_map.1 hz
  exact mt_size _
set_option maxHeartbeats 2000000 in
theorem markElementS_any (v : Value) (es : List ElemD) (k : Int) (w : World) (base : Nat) (h : OwnE w base v es) (hk : 1 ≤ k) (hk2 : k ≤ 274877906944) (hn : es.length ≤ 1048576) :
    Calls Try.prog 43 #[v, .int .i64 k] w fun e w' => e = .returned (.int .i64 (k + 4 * es.length)) ∧ OwnE w' base v (marksE k es.length) ∧ Only (fp v) w w' := by
  obtain ⟨A, c, rfl, hnc, hcm, hA⟩ := own_form h.1
  unfold maxLen at hcm
  have HA := Lib.hid hA
  have HI := Lib.hid h.1
  clear h hA
  go_enter Try.func43, Try.ntmps43
  go_wp2_with fail
  go_loopw [1, 5] (fun q i wr => ∃ (j : Nat) (xs : List Value), j ≤ es.length ∧ i = .int .i64 j ∧ q = .int .i64 (k + 4 * j) ∧ wr.ownsRow base 36 4 (.slice A es.length c) es.length xs ∧ xs.take (j * 4) = ((marksE k es.length).take j).flatMap cells4 ∧ Only (fp (.slice A es.length c)) w wr) (fun _ i _ => es.length - (intOf i).toNat)
  case atStart => exact ⟨0, _, Nat.zero_le _, rfl, by simp, HI.out, by simp, Only.refl _ _⟩
  case round =>
    obtain ⟨j, xs, hj, rfl, rfl, ho, ht, hon⟩ := hrel
    have hlen : xs.length = es.length * 4 := ho.1
    by_cases hlt : j < es.length
    · obtain ⟨g, rfl⟩ := HA.out (by omega)
      have HT := Lib.hid ht
      have HO := Lib.hid hlen
      have HN := Lib.hid hon
      have HR := Lib.hid ho
      clear ht hlen ho hon
      go_wp2_with fail
      refine (markText_any _ _ (by omega) (by omega)).mono ?_
      rintro e w1 ⟨rfl, k1⟩
      have ho1 := own_kept HR.out k1
      obtain ⟨u0, _, x0, y0⟩ := own_at ho1 (j := j * 4) (by omega)
      obtain ⟨u1, _, x1, y1⟩ := own_at ho1 (j := j * 4 + 1) (by omega)
      obtain ⟨u2', _, x2, y2⟩ := own_at ho1 (j := j * 4 + 2) (by omega)
      obtain ⟨u3', _, x3, y3⟩ := own_at ho1 (j := j * 4 + 3) (by omega)
      have HO1 := Lib.hid ho1
      clear ho1
      go_wp2_with fail
      go_roundw
      case rel =>
        refine ⟨j + 1, _, by omega, by go_num, by go_num, ((((HO1.out.stored (j * 4) _).1.stored (j * 4 + 1) _).1.stored (j * 4 + 2) _).1.stored (j * 4 + 3) _).1, ?_, ?_⟩
        · rw [set4_take HO.out hlt HT.out, take_snoc (marksE_get hlt)]
          simp [cells4, markE]
          try omega
        · repeat (refine Only.setCell ?_ (by simp [fp_some]) _)
          exact HN.out.trans (k1.only _)
      case measure => simp [intOf]; omega
    · obtain rfl : j = es.length := by omega
      have hx : xs = (marksE k es.length).flatMap cells4 := by rw [List.take_of_length_le (by omega), List.take_of_length_le (by rw [marksE_length]; exact Nat.le_refl _)] at ht; exact ht
      have HX := Lib.hid hx
      have HR := Lib.hid ho
      have HN := Lib.hid hon
      clear hx ht ho hon hlen
      go_wp2_with fail
      go_ret
      refine ⟨rfl, ⟨?_, marksE_size _ _⟩, HN.out⟩
      rw [marksE_length, ← HX.out]
      exact HR.out
set_option maxHeartbeats 2000000 in
theorem heldElementS_any (v : Value) (k : Int) (n : Nat) (w : World) (h : Elems w v (marksE k n)) (hk : 1 ≤ k) (hk2 : k ≤ 274877906944) (hn : n ≤ 1048576) :
    Calls Try.prog 44 #[v, .int .i64 k] w fun e w' => e = .returned (.int .i64 (k + 4 * n)) ∧ Kept w w' := by
  obtain ⟨A, c, rfl, hnc, hcm, hA⟩ := h.1.out
  unfold maxLen at hcm
  have HA := Lib.hid hA
  have hN : (marksE k n).length = n := marksE_length k n
  rw [hN] at hnc ⊢
  have HL := Lib.hid hN
  clear h hA hN
  go_enter Try.func44, Try.ntmps44
  go_wp2_with fail
  go_loopw [1, 5] (fun q i wr => ∃ j : Nat, j ≤ n ∧ i = .int .i64 j ∧ q = .int .i64 (k + 4 * j) ∧ Kept w wr) (fun _ i _ => n - (intOf i).toNat)
  case atStart => exact ⟨0, Nat.zero_le _, rfl, by simp, Kept.refl _⟩
  case round =>
    obtain ⟨j, hj, rfl, rfl, hkept⟩ := hrel
    by_cases hlt : j < n
    · obtain ⟨b, o, y, rfl, hb, h2, q0, q1, q2, q3⟩ := elems_at (HA.out.kept hkept.drew) (k := j) (by rw [HL.out]; exact hlt)
      rw [marksE_get hlt] at h2
      injection h2 with h2
      subst h2
      have hlt' : (j : Int) < (n : Int) := by omega
      go_wp2_with fail
      have y0 := After.cell q0 hb
      have hne : (!(mt (k + 4 * (j : Int))).toList == (mt (k + 4 * (j : Int))).toList) = false := by simp
      have HQ := Lib.hid (show _ ∧ _ ∧ _ from ⟨q1, q2, q3⟩)
      clear q0 q1 q2 q3
      unfold markE at y0
      dsimp only at y0
      refine region_after (by kernel_rfl) (by kernel_rfl) ?_
      repeat (go_big_quiet_step ((go_at_call 76; exact after_of (markText_any _ _ (by omega) (by omega)))))
      refine wpQuiet_nil ?_
      intro wq hw'
      obtain ⟨⟨_, kq⟩, hw''⟩ := hw'
      subst hw''
      try dsimp only
      obtain ⟨q1, q2, q3⟩ := HQ.out
      have z1 := (kq.cell hb).trans q1
      have z2 := (kq.cell hb).trans q2
      have z3 := (kq.cell hb).trans q3
      unfold markE at z1 z2 z3
      dsimp only at z1 z2 z3
      have n1 : (k + 4 * (j : Int) + 1 != k + 4 * (j : Int) + 1) = false := by simp
      have n2 : (k + 4 * (j : Int) + 2 != k + 4 * (j : Int) + 2) = false := by simp
      have n3 : (k + 4 * (j : Int) + 3 != k + 4 * (j : Int) + 3) = false := by simp
      clear q1 q2 q3
      go_wp2_with fail
      go_roundw
      case rel => exact ⟨j + 1, by omega, by go_num, by go_num, hkept.drew.trans kq⟩
      case measure => simp [intOf]; omega
    · obtain rfl : j = n := by omega
      go_wp2_with fail
      go_ret
      exact ⟨rfl, hkept⟩
def markK (k : Int) (x : CodeD) : CodeD := { x with elems := marksE k x.elems.length, limits := marksI (k + 4 * x.elems.length) x.limits.length }
def nextC (k : Int) (x : CodeD) : Int := k + 4 * x.elems.length + x.limits.length
theorem OwnK.nodup {w : World} {base : Nat} {v : Value} {x : CodeD} (h : OwnK w base v x) : (fpA v).Nodup := by
  obtain ⟨_, _, _, _, _, h⟩ := h
  exact h
set_option maxHeartbeats 1000000 in
theorem markCode_any (v : Value) (x : CodeD) (k : Int) (w : World) (base : Nat) (h : OwnK w base v x) (hk : 1 ≤ k) (hk2 : k ≤ 137438953472) (hn : x.elems.length ≤ 1048576) (hm : x.limits.length ≤ 1048576) :
    Calls Try.prog 15 #[v, .int .i64 k] w fun e w' => e = .returned (.int .i64 (nextC k x)) ∧ OwnK w' base v (markK k x) ∧ Only (fpA v) w w' := by
  obtain ⟨nv, mv, rfl, o1, o2, nd⟩ := h
  obtain ⟨A, c, rfl, _, _, _⟩ := own_form o1.1
  obtain ⟨A2, c2, rfl, _, _, _⟩ := own_form o2
  have ND := Lib.hid nd
  rw [fpA_code] at nd
  have HD := Lib.hid (List.nodup_append.1 nd).2.2
  have O1 := Lib.hid o1
  have O2 := Lib.hid o2
  have B0 := Box.new w w.heap.size 32 #[.slice A x.elems.length c, .slice A2 x.limits.length c2, .int .i64 x.repeats, .int .i64 x.bonus, .int .i64 x.keeps, .int .i64 x.fall] rfl
  have K0 : Kept w (w.alloc (.cells #[.slice A x.elems.length c, .slice A2 x.limits.length c2, .int .i64 x.repeats, .int .i64 x.bonus, .int .i64 x.keeps, .int .i64 x.fall] 32)) := (Kept.refl w).alloc _
  have F1 := Lib.hid (own_fp o1.1)
  have F2 := Lib.hid (own_fp o2)
  clear nd o1 o2
  go_enter Try.func15, Try.ntmps15
  go_wp2_with fail
  refine (markElementS_any _ x.elems _ _ base (O1.out.kept K0) hk (by omega) hn).mono ?_
  rintro e w1 ⟨rfl, o1, on1⟩
  have B1 := B0.only on1 (fun hb => by have := F1.out _ hb; omega)
  obtain ⟨x0, y0⟩ := B1.six
  go_wp2_with fail
  clear x0 y0
  refine (markIntS_any _ x.limits _ _ base ((O2.out.kept K0).only on1 (fun b hb hb' => HD.out b hb' b hb rfl)) (by omega) (by omega) hm).mono ?_
  rintro e w2 ⟨rfl, o2, on2⟩
  go_wp2_with fail
  go_ret
  refine ⟨ret_int (by unfold nextC; rfl), ⟨_, _, rfl, ?_, ?_, ND.out⟩, ?_⟩
  · exact o1.only on2 (fun b hb hb' => HD.out b hb b hb' rfl)
  · exact o2
  · rw [fpA_code]
    exact (K0.only _).trans ((on1.mono (fun b hb => List.mem_append_left _ hb)).trans (on2.mono (fun b hb => List.mem_append_right _ hb)))
set_option maxHeartbeats 1000000 in
theorem heldCode_any (v : Value) (x : CodeD) (k : Int) (w : World) (h : CodeAt w v (markK k x)) (hk : 1 ≤ k) (hk2 : k ≤ 137438953472) (hn : x.elems.length ≤ 1048576) (hm : x.limits.length ≤ 1048576) :
    Calls Try.prog 16 #[v, .int .i64 k] w fun e w' => e = .returned (.int .i64 (nextC k x)) ∧ Kept w w' := by
  obtain ⟨nv, mv, rfl, q1, q2⟩ := h
  obtain ⟨A, c, rfl, _, _, _⟩ := q1.1.out
  obtain ⟨A2, c2, rfl, _, _, _⟩ := q2.out
  have H1 := Lib.hid q1
  have H2 := Lib.hid q2
  clear q1 q2
  unfold markK
  dsimp only
  have K0 : Kept w (w.alloc (.cells #[.slice A (marksE k x.elems.length).length c, .slice A2 (marksI (k + 4 * x.elems.length) x.limits.length).length c2, .int .i64 x.repeats, .int .i64 x.bonus, .int .i64 x.keeps, .int .i64 x.fall] 32)) := (Kept.refl w).alloc _
  have B0 := Box.new w w.heap.size 32 #[.slice A (marksE k x.elems.length).length c, .slice A2 (marksI (k + 4 * x.elems.length) x.limits.length).length c2, .int .i64 x.repeats, .int .i64 x.bonus, .int .i64 x.keeps, .int .i64 x.fall] rfl
  go_enter Try.func16, Try.ntmps16
  go_wp2_with fail
  refine (heldElementS_any _ k x.elems.length _ (H1.out.kept K0) hk (by omega) hn).mono ?_
  rintro e w1 ⟨rfl, k1⟩
  obtain ⟨x0, y0⟩ := (B0.kept k1).six
  have K1 := K0.trans k1
  go_wp2_with fail
  clear x0 y0
  refine (heldIntS_any _ _ x.limits.length _ (H2.out.kept K1) (by omega) (by omega) hm).mono ?_
  rintro e w2 ⟨rfl, k2⟩
  subst k2
  go_wp2_with fail
  go_ret
  exact ⟨ret_int (by unfold nextC; rfl), K1⟩
end Go.Proofs.Ytpkmngkepmoikaa
