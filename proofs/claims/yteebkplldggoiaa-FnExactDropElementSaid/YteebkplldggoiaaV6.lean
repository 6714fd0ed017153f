/- Codes: ElementWorth. -/
import Derived.Test.YteebkplldggoiaaV5
namespace Go.Proofs.Yteebkplldggoiaa
open Go.RowKit

theorem codeB_elem {x : CodeD} {k : Nat} {y : ElemD} (h : codeB x = true) (hy : x.elems[k]? = some y) : elemB y = true := by
  unfold codeB elemsB at h
  simp only [Bool.and_eq_true] at h
  have h1 := List.all_eq_true.1 h.2 k (by have := (List.getElem?_eq_some_iff.1 hy).1; simpa using this)
  unfold stepB at h1
  rw [hy] at h1
  simp only [Bool.and_eq_true] at h1
  exact h1.1
theorem elemB_parts {y : ElemD} (h : elemB y = true) : (0 ≤ y.family ∧ y.family ≤ 4) ∧ (0 ≤ y.level ∧ y.level ≤ 4) ∧ 1 ≤ y.base ∧ y.base ≤ 2000 := by
  unfold elemB at h
  simp only [Bool.and_eq_true] at h
  exact ⟨inB_true h.1.1.2, inB_true h.1.2, inB_true h.2⟩
theorem codeB_rests {x : CodeD} (h : codeB x = true) : (1 ≤ x.repeats ∧ x.repeats ≤ 3) ∧ (0 ≤ x.bonus ∧ x.bonus ≤ 20) ∧ (50 ≤ x.keeps ∧ x.keeps ≤ 100) ∧ 0 ≤ x.fall ∧ x.fall ≤ 500 := by
  unfold codeB restB at h
  simp only [Bool.and_eq_true] at h
  exact ⟨inB_true h.1.2.1.1.1, inB_true h.1.2.1.1.2, inB_true h.1.2.1.2, inB_true h.1.2.2⟩
theorem codeB_heads {x : CodeD} (h : codeB x = true) : (1 ≤ x.elems.length ∧ x.elems.length ≤ 24) ∧ x.limits.length = 5 := by
  unfold codeB headB at h
  simp only [Bool.and_eq_true] at h
  have := inB_true h.1.1.1.1
  exact ⟨⟨by omega, by omega⟩, by simpa using h.1.1.1.2⟩
def worthN (keeps base m : Int) : Int := if m = 1 then base * keeps / 100 else if m = 2 then base * 9 / 10 else if m = 3 then 0 else base
theorem worthN_nonneg {keeps base : Int} (m : Int) (h1 : 0 ≤ keeps) (h2 : 0 ≤ base) : 0 ≤ worthN keeps base m := by
  have := Int.mul_nonneg h2 h1
  unfold worthN
  split
  · exact Int.ediv_nonneg this (by omega)
  · split
    · exact Int.ediv_nonneg (by omega) (by omega)
    · split <;> omega
def worthAt (x : CodeD) (s : ByteArray) (m : Int) : Int := if 0 ≤ findV x.elems s then match x.elems[(findV x.elems s).toNat]? with | some y => worthN x.keeps y.base m | none => -1 else -1
theorem worthAt_none {x : CodeD} {s : ByteArray} (m : Int) (h : findV x.elems s = -1) : worthAt x s m = -1 := by unfold worthAt; rw [h]; rfl
theorem worthAt_hit {x : CodeD} {s : ByteArray} {k : Nat} {y : ElemD} (m : Int) (h : findV x.elems s = k) (hy : x.elems[k]? = some y) : worthAt x s m = worthN x.keeps y.base m := by
  unfold worthAt
  rw [h, if_pos (by omega), Int.toNat_natCast, hy]
def ewOk (x : CodeD) (s : ByteArray) (m : Int) : Bool := feOk x s && inB m 0 3
def ewV (x : CodeD) (s : ByteArray) (m : Int) : Int := if ewOk x s m then worthAt x s m else 0
theorem ewV_no {x : CodeD} {s : ByteArray} {m : Int} (h : ewOk x s m = false) : ewV x s m = 0 := by unfold ewV; rw [h]; rfl
theorem ewV_yes {x : CodeD} {s : ByteArray} {m : Int} (h : ewOk x s m = true) : ewV x s m = worthAt x s m := if_pos h
theorem feOk_hit {x : CodeD} {s : ByteArray} {k : Nat} (hc : codeB x = true) (h : findV x.elems s = k) : feOk x s = true := by
  unfold feOk
  rw [hc, h, Bool.true_and]
  exact decide_eq_true (by omega)
theorem feOk_none {x : CodeD} {s : ByteArray} (h : findV x.elems s = -1) : feOk x s = false := by
  unfold feOk
  rw [h]
  exact Bool.and_false _
theorem isMark_any (n : Int) (w : World) :
    Calls Try.prog 65 #[.int .i64 n] w fun e w' => e = .returned (.bool (inB n 0 3)) ∧ w = w' := by
  go_enter Try.func65, Try.ntmps65
  go_wp2_with (go_at_call 55; refine (within_any _ _ _ _).mono ?_; rintro e w' ⟨rfl, rfl⟩)
  go_ret
  exact ⟨rfl, rfl⟩
set_option maxHeartbeats 1000000 in
theorem worthOf_any (v v1 : Value) (x : CodeD) (y : ElemD) (m : Int) (w : World) (h : CodeAt w v x) (h1 : ElemAt w v1 y) (hk : 50 ≤ x.keeps ∧ x.keeps ≤ 100) (hy : 1 ≤ y.base ∧ y.base ≤ 2000) :
    Calls Try.prog 66 #[v, v1, .int .i64 m] w fun e w' => e = .returned (.int .i64 (worthN x.keeps y.base m)) ∧ Kept w w' := by
  obtain ⟨nv, mv, rfl, q1, q2⟩ := h
  obtain ⟨A, c, rfl, _, _, _⟩ := q1.1.out
  obtain ⟨A2, c2, rfl, _, _, _⟩ := q2.out
  obtain ⟨rfl, _⟩ := h1
  clear q1 q2
  obtain ⟨hk1, hk2⟩ := hk
  obtain ⟨hy1, hy2⟩ := hy
  have hp : y.base * x.keeps ≤ 200000 := by
    have h1 := Int.mul_le_mul_of_nonneg_left hk2 (show (0 : Int) ≤ y.base by omega)
    omega
  have hp0 : 0 ≤ y.base * x.keeps := Int.mul_nonneg (by omega) (by omega)
  have K0 : Kept w ((w.alloc (.cells #[.slice A x.elems.length c, .slice A2 x.limits.length c2, .int .i64 x.repeats, .int .i64 x.bonus, .int .i64 x.keeps, .int .i64 x.fall] 30)).alloc (.cells #[.string y.name, .int .i64 y.family, .int .i64 y.level, .int .i64 y.base] 53)) := ((Kept.refl w).alloc _).alloc _
  by_cases m1 : m = 1
  · subst m1
    go_enter Try.func66, Try.ntmps66
    go_wp2_with fail
    go_ret
    exact ⟨ret_int (by unfold worthN; rw [if_pos rfl]), K0⟩
  · by_cases m2 : m = 2
    · subst m2
      go_enter Try.func66, Try.ntmps66
      go_wp2_with fail
      go_ret
      exact ⟨ret_int (by unfold worthN; rw [if_neg (by omega), if_pos rfl]), K0⟩
    · by_cases m3 : m = 3
      · subst m3
        go_enter Try.func66, Try.ntmps66
        go_wp2_with fail
        go_ret
        exact ⟨ret_int (by unfold worthN; rw [if_neg (by omega), if_neg (by omega), if_pos rfl]), K0⟩
      · have e1 : (m == 1) = false := beq_eq_false_iff_ne.2 m1
        have e2 : (m == 2) = false := beq_eq_false_iff_ne.2 m2
        have e3 : (m == 3) = false := beq_eq_false_iff_ne.2 m3
        have HN := Lib.hid (show worthN x.keeps y.base m = y.base from by unfold worthN; rw [if_neg m1, if_neg m2, if_neg m3])
        clear m1 m2 m3
        go_enter Try.func66, Try.ntmps66
        go_wp2_with fail
        go_ret
        exact ⟨ret_int HN.out.symm, K0⟩
set_option maxHeartbeats 1000000 in
theorem bsWorth_any (v : Value) (x : CodeD) (s : ByteArray) (m : Int) (w : World) (h : CodeAt w v x) (hx : codeB x = true) :
    Calls Try.prog 64 #[v, .string s, .int .i64 m] w fun e w' => e = .returned (.int .i64 (worthAt x s m)) ∧ Kept w w' := by
  have h0 := h
  obtain ⟨nv, mv, rfl, q1, q2⟩ := h
  obtain ⟨A, c, rfl, hnc, hcm, hl⟩ := q1.1.out
  obtain ⟨A2, c2, rfl, _, _, _⟩ := q2.out
  unfold maxLen at hcm
  have HL := Lib.hid hl
  have HS := Lib.hid q1.2
  have H0 := Lib.hid h0
  clear h0 q1 q2 hl
  have B0 := Box.new w w.heap.size 30 #[.slice A x.elems.length c, .slice A2 x.limits.length c2, .int .i64 x.repeats, .int .i64 x.bonus, .int .i64 x.keeps, .int .i64 x.fall] rfl
  have K0 : Kept w (w.alloc (.cells #[.slice A x.elems.length c, .slice A2 x.limits.length c2, .int .i64 x.repeats, .int .i64 x.bonus, .int .i64 x.keeps, .int .i64 x.fall] 30)) := (Kept.refl w).alloc _
  obtain ⟨_, _, ⟨hk1, hk2⟩, _⟩ := codeB_rests hx
  go_enter Try.func64, Try.ntmps64
  go_wp2_with fail
  refine (cdFind_any _ x s _ (H0.out.kept K0)).mono ?_
  rintro e w1 ⟨rfl, k1⟩
  have K1 := K0.trans k1
  rcases findV_cases x.elems s with hf | ⟨k, y, hf, hy, hit⟩
  · have HN := Lib.hid (worthAt_none m hf)
    rw [hf]
    clear hf
    go_wp2_with fail
    go_ret
    exact ⟨ret_int HN.out.symm, K1⟩
  · have hlt : k < x.elems.length := (List.getElem?_eq_some_iff.1 hy).1
    obtain ⟨b, o, y', rfl, hb', h2, q0, q1, q2, q3⟩ := elems_at (HL.out.kept K1) hlt
    rw [hy] at h2
    injection h2 with h2
    subst h2
    obtain ⟨_, _, hy1, hy2⟩ := elemB_parts (codeB_elem hx hy)
    have HN := Lib.hid (worthAt_hit m hf hy)
    have hp : y.base * x.keeps ≤ 200000 := by
      have h1 := Int.mul_le_mul_of_nonneg_left hk2 (show (0 : Int) ≤ y.base by omega)
      omega
    have hp0 : 0 ≤ y.base * x.keeps := Int.mul_nonneg (by omega) (by omega)
    rw [hf]
    clear hf hy hit
    obtain ⟨x0, y0⟩ := (B0.kept k1).six
    by_cases m1 : m = 1
    · subst m1
      go_wp2_with fail
      go_ret
      exact ⟨ret_int (by rw [HN.out]; unfold worthN; rw [if_pos rfl]), K1⟩
    · by_cases m2 : m = 2
      · subst m2
        go_wp2_with fail
        go_ret
        exact ⟨ret_int (by rw [HN.out]; unfold worthN; rw [if_neg (by omega), if_pos rfl]), K1⟩
      · by_cases m3 : m = 3
        · subst m3
          go_wp2_with fail
          go_ret
          exact ⟨ret_int (by rw [HN.out]; unfold worthN; rw [if_neg (by omega), if_neg (by omega), if_pos rfl]), K1⟩
        · have e1 : (m == 1) = false := beq_eq_false_iff_ne.2 m1
          have e2 : (m == 2) = false := beq_eq_false_iff_ne.2 m2
          have e3 : (m == 3) = false := beq_eq_false_iff_ne.2 m3
          have HN' := Lib.hid (HN.out.trans (show worthN x.keeps y.base m = y.base from by unfold worthN; rw [if_neg m1, if_neg m2, if_neg m3]))
          clear m1 m2 m3
          go_wp2_with fail
          go_ret
          exact ⟨ret_int HN'.out.symm, K1⟩
set_option maxHeartbeats 1000000 in
theorem specElementWorth_any (v : Value) (x : CodeD) (s : ByteArray) (m : Int) (w : World) (h : CodeAt w v x) (_ : s.size ≤ maxLen) :
    Calls Try.prog 22 #[v, .string s, .int .i64 m] w fun e w' => e = .returned (.tuple #[.int .i64 (ewV x s m), .bool (ewOk x s m)]) ∧ Kept w w' := by
  have h0 := h
  obtain ⟨nv, mv, rfl, q1, q2⟩ := h
  obtain ⟨A, c, rfl, hnc, hcm, hl⟩ := q1.1.out
  obtain ⟨A2, c2, rfl, _, _, _⟩ := q2.out
  unfold maxLen at hcm
  have HL := Lib.hid hl
  have HS := Lib.hid q1.2
  have H0 := Lib.hid h0
  clear h0 q1 q2 hl
  have B0 := Box.new w w.heap.size 30 #[.slice A x.elems.length c, .slice A2 x.limits.length c2, .int .i64 x.repeats, .int .i64 x.bonus, .int .i64 x.keeps, .int .i64 x.fall] rfl
  have K0 : Kept w (w.alloc (.cells #[.slice A x.elems.length c, .slice A2 x.limits.length c2, .int .i64 x.repeats, .int .i64 x.bonus, .int .i64 x.keeps, .int .i64 x.fall] 30)) := (Kept.refl w).alloc _
  go_enter Try.func22, Try.ntmps22
  go_wp2_with fail
  refine (cdGood_any _ x _ (H0.out.kept K0)).mono ?_
  rintro e w1 ⟨rfl, k1⟩
  have K1 := K0.trans k1
  by_cases hc : codeB x = true
  case neg =>
    simp only [Bool.not_eq_true] at hc
    have HO := Lib.hid (show ewOk x s m = false from by unfold ewOk feOk; rw [hc]; rfl)
    rw [hc]
    go_wp2_with fail
    go_ret2
    exact ⟨ret_ib (ewV_no HO.out).symm HO.out.symm, K1⟩
  rw [hc]
  by_cases hm : inB m 0 3 = true
  case neg =>
    simp only [Bool.not_eq_true] at hm
    have HO := Lib.hid (show ewOk x s m = false from by unfold ewOk; rw [hm, Bool.and_false])
    go_wp2_with (go_at_call 63; refine (l1In_any _ _ _ _).mono ?_; rintro e w' ⟨rfl, rfl⟩)
    go_ret2
    exact ⟨ret_ib (ewV_no HO.out).symm HO.out.symm, K1⟩
  obtain ⟨x0, y0⟩ := (B0.kept k1).six
  go_wp2_with (go_at_call 63; refine (l1In_any _ _ _ _).mono ?_; rintro e w' ⟨rfl, rfl⟩)
  clear x0 y0
  refine (bsWorth_any _ x s m _ (H0.out.kept K1) hc).mono ?_
  rintro e w2 ⟨rfl, k2⟩
  have K2 := K1.trans k2
  rcases findV_cases x.elems s with hf | ⟨k, y, hf, hy, hit⟩
  · have HO := Lib.hid (show ewOk x s m = false from by unfold ewOk; rw [feOk_none hf]; rfl)
    rw [worthAt_none m hf]
    clear hf
    go_wp2_with fail
    go_ret2
    exact ⟨ret_ib (ewV_no HO.out).symm HO.out.symm, K2⟩
  · have HO := Lib.hid (show ewOk x s m = true from by unfold ewOk; rw [feOk_hit hc hf, hm]; rfl)
    have hnn : ¬ worthAt x s m < 0 := by
      rw [worthAt_hit m hf hy]
      exact Int.not_lt.2 (worthN_nonneg m (by have := codeB_rests hc; omega) (by have := elemB_parts (codeB_elem hc hy); omega))
    clear hf hy hit
    obtain ⟨x0, y0⟩ := ((B0.kept k1).kept k2).six
    go_wp2_with fail
    clear x0 y0
    refine (bsWorth_any _ x s m _ (H0.out.kept K2) hc).mono ?_
    rintro e w3 ⟨rfl, k3⟩
    go_wp2_with fail
    go_ret2
    exact ⟨ret_ib (ewV_yes HO.out).symm HO.out.symm, K2.trans k3⟩
set_option maxHeartbeats 1000000 in
theorem implElementWorth_any (v : Value) (x : CodeD) (s : ByteArray) (m : Int) (w : World) (h : CodeAt w v x) (hs : s.size ≤ maxLen) :
    Calls Try.prog 23 #[v, .string s, .int .i64 m] w fun e w' => e = .returned (.tuple #[.int .i64 (ewV x s m), .bool (ewOk x s m)]) ∧ Kept w w' := by
  have h0 := h
  obtain ⟨nv, mv, rfl, q1, q2⟩ := h
  obtain ⟨A, c, rfl, hnc, hcm, hl⟩ := q1.1.out
  obtain ⟨A2, c2, rfl, _, _, _⟩ := q2.out
  unfold maxLen at hcm
  have HL := Lib.hid hl
  have HS := Lib.hid q1.2
  have H0 := Lib.hid h0
  clear h0 q1 q2 hl
  have B0 := Box.new w w.heap.size 30 #[.slice A x.elems.length c, .slice A2 x.limits.length c2, .int .i64 x.repeats, .int .i64 x.bonus, .int .i64 x.keeps, .int .i64 x.fall] rfl
  have K0 : Kept w (w.alloc (.cells #[.slice A x.elems.length c, .slice A2 x.limits.length c2, .int .i64 x.repeats, .int .i64 x.bonus, .int .i64 x.keeps, .int .i64 x.fall] 30)) := (Kept.refl w).alloc _
  go_enter Try.func23, Try.ntmps23
  go_wp2_with fail
  refine (implFindElement_any _ x s _ (H0.out.kept K0) hs).mono ?_
  rintro e w1 ⟨rfl, k1⟩
  have K1 := K0.trans k1
  by_cases hc : feOk x s = true
  case neg =>
    simp only [Bool.not_eq_true] at hc
    have HO := Lib.hid (show ewOk x s m = false from by unfold ewOk; rw [hc]; rfl)
    rw [hc]
    go_wp2_with fail
    go_ret2
    exact ⟨ret_ib (ewV_no HO.out).symm HO.out.symm, K1⟩
  have HF := Lib.hid (feV_yes hc)
  rw [hc]
  by_cases hm : inB m 0 3 = true
  case neg =>
    simp only [Bool.not_eq_true] at hm
    have HO := Lib.hid (show ewOk x s m = false from by unfold ewOk; rw [hm, Bool.and_false])
    go_wp2_with (go_at_call 65; refine (isMark_any _ _).mono ?_; rintro e w' ⟨rfl, rfl⟩)
    go_ret2
    exact ⟨ret_ib (ewV_no HO.out).symm HO.out.symm, K1⟩
  have hcode : codeB x = true := by unfold feOk at hc; rw [Bool.and_eq_true] at hc; exact hc.1
  have HO := Lib.hid (show ewOk x s m = true from by unfold ewOk; rw [hc, hm]; rfl)
  rcases findV_cases x.elems s with hf | ⟨k, y, hf, hy, hit⟩
  · rw [feOk_none hf] at hc
    cases hc
  · have hlt : k < x.elems.length := (List.getElem?_eq_some_iff.1 hy).1
    obtain ⟨b, o, y', rfl, hb', h2, q0, q1, q2, q3⟩ := elems_at (HL.out.kept K1.drew) hlt
    rw [hy] at h2
    injection h2 with h2
    subst h2
    have hyp := elemB_parts (codeB_elem hcode hy)
    have HY := Lib.hid hyp.2.2
    have HK := Lib.hid (codeB_rests hcode).2.2.1
    have HN := Lib.hid (worthAt_hit m hf hy)
    have hys := HS.out y (List.mem_of_getElem? hy)
    have hlt' : (k : Int) < (x.elems.length : Int) := by omega
    rw [show feV x s = (k : Int) from HF.out.trans hf]
    clear hf hy hit hyp hc
    go_wp2_with (go_at_call 65; refine (isMark_any _ _).mono ?_; rintro e w' ⟨rfl, rfl⟩)
    have B1 := (B0.kept k1).kept ((Kept.refl w1).drew)
    have x0 := fun t : After w1.drew => (B1.kept t.kept).six.1
    have y0 := After.cell q0 hb'
    have y1 := After.cell q1 hb'
    have y2 := After.cell q2 hb'
    have y3 := After.cell q3 hb'
    have HC := Lib.hid (H0.out.kept K1.drew)
    clear q0 q1 q2 q3
    refine region_after (by kernel_rfl) (by kernel_rfl) ?_
    repeat (go_big_quiet_step ((go_at_call 66; exact after_of (worthOf_any _ _ x y m _ (HC.out.kept (After.kept _)) (ElemAt.mk y _ hys) HK.out HY.out))))
    refine wpQuiet_nil ?_
    intro _ hw'
    obtain ⟨⟨wq, kq⟩, hw''⟩ := hw'
    subst hw''
    try dsimp only
    go_wp2_with fail
    go_ret2
    exact ⟨ret_ib (by rw [ewV_yes HO.out, HN.out]) HO.out.symm, K1.drew.trans kq⟩
set_option maxHeartbeats 1000000 in
theorem lawElementWorth_any {w : World} {v0 : Value} (z0 : CodeD) (a1 : ByteArray) (a2 : Int) (h0 : CodeAt w v0 z0) (hs1 : a1.size ≤ maxLen) (_ : (Lit.int .i64 a2).wf = true) :
    Calls Try.prog 6 #[v0, .string a1, .int .i64 a2] w fun e w' => e = .returned (.bool true) ∧ Kept w w' := by
  have H0 := Lib.hid h0
  obtain ⟨n0, m0, rfl, p0, q0⟩ := h0
  obtain ⟨A0, c0, rfl, _⟩ := p0.1.out
  obtain ⟨D0, d0, rfl, _⟩ := q0.out
  clear p0 q0
  go_enter Try.func6, Try.ntmps6
  have B0 := Box.new w (w.heap.size) 25 #[.slice A0 z0.elems.length c0, .slice D0 z0.limits.length d0, .int .i64 z0.repeats, .int .i64 z0.bonus, .int .i64 z0.keeps, .int .i64 z0.fall] (by simp)
  have K0 : Kept w (w.alloc (.cells #[.slice A0 z0.elems.length c0, .slice D0 z0.limits.length d0, .int .i64 z0.repeats, .int .i64 z0.bonus, .int .i64 z0.keeps, .int .i64 z0.fall] 25)) := (Kept.refl w).alloc _
  have hm1 := hs1
  unfold maxLen at hm1
  by_cases hbig1 : a1.size ≤ 1048576
  case neg =>
    go_wp2_with fail
    go_ret
    exact ⟨rfl, K0⟩
  obtain ⟨x0, y0⟩ := B0.six
  go_wp2_with fail
  clear x0 y0
  refine (szCode_any _ z0 _ _ (H0.out.kept K0) (by omega) (by omega)).mono ?_
  rintro e w1 ⟨rfl, k1⟩
  replace B0 := B0.kept k1
  have K1 := K0.trans k1
  by_cases hbig0 : ((z0.size : Nat) : Int) ≤ 1048576
  case neg =>
    have e1 : lessOr 1048576 (z0.size) = -1 := by unfold lessOr; exact if_neg (by omega)
    rw [e1]
    go_wp2_with fail
    go_ret
    exact ⟨rfl, K1⟩
  have e1 : lessOr 1048576 (z0.size) = 1048576 - (z0.size : Int) := by unfold lessOr; exact if_pos (by omega)
  rw [e1]
  clear e1
  have hparts0 := code_parts z0
  obtain ⟨x0, y0⟩ := B0.six
  go_wp2_with fail
  clear x0 y0
  refine (toCode_any _ z0 _ (H0.out.kept K1) (by omega) (by omega)).mono ?_
  rintro e w2 ⟨u2, rfl, o2, k2⟩
  replace B0 := B0.kept k2
  have K2 := K1.trans k2
  have R2 := Lib.hid o2.code
  clear o2
  obtain ⟨x0, y0⟩ := B0.six
  go_wp2_with fail
  clear x0 y0
  refine (specElementWorth_any _ z0 _ _ _ R2.out hs1).mono ?_
  rintro e w3 ⟨rfl, k3⟩
  replace B0 := B0.kept k3
  replace R2 := Lib.hid (R2.out.kept k3)
  have K3 := K2.trans k3
  clear R2
  obtain ⟨x0, y0⟩ := B0.six
  go_wp2_with fail
  clear x0 y0
  refine (toCode_any _ z0 _ (H0.out.kept K3) (by omega) (by omega)).mono ?_
  rintro e w4 ⟨u4, rfl, o4, k4⟩
  replace B0 := B0.kept k4
  have K4 := K3.trans k4
  have R4 := Lib.hid o4.code
  obtain ⟨n4, m4, rfl, p4, q4, _⟩ := o4
  obtain ⟨A4, c4, rfl, _⟩ := own_form p4.1
  obtain ⟨D4, d4, rfl, _⟩ := own_form q4
  clear p4 q4
  obtain ⟨x0, y0⟩ := B0.six
  go_wp2_with fail
  clear x0 y0
  have KB4 : Kept w4 (w4.alloc (.cells #[.slice A4 z0.elems.length c4, .slice D4 z0.limits.length d4, .int .i64 z0.repeats, .int .i64 z0.bonus, .int .i64 z0.keeps, .int .i64 z0.fall] 30)) := (Kept.refl _).alloc _
  replace B0 := B0.kept KB4
  replace R4 := Lib.hid (R4.out.kept KB4)
  have B4 := Box.new w4 w4.heap.size 30 #[.slice A4 z0.elems.length c4, .slice D4 z0.limits.length d4, .int .i64 z0.repeats, .int .i64 z0.bonus, .int .i64 z0.keeps, .int .i64 z0.fall] rfl
  have KN4 := K4.trans KB4
  refine (implElementWorth_any _ z0 _ _ _ R4.out hs1).mono ?_
  rintro e w5 ⟨rfl, k5⟩
  replace B0 := B0.kept k5
  replace B4 := B4.kept k5
  replace R4 := Lib.hid (R4.out.kept k5)
  have K5 := KN4.trans k5
  obtain ⟨x0, y0⟩ := B0.six
  obtain ⟨x4, y4⟩ := B4.six
  go_wp2_with fail
  clear x0 y0 x4 y4
  replace B0 : Box w5.drew (w.heap.size) 25 #[.slice A0 z0.elems.length c0, .slice D0 z0.limits.length d0, .int .i64 z0.repeats, .int .i64 z0.bonus, .int .i64 z0.keeps, .int .i64 z0.fall] := B0
  replace B4 : Box w5.drew (w4.heap.size) 30 #[.slice A4 z0.elems.length c4, .slice D4 z0.limits.length d4, .int .i64 z0.repeats, .int .i64 z0.bonus, .int .i64 z0.keeps, .int .i64 z0.fall] := B4
  replace R4 := Lib.hid (R4.out.kept (Kept.refl w5).drew)
  have K6d := K5.drew
  go_region_held3 (fun w' => (w'.cell? ⟨w.heap.size, 0, none⟩ = some (.slice A0 z0.elems.length c0) ∧ w'.cell? ⟨w.heap.size, 1, none⟩ = some (.slice D0 z0.limits.length d0) ∧ w'.cell? ⟨w.heap.size, 2, none⟩ = some (.int .i64 z0.repeats) ∧ w'.cell? ⟨w.heap.size, 3, none⟩ = some (.int .i64 z0.bonus) ∧ w'.cell? ⟨w.heap.size, 4, none⟩ = some (.int .i64 z0.keeps) ∧ w'.cell? ⟨w.heap.size, 5, none⟩ = some (.int .i64 z0.fall)) ∧ (w'.cell? ⟨w4.heap.size, 0, none⟩ = some (.slice A4 z0.elems.length c4) ∧ w'.cell? ⟨w4.heap.size, 1, none⟩ = some (.slice D4 z0.limits.length d4) ∧ w'.cell? ⟨w4.heap.size, 2, none⟩ = some (.int .i64 z0.repeats) ∧ w'.cell? ⟨w4.heap.size, 3, none⟩ = some (.int .i64 z0.bonus) ∧ w'.cell? ⟨w4.heap.size, 4, none⟩ = some (.int .i64 z0.keeps) ∧ w'.cell? ⟨w4.heap.size, 5, none⟩ = some (.int .i64 z0.fall))) (first | exact ⟨B0.six.1, B4.six.1⟩ | exact ⟨(B0.kept (by assumption)).six.1, (B4.kept (by assumption)).six.1⟩)
    (first | (go_at_call 15; refine (toCode_any _ z0 _ (H0.out.kept K6d) (by omega) (by omega)).mono ?_; rintro e w6 ⟨u6, rfl, o6, k6⟩) | (go_at_call 17; refine (eqCode_any _ _ z0 _ (R4.out.kept k6) o6.code).mono ?_; rintro e w7 ⟨rfl, k7⟩; have kk7 := k6.trans k7))
  clear o6
  replace B0 := B0.kept kk7
  replace B4 := B4.kept kk7
  replace R4 := Lib.hid (R4.out.kept kk7)
  have K7 := K6d.trans kk7
  go_wp2_with fail
  go_ret
  exact ⟨rfl, K7⟩
end Go.Proofs.Yteebkplldggoiaa
