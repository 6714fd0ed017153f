/- The texts that the proof of FnExactBaseValues leans on, part 6. No condition. -/
import Derived.Test.YtpkmngkepmoikaaMgBaseValues4
/- Items over a code: bases of items, laws. -/
namespace Go.Proofs.Ytpkmngkepmoikaa
set_option linter.unusedVariables false
set_option linter.unusedSimpArgs false
open Go.RowKit

theorem ret_vb2 {v : Value} {b b' : Bool} (h : b = b') : Ending.returned (.tuple #[v, .bool b]) = .returned (.tuple #[v, .bool b']) := by rw [h]
set_option maxHeartbeats 2000000 in
theorem bsItem_any (v0 v1 : Value) (x : CodeD) (its : List ItemD) (k : Nat) (w : World) (h0 : CodeAt w v0 x) (h1 : ItemsAt w v1 its) (hg : gdB x its = true) (hk : k < its.length) :
    Calls Try.prog 53 #[v0, v1, .int .i64 (k : Int)] w fun e w' => e = .returned (.int .i64 (baseV x its k)) ∧ Kept w w' := by
  have H0 := Lib.hid h0
  obtain ⟨n0, m0, rfl, p0, q0⟩ := h0
  have HE0 := Lib.hid p0; have HI0 := Lib.hid q0
  obtain ⟨A0, c0, rfl, hnc0, hcm0, _⟩ := p0.1.out; obtain ⟨D0, d0, rfl, hnd0, hdm0, _⟩ := q0.out; clear p0 q0; unfold maxLen at hcm0 hdm0
  have H1 := Lib.hid h1
  obtain ⟨A1, c1, cs1, rfl, hnc1, hcm1, hA1⟩ := h1.out; have HA1 := Lib.hid hA1; clear hA1 h1; unfold maxLen at hcm1
  obtain ⟨hx, hb, hkn⟩ := gdB_true hg
  have hkl : (k : Int) < (its.length : Int) := by omega
  have hl14 := (itemsB_true hb).1
  go_enter Try.func53, Try.ntmps53
  have K0 := Kept.refl w
  go_wp2_with fail
  obtain ⟨wb1, hwb1⟩ : ∃ w' : World, w' = w.alloc (.cells #[.slice A0 x.elems.length c0, .slice D0 x.limits.length d0, .int .i64 x.repeats, .int .i64 x.bonus, .int .i64 x.keeps, .int .i64 x.fall] 32) := ⟨_, rfl⟩
  rw [← hwb1]
  have KB0 : Kept w wb1 := hwb1 ▸ (Kept.refl w).alloc _
  have B0 : Box wb1 (w.heap.size) 32 #[.slice A0 x.elems.length c0, .slice D0 x.limits.length d0, .int .i64 x.repeats, .int .i64 x.bonus, .int .i64 x.keeps, .int .i64 x.fall] := hwb1 ▸ Box.new w (w.heap.size) 32 #[.slice A0 x.elems.length c0, .slice D0 x.limits.length d0, .int .i64 x.repeats, .int .i64 x.bonus, .int .i64 x.keeps, .int .i64 x.fall] rfl
  have swb1 : wb1.heap.size = w.heap.size + 1 := by rw [hwb1]; simp
  clear hwb1
  have Kwb1 := K0.trans KB0
  have Kd1_ : Kept wb1 wb1.drew := (Kept.refl _).drew
  replace B0 := B0.kept Kd1_
  have Kd1 := Kwb1.trans Kd1_
  obtain ⟨b, o, Aa, ca, Ab, cb, it, rfl, hbb, h2, h3, hit, q0, q1, q2⟩ := items_at (HA1.out.kept Kd1) hk
  have hib := (itemsB_true hb).2 it (List.mem_of_getElem? h2)
  have hik := knB_item hkn h2
  have HIT := Lib.hid hit
  have HV := Lib.hid (baseV_at (x := x) h2)
  have hfb := fullV_bd hx hib hik
  obtain ⟨hf1, hf2⟩ := hfb
  have hrb := repV_bd its k
  obtain ⟨hr1, hr2⟩ := hrb
  have HCO := Lib.hid (H0.out.kept Kd1)
  have HL := Lib.hid (H1.out.kept Kd1)
  have y0 := After.cell q0 hbb
  have y1 := After.cell q1 hbb
  have y2 := After.cell q2 hbb
  clear h2 h3 hit q0 q1 q2
  have x0 := fun t : After (wb1.drew) => (B0.kept t.kept).six.1
  refine region_after (by kernel_rfl) (by kernel_rfl) ?_
  repeat (go_big_quiet_step ((go_at_call 81; exact after_of (bsFull_any _ _ x it _ (HCO.out.kept (After.kept _)) (HIT.out.kept (After.kept _)) hx hib hik))))
  refine wpQuiet_nil ?_
  intro wq hw'
  obtain ⟨⟨_, kq⟩, hw''⟩ := hw'
  subst hw''
  try dsimp only
  clear x0
  replace B0 := B0.kept kq
  have Kq2 := Kd1.trans kq
  clear y0 y1 y2
  obtain ⟨x0, y0⟩ := B0.six
  go_wp2_with fail
  clear x0 y0
  refine (bsRepeats_any _ its k _ (H1.out.kept Kq2) hb hk).mono ?_
  rintro e w1 ⟨rfl, k1⟩
  replace B0 := B0.kept k1
  have sz1 := k1.size
  have K1 := Kq2.trans k1
  have hrp := (codeB_rests hx).1
  obtain ⟨hp1, hp2⟩ := hrp
  generalize repV its k = rv at *
  generalize fullV x it = fv at *
  rcases Int.lt_trichotomy rv x.repeats with hc | hc | hc
  · have HF : Hid (baseV x its k = fv) := Lib.hid (by rw [HV.out, if_pos hc])
    obtain ⟨x0, y0⟩ := B0.six
    go_wp2_with fail
    clear x0 y0
    go_ret
    exact ⟨ret_int HF.out.symm, K1⟩
  · have HF : Hid (baseV x its k = fv * 7 / 10) := Lib.hid (by rw [HV.out, if_neg (by omega), if_pos hc])
    have n1 : ¬ rv < x.repeats := by omega
    have e1 : (rv == x.repeats) = true := by simp [hc]
    clear hc
    obtain ⟨x0, y0⟩ := B0.six
    go_wp2_with fail
    clear x0 y0
    go_ret
    exact ⟨ret_int HF.out.symm, K1⟩
  · have HF : Hid (baseV x its k = 0) := Lib.hid (by rw [HV.out, if_neg (by omega), if_neg (by omega)])
    have n1 : ¬ rv < x.repeats := by omega
    have e1 : (rv == x.repeats) = false := beq_eq_false_iff_ne.2 (by omega)
    clear hc
    obtain ⟨x0, y0⟩ := B0.six
    go_wp2_with fail
    clear x0 y0
    go_ret
    exact ⟨ret_int HF.out.symm, K1⟩
set_option maxHeartbeats 2000000 in
theorem itemBase_any (v0 v1 : Value) (x : CodeD) (its : List ItemD) (k : Nat) (w : World) (h0 : CodeAt w v0 x) (h1 : ItemsAt w v1 its) (hg : gdB x its = true) (hk : k < its.length) :
    Calls Try.prog 56 #[v0, v1, .int .i64 (k : Int)] w fun e w' => e = .returned (.int .i64 (baseV x its k)) ∧ Kept w w' := by
  have H0 := Lib.hid h0
  obtain ⟨n0, m0, rfl, p0, q0⟩ := h0
  have HE0 := Lib.hid p0; have HI0 := Lib.hid q0
  obtain ⟨A0, c0, rfl, hnc0, hcm0, _⟩ := p0.1.out; obtain ⟨D0, d0, rfl, hnd0, hdm0, _⟩ := q0.out; clear p0 q0; unfold maxLen at hcm0 hdm0
  have H1 := Lib.hid h1
  obtain ⟨A1, c1, cs1, rfl, hnc1, hcm1, hA1⟩ := h1.out; have HA1 := Lib.hid hA1; clear hA1 h1; unfold maxLen at hcm1
  obtain ⟨hx, hb, hkn⟩ := gdB_true hg
  have hkl : (k : Int) < (its.length : Int) := by omega
  have hl14 := (itemsB_true hb).1
  go_enter Try.func56, Try.ntmps56
  have K0 := Kept.refl w
  go_wp2_with fail
  obtain ⟨wb1, hwb1⟩ : ∃ w' : World, w' = w.alloc (.cells #[.slice A0 x.elems.length c0, .slice D0 x.limits.length d0, .int .i64 x.repeats, .int .i64 x.bonus, .int .i64 x.keeps, .int .i64 x.fall] 32) := ⟨_, rfl⟩
  rw [← hwb1]
  have KB0 : Kept w wb1 := hwb1 ▸ (Kept.refl w).alloc _
  have B0 : Box wb1 (w.heap.size) 32 #[.slice A0 x.elems.length c0, .slice D0 x.limits.length d0, .int .i64 x.repeats, .int .i64 x.bonus, .int .i64 x.keeps, .int .i64 x.fall] := hwb1 ▸ Box.new w (w.heap.size) 32 #[.slice A0 x.elems.length c0, .slice D0 x.limits.length d0, .int .i64 x.repeats, .int .i64 x.bonus, .int .i64 x.keeps, .int .i64 x.fall] rfl
  have swb1 : wb1.heap.size = w.heap.size + 1 := by rw [hwb1]; simp
  clear hwb1
  have Kwb1 := K0.trans KB0
  have Kd1_ : Kept wb1 wb1.drew := (Kept.refl _).drew
  replace B0 := B0.kept Kd1_
  have Kd1 := Kwb1.trans Kd1_
  obtain ⟨b, o, Aa, ca, Ab, cb, it, rfl, hbb, h2, h3, hit, q0, q1, q2⟩ := items_at (HA1.out.kept Kd1) hk
  have hib := (itemsB_true hb).2 it (List.mem_of_getElem? h2)
  have hik := knB_item hkn h2
  have HIT := Lib.hid hit
  have HV := Lib.hid (baseV_at (x := x) h2)
  have hfb := fullV_bd hx hib hik
  obtain ⟨hf1, hf2⟩ := hfb
  have hrb := repV_bd its k
  obtain ⟨hr1, hr2⟩ := hrb
  have HCO := Lib.hid (H0.out.kept Kd1)
  have HL := Lib.hid (H1.out.kept Kd1)
  have y0 := After.cell q0 hbb
  have y1 := After.cell q1 hbb
  have y2 := After.cell q2 hbb
  clear h2 h3 hit q0 q1 q2
  have x0 := fun t : After (wb1.drew) => (B0.kept t.kept).six.1
  refine region_after (by kernel_rfl) (by kernel_rfl) ?_
  repeat (go_big_quiet_step ((first | (go_at_call 85; exact after_of (fullBase_any _ _ x it _ (HCO.out.kept (After.kept _)) (HIT.out.kept (After.kept _)) hx hib hik)) | (go_at_call 84; exact after_of (repeatsOf_any _ its k _ (HL.out.kept (After.kept _)) hb hk)))))
  refine wpQuiet_nil ?_
  intro wq hw'
  obtain ⟨⟨_, kq⟩, hw''⟩ := hw'
  subst hw''
  try dsimp only
  clear x0
  replace B0 := B0.kept kq
  have Kq2 := Kd1.trans kq
  clear y0 y1 y2
  have hrp := (codeB_rests hx).1
  obtain ⟨hp1, hp2⟩ := hrp
  generalize repV its k = rv at *
  generalize fullV x it = fv at *
  rcases Int.lt_trichotomy rv x.repeats with hc | hc | hc
  · have HF : Hid (baseV x its k = fv) := Lib.hid (by rw [HV.out, if_pos hc])
    obtain ⟨x0, y0⟩ := B0.six
    go_wp2_with fail
    clear x0 y0
    go_ret
    exact ⟨ret_int HF.out.symm, Kq2⟩
  · have HF : Hid (baseV x its k = fv * 7 / 10) := Lib.hid (by rw [HV.out, if_neg (by omega), if_pos hc])
    have n1 : ¬ rv < x.repeats := by omega
    have e1 : (rv == x.repeats) = true := by simp [hc]
    clear hc
    obtain ⟨x0, y0⟩ := B0.six
    go_wp2_with fail
    clear x0 y0
    go_ret
    exact ⟨ret_int HF.out.symm, Kq2⟩
  · have HF : Hid (baseV x its k = 0) := Lib.hid (by rw [HV.out, if_neg (by omega), if_neg (by omega)])
    have n1 : ¬ rv < x.repeats := by omega
    have e1 : (rv == x.repeats) = false := beq_eq_false_iff_ne.2 (by omega)
    clear hc
    obtain ⟨x0, y0⟩ := B0.six
    go_wp2_with fail
    clear x0 y0
    go_ret
    exact ⟨ret_int HF.out.symm, Kq2⟩
set_option maxHeartbeats 1000000 in
theorem specItemBase_any (v0 v1 : Value) (x : CodeD) (its : List ItemD) (a : Int) (w : World) (h0 : CodeAt w v0 x) (h1 : ItemsAt w v1 its)  :
    Calls Try.prog 24 #[v0, v1, .int .i64 a] w fun e w' => e = .returned (.tuple #[.int .i64 (onI (hasB x its a) (baseV x its a.toNat)), .bool (hasB x its a)]) ∧ Kept w w' := by
  have H0 := Lib.hid h0
  obtain ⟨n0, m0, rfl, p0, q0⟩ := h0
  have HE0 := Lib.hid p0; have HI0 := Lib.hid q0
  obtain ⟨A0, c0, rfl, hnc0, hcm0, _⟩ := p0.1.out; obtain ⟨D0, d0, rfl, hnd0, hdm0, _⟩ := q0.out; clear p0 q0; unfold maxLen at hcm0 hdm0
  have H1 := Lib.hid h1
  obtain ⟨A1, c1, cs1, rfl, hnc1, hcm1, hA1⟩ := h1.out; have HA1 := Lib.hid hA1; clear hA1 h1; unfold maxLen at hcm1
  go_enter Try.func24, Try.ntmps24
  have K0 := Kept.refl w
  go_wp2_with fail
  obtain ⟨wb1, hwb1⟩ : ∃ w' : World, w' = w.alloc (.cells #[.slice A0 x.elems.length c0, .slice D0 x.limits.length d0, .int .i64 x.repeats, .int .i64 x.bonus, .int .i64 x.keeps, .int .i64 x.fall] 32) := ⟨_, rfl⟩
  rw [← hwb1]
  have KB0 : Kept w wb1 := hwb1 ▸ (Kept.refl w).alloc _
  have B0 : Box wb1 (w.heap.size) 32 #[.slice A0 x.elems.length c0, .slice D0 x.limits.length d0, .int .i64 x.repeats, .int .i64 x.bonus, .int .i64 x.keeps, .int .i64 x.fall] := hwb1 ▸ Box.new w (w.heap.size) 32 #[.slice A0 x.elems.length c0, .slice D0 x.limits.length d0, .int .i64 x.repeats, .int .i64 x.bonus, .int .i64 x.keeps, .int .i64 x.fall] rfl
  have swb1 : wb1.heap.size = w.heap.size + 1 := by rw [hwb1]; simp
  clear hwb1
  have Kwb1 := K0.trans KB0
  refine (bsHas_any _ _ x its a _ (H0.out.kept Kwb1) (H1.out.kept Kwb1)).mono ?_
  rintro e w1 ⟨rfl, k1⟩
  replace B0 := B0.kept k1
  have sz1 := k1.size
  have K1 := Kwb1.trans k1
  by_cases hg : hasB x its a = true
  case neg =>
    simp only [Bool.not_eq_true] at hg
    rw [hg]
    have HO := Lib.hid hg
    clear hg
    obtain ⟨x0, y0⟩ := B0.six
    go_wp2_with fail
    clear x0 y0
    go_ret2
    exact ⟨by rw [HO.out]; rfl, K1⟩
  rw [hg]
  have HG := Lib.hid hg
  obtain ⟨hgd, h0a, hka⟩ := hasB_true hg
  have hb := (gdB_true hgd).2.1
  clear hg
  obtain ⟨k, rfl⟩ := Int.eq_ofNat_of_zero_le h0a
  rw [Int.toNat_natCast] at hka
  obtain ⟨x0, y0⟩ := B0.six
  go_wp2_with fail
  clear x0 y0
  refine (bsItem_any _ _ x its k _ (H0.out.kept K1) (H1.out.kept K1) hgd hka).mono ?_
  rintro e w2 ⟨rfl, k2⟩
  replace B0 := B0.kept k2
  have sz2 := k2.size
  have K2 := K1.trans k2
  obtain ⟨x0, y0⟩ := B0.six
  go_wp2_with fail
  clear x0 y0
  go_ret2
  exact ⟨by rw [HG.out]; first | rfl | (simp only [Int.toNat_natCast]; rfl), K2⟩
set_option maxHeartbeats 1000000 in
theorem implItemBase_any (v0 v1 : Value) (x : CodeD) (its : List ItemD) (a : Int) (w : World) (h0 : CodeAt w v0 x) (h1 : ItemsAt w v1 its)  :
    Calls Try.prog 26 #[v0, v1, .int .i64 a] w fun e w' => e = .returned (.tuple #[.int .i64 (onI (hasB x its a) (baseV x its a.toNat)), .bool (hasB x its a)]) ∧ Kept w w' := by
  have H0 := Lib.hid h0
  obtain ⟨n0, m0, rfl, p0, q0⟩ := h0
  have HE0 := Lib.hid p0; have HI0 := Lib.hid q0
  obtain ⟨A0, c0, rfl, hnc0, hcm0, _⟩ := p0.1.out; obtain ⟨D0, d0, rfl, hnd0, hdm0, _⟩ := q0.out; clear p0 q0; unfold maxLen at hcm0 hdm0
  have H1 := Lib.hid h1
  obtain ⟨A1, c1, cs1, rfl, hnc1, hcm1, hA1⟩ := h1.out; have HA1 := Lib.hid hA1; clear hA1 h1; unfold maxLen at hcm1
  go_enter Try.func26, Try.ntmps26
  have K0 := Kept.refl w
  go_wp2_with fail
  obtain ⟨wb1, hwb1⟩ : ∃ w' : World, w' = w.alloc (.cells #[.slice A0 x.elems.length c0, .slice D0 x.limits.length d0, .int .i64 x.repeats, .int .i64 x.bonus, .int .i64 x.keeps, .int .i64 x.fall] 32) := ⟨_, rfl⟩
  rw [← hwb1]
  have KB0 : Kept w wb1 := hwb1 ▸ (Kept.refl w).alloc _
  have B0 : Box wb1 (w.heap.size) 32 #[.slice A0 x.elems.length c0, .slice D0 x.limits.length d0, .int .i64 x.repeats, .int .i64 x.bonus, .int .i64 x.keeps, .int .i64 x.fall] := hwb1 ▸ Box.new w (w.heap.size) 32 #[.slice A0 x.elems.length c0, .slice D0 x.limits.length d0, .int .i64 x.repeats, .int .i64 x.bonus, .int .i64 x.keeps, .int .i64 x.fall] rfl
  have swb1 : wb1.heap.size = w.heap.size + 1 := by rw [hwb1]; simp
  clear hwb1
  have Kwb1 := K0.trans KB0
  refine (hasKnown_any _ _ x its a _ (H0.out.kept Kwb1) (H1.out.kept Kwb1)).mono ?_
  rintro e w1 ⟨rfl, k1⟩
  replace B0 := B0.kept k1
  have sz1 := k1.size
  have K1 := Kwb1.trans k1
  by_cases hg : hasB x its a = true
  case neg =>
    simp only [Bool.not_eq_true] at hg
    rw [hg]
    have HO := Lib.hid hg
    clear hg
    obtain ⟨x0, y0⟩ := B0.six
    go_wp2_with fail
    clear x0 y0
    go_ret2
    exact ⟨by rw [HO.out]; rfl, K1⟩
  rw [hg]
  have HG := Lib.hid hg
  obtain ⟨hgd, h0a, hka⟩ := hasB_true hg
  have hb := (gdB_true hgd).2.1
  clear hg
  obtain ⟨k, rfl⟩ := Int.eq_ofNat_of_zero_le h0a
  rw [Int.toNat_natCast] at hka
  obtain ⟨x0, y0⟩ := B0.six
  go_wp2_with fail
  clear x0 y0
  refine (itemBase_any _ _ x its k _ (H0.out.kept K1) (H1.out.kept K1) hgd hka).mono ?_
  rintro e w2 ⟨rfl, k2⟩
  replace B0 := B0.kept k2
  have sz2 := k2.size
  have K2 := K1.trans k2
  obtain ⟨x0, y0⟩ := B0.six
  go_wp2_with fail
  clear x0 y0
  go_ret2
  exact ⟨by rw [HG.out]; first | rfl | (simp only [Int.toNat_natCast]; rfl), K2⟩
set_option maxHeartbeats 2000000 in
theorem lawItemBase_any {w : World} {v0 : Value} {v1 : Value} (z0 : CodeD) (z1 : List ItemD) (a2 : Int) (h0 : CodeAt w v0 z0) (h1 : ItemsAt w v1 z1) (_ : (Lit.int .i64 a2).wf = true) :
    Calls Try.prog 5 #[v0, v1, .int .i64 a2] w fun e w' => e = .returned (.bool true) ∧ Kept w w' := by
  have H0 := Lib.hid h0
  obtain ⟨n0, m0, rfl, p0, q0⟩ := h0
  obtain ⟨A0, c0, rfl, _⟩ := p0.1.out
  obtain ⟨D0, d0, rfl, _⟩ := q0.out
  clear p0 q0
  have H1 := Lib.hid h1
  clear h1
  go_enter Try.func5, Try.ntmps5
  have K0 := Kept.refl w
  go_wp2_with fail
  obtain ⟨wb1, hwb1⟩ : ∃ w' : World, w' = w.alloc (.cells #[.slice A0 z0.elems.length c0, .slice D0 z0.limits.length d0, .int .i64 z0.repeats, .int .i64 z0.bonus, .int .i64 z0.keeps, .int .i64 z0.fall] 25) := ⟨_, rfl⟩
  rw [← hwb1]
  have KB0 : Kept w wb1 := hwb1 ▸ (Kept.refl w).alloc _
  have B0 : Box wb1 (w.heap.size) 25 #[.slice A0 z0.elems.length c0, .slice D0 z0.limits.length d0, .int .i64 z0.repeats, .int .i64 z0.bonus, .int .i64 z0.keeps, .int .i64 z0.fall] := hwb1 ▸ Box.new w (w.heap.size) 25 #[.slice A0 z0.elems.length c0, .slice D0 z0.limits.length d0, .int .i64 z0.repeats, .int .i64 z0.bonus, .int .i64 z0.keeps, .int .i64 z0.fall] rfl
  have szwb1 : wb1.heap.size = w.heap.size + 1 := by rw [hwb1]; simp
  clear hwb1
  have Kwb1 := K0.trans KB0
  refine (szCode_any _ z0 _ _ (H0.out.kept Kwb1) (by omega) (by omega)).mono ?_
  rintro e w1 ⟨rfl, k1⟩
  replace B0 := B0.kept k1
  have sz1 := k1.size
  have K1 := Kwb1.trans k1
  by_cases hbig0 : ((z0.size : Nat) : Int) ≤ 1048576
  case neg =>
    have e1 : lessOr 1048576 (z0.size) = -1 := by unfold lessOr; exact if_neg (by omega)
    rw [e1]
    go_wp2_with fail
    go_ret
    exact ⟨rfl, K1⟩
  have e1 : lessOr 1048576 (z0.size) = 1048576 - (z0.size : Int) := by unfold lessOr; exact if_pos (by omega)
  rw [e1]
  clear e1
  have hparts0 := code_parts z0
  obtain ⟨x0, y0⟩ := B0.six
  go_wp2_with fail
  clear x0 y0
  refine (szItemS_any _ z1 _ _ (H1.out.kept K1) (by omega) (by omega)).mono ?_
  rintro e w2 ⟨rfl, k2⟩
  replace B0 := B0.kept k2
  have sz2 := k2.size
  have K2 := K1.trans k2
  by_cases hbig1 : ((itemsSize z1 : Nat) : Int) ≤ (1048576 - (z0.size : Int))
  case neg =>
    have e1 : lessOr (1048576 - (z0.size : Int)) (itemsSize z1) = -1 := by unfold lessOr; exact if_neg (by omega)
    rw [e1]
    go_wp2_with fail
    go_ret
    exact ⟨rfl, K2⟩
  have e1 : lessOr (1048576 - (z0.size : Int)) (itemsSize z1) = (1048576 - (z0.size : Int)) - (itemsSize z1 : Int) := by unfold lessOr; exact if_pos (by omega)
  rw [e1]
  clear e1
  obtain ⟨x0, y0⟩ := B0.six
  go_wp2_with fail
  clear x0 y0
  refine (toCode_any _ z0 _ (H0.out.kept K2) (by omega) (by omega)).mono ?_
  rintro e w3 ⟨u3, rfl, o3, k3⟩
  replace B0 := B0.kept k3
  have sz3 := k3.size
  have K3 := K2.trans k3
  have R3 := Lib.hid o3.code
  clear o3
  obtain ⟨x0, y0⟩ := B0.six
  go_wp2_with fail
  clear x0 y0
  refine (toItemS_any _ z1 _ (H1.out.kept K3) (by omega)).mono ?_
  rintro e w4 ⟨u4, S4, rfl, o4, k4⟩
  replace B0 := B0.kept k4
  replace R3 := Lib.hid (R3.out.kept k4)
  have sz4 := k4.size
  have K4 := K3.trans k4
  have R4 := Lib.hid o4.items
  clear o4
  obtain ⟨x0, y0⟩ := B0.six
  go_wp2_with fail
  clear x0 y0
  refine (specItemBase_any _ _ z0 z1 _ _ R3.out R4.out).mono ?_
  rintro e w5 ⟨rfl, k5⟩
  replace B0 := B0.kept k5
  replace R3 := Lib.hid (R3.out.kept k5)
  replace R4 := Lib.hid (R4.out.kept k5)
  have sz5 := k5.size
  have K5 := K4.trans k5
  clear R3
  clear R4
  obtain ⟨x0, y0⟩ := B0.six
  go_wp2_with fail
  clear x0 y0
  refine (toCode_any _ z0 _ (H0.out.kept K5) (by omega) (by omega)).mono ?_
  rintro e w6 ⟨u6, rfl, o6, k6⟩
  replace B0 := B0.kept k6
  have sz6 := k6.size
  have K6 := K5.trans k6
  obtain ⟨n6, m6, rfl, p6, q6, nd6⟩ := o6
  obtain ⟨A6, c6, rfl, _⟩ := own_form p6.1
  obtain ⟨D6, d6, rfl, _⟩ := own_form q6
  have o6 : OwnK w6 _ (.agg #[.slice A6 z0.elems.length c6, .slice D6 z0.limits.length d6, .int .i64 z0.repeats, .int .i64 z0.bonus, .int .i64 z0.keeps, .int .i64 z0.fall]) z0 := ⟨_, _, rfl, p6, q6, nd6⟩
  clear p6 q6 nd6
  have F6 := Lib.hid o6.fps
  have O6 := Lib.hid o6
  clear o6
  obtain ⟨x0, y0⟩ := B0.six
  have l0 := B0.lt
  go_wp2_with fail
  clear x0 y0 l0
  obtain ⟨wb2, hwb2⟩ : ∃ w' : World, w' = w6.alloc (.cells #[.slice A6 z0.elems.length c6, .slice D6 z0.limits.length d6, .int .i64 z0.repeats, .int .i64 z0.bonus, .int .i64 z0.keeps, .int .i64 z0.fall] 32) := ⟨_, rfl⟩
  rw [← hwb2]
  have KB6 : Kept w6 wb2 := hwb2 ▸ (Kept.refl w6).alloc _
  have B6 : Box wb2 (w6.heap.size) 32 #[.slice A6 z0.elems.length c6, .slice D6 z0.limits.length d6, .int .i64 z0.repeats, .int .i64 z0.bonus, .int .i64 z0.keeps, .int .i64 z0.fall] := hwb2 ▸ Box.new w6 (w6.heap.size) 32 #[.slice A6 z0.elems.length c6, .slice D6 z0.limits.length d6, .int .i64 z0.repeats, .int .i64 z0.bonus, .int .i64 z0.keeps, .int .i64 z0.fall] rfl
  have szwb2 : wb2.heap.size = w6.heap.size + 1 := by rw [hwb2]; simp
  clear hwb2
  replace B0 := B0.kept KB6
  replace O6 := Lib.hid (O6.out.kept KB6)
  have Kwb2 := K6.trans KB6
  refine (toItemS_any _ z1 _ (H1.out.kept Kwb2) (by omega)).mono ?_
  rintro e w7 ⟨u7, S7, rfl, o7, k7⟩
  replace B0 := B0.kept k7
  replace B6 := B6.kept k7
  replace O6 := Lib.hid (O6.out.kept k7)
  have sz7 := k7.size
  have K7 := Kwb2.trans k7
  obtain ⟨cs7, oc7, rfl, hF7⟩ := o7.toC
  have O7 := Lib.hid oc7
  have F7 := Lib.hid hF7
  clear o7 oc7 hF7
  obtain ⟨x0, y0⟩ := B0.six
  obtain ⟨x6, y6⟩ := B6.six
  go_wp2_with fail
  clear x0 y0 x6 y6
  refine (implItemBase_any _ _ z0 z1 _ _ O6.out.code O7.out.items).mono ?_
  rintro e w8 ⟨rfl, k8⟩
  replace B0 := B0.kept k8
  replace B6 := B6.kept k8
  replace O6 := Lib.hid (O6.out.kept k8)
  replace O7 := Lib.hid (O7.out.kept k8)
  have sz8 := k8.size
  have K8 := K7.trans k8
  obtain ⟨x0, y0⟩ := B0.six
  obtain ⟨x6, y6⟩ := B6.six
  go_wp2_with fail
  clear x0 y0 x6 y6
  have KDw8 : Kept w8 w8.drew := (Kept.refl _).drew
  replace B0 := B0.kept KDw8
  replace B6 := B6.kept KDw8
  replace O6 := Lib.hid (O6.out.kept KDw8)
  replace O7 := Lib.hid (O7.out.kept KDw8)
  have KKw8 := K8.trans KDw8
  have szdw8 : w8.heap.size ≤ w8.drew.heap.size := KDw8.size
  go_region_held3 (fun w' => (w'.cell? ⟨w.heap.size, 0, none⟩ = some (.slice A0 z0.elems.length c0) ∧ w'.cell? ⟨w.heap.size, 1, none⟩ = some (.slice D0 z0.limits.length d0) ∧ w'.cell? ⟨w.heap.size, 2, none⟩ = some (.int .i64 z0.repeats) ∧ w'.cell? ⟨w.heap.size, 3, none⟩ = some (.int .i64 z0.bonus) ∧ w'.cell? ⟨w.heap.size, 4, none⟩ = some (.int .i64 z0.keeps) ∧ w'.cell? ⟨w.heap.size, 5, none⟩ = some (.int .i64 z0.fall)) ∧ (w'.cell? ⟨w6.heap.size, 0, none⟩ = some (.slice A6 z0.elems.length c6) ∧ w'.cell? ⟨w6.heap.size, 1, none⟩ = some (.slice D6 z0.limits.length d6) ∧ w'.cell? ⟨w6.heap.size, 2, none⟩ = some (.int .i64 z0.repeats) ∧ w'.cell? ⟨w6.heap.size, 3, none⟩ = some (.int .i64 z0.bonus) ∧ w'.cell? ⟨w6.heap.size, 4, none⟩ = some (.int .i64 z0.keeps) ∧ w'.cell? ⟨w6.heap.size, 5, none⟩ = some (.int .i64 z0.fall))) (first | exact ⟨B0.six.1, B6.six.1⟩ | exact ⟨(B0.kept (by assumption)).six.1, (B6.kept (by assumption)).six.1⟩)
    (first | (go_at_call 11; refine (toCode_any _ z0 _ (H0.out.kept KKw8) (by omega) (by omega)).mono ?_; rintro e w9 ⟨u9, rfl, o9, k9⟩) | (go_at_call 14; refine (eqCode_any _ _ z0 _ (O6.out.code.kept k9) o9.code).mono ?_; rintro e w10 ⟨rfl, k10⟩; have kk10 := k9.trans k10))
  clear o9
  replace B0 := B0.kept kk10
  replace B6 := B6.kept kk10
  replace O6 := Lib.hid (O6.out.kept kk10)
  replace O7 := Lib.hid (O7.out.kept kk10)
  have sz10 := kk10.size
  have K10 := KKw8.trans kk10
  obtain ⟨x0, y0⟩ := B0.six
  obtain ⟨x6, y6⟩ := B6.six
  go_wp2_with fail
  clear x0 y0 x6 y6
  refine (toItemS_any _ z1 _ (H1.out.kept K10) (by omega)).mono ?_
  rintro e w11 ⟨u11, S11, rfl, o11, k11⟩
  replace B0 := B0.kept k11
  replace B6 := B6.kept k11
  replace O6 := Lib.hid (O6.out.kept k11)
  replace O7 := Lib.hid (O7.out.kept k11)
  have sz11 := k11.size
  have K11 := K10.trans k11
  have R11 := Lib.hid o11.items
  clear o11
  obtain ⟨x0, y0⟩ := B0.six
  obtain ⟨x6, y6⟩ := B6.six
  go_wp2_with fail
  clear x0 y0 x6 y6
  refine (eqItemS_any _ _ (z1) _ O7.out.items R11.out).mono ?_
  rintro e w12 ⟨rfl, k12⟩
  replace B0 := B0.kept k12
  replace B6 := B6.kept k12
  replace R11 := Lib.hid (R11.out.kept k12)
  replace O6 := Lib.hid (O6.out.kept k12)
  replace O7 := Lib.hid (O7.out.kept k12)
  have sz12 := k12.size
  have K12 := K11.trans k12
  clear R11
  go_wp2_with fail
  go_ret
  exact ⟨rfl, K12⟩
set_option maxHeartbeats 2000000 in
theorem bsAll_any (v0 v1 : Value) (x : CodeD) (its : List ItemD) (w : World) (h0 : CodeAt w v0 x) (h1 : ItemsAt w v1 its) (hg : gdB x its = true) :
    Calls Try.prog 60 #[v0, v1] w fun e w' => ∃ v', e = .returned v' ∧ OwnI w' w.heap.size v' (bases x its) ∧ Kept w w' := by
  have H0 := Lib.hid h0
  obtain ⟨n0, m0, rfl, p0, q0⟩ := h0
  have HE0 := Lib.hid p0; have HI0 := Lib.hid q0
  obtain ⟨A0, c0, rfl, hnc0, hcm0, _⟩ := p0.1.out; obtain ⟨D0, d0, rfl, hnd0, hdm0, _⟩ := q0.out; clear p0 q0; unfold maxLen at hcm0 hdm0
  have H1 := Lib.hid h1
  obtain ⟨A1, c1, cs1, rfl, hnc1, hcm1, hA1⟩ := h1.out; have HA1 := Lib.hid hA1; clear hA1 h1; unfold maxLen at hcm1
  go_enter Try.func60, Try.ntmps60
  have K0 := Kept.refl w
  go_wp2_with fail
  obtain ⟨wb1, hwb1⟩ : ∃ w' : World, w' = w.alloc (.cells #[.slice A0 x.elems.length c0, .slice D0 x.limits.length d0, .int .i64 x.repeats, .int .i64 x.bonus, .int .i64 x.keeps, .int .i64 x.fall] 32) := ⟨_, rfl⟩
  rw [← hwb1]
  have KB0 : Kept w wb1 := hwb1 ▸ (Kept.refl w).alloc _
  have B0 : Box wb1 (w.heap.size) 32 #[.slice A0 x.elems.length c0, .slice D0 x.limits.length d0, .int .i64 x.repeats, .int .i64 x.bonus, .int .i64 x.keeps, .int .i64 x.fall] := hwb1 ▸ Box.new w (w.heap.size) 32 #[.slice A0 x.elems.length c0, .slice D0 x.limits.length d0, .int .i64 x.repeats, .int .i64 x.bonus, .int .i64 x.keeps, .int .i64 x.fall] rfl
  have swb1 : wb1.heap.size = w.heap.size + 1 := by rw [hwb1]; simp
  clear hwb1
  have Kwb1 := K0.trans KB0
  have hl14 := (itemsB_true (gdB_true hg).2.1).1
  have hblen := bases_length x its
  have HBL := Lib.hid hblen
  clear hblen
  go_loopw [5, 9] (fun q i wr => ∃ j : Nat, j ≤ its.length ∧ i = .int .i64 j ∧ OwnI wr wb1.heap.size q ((bases x its).take j) ∧ Kept wb1 wr) (fun _ i _ => its.length - (intOf i).toNat)
  case atStart => exact ⟨0, Nat.zero_le _, rfl, own_nil _ _, Kept.refl _⟩
  case round =>
    obtain ⟨j, hj, rfl, ho, hkept⟩ := hrel
    have HO := Lib.hid ho
    clear ho
    replace B0 := B0.kept hkept
    have szr := hkept.size
    have Kr := Kwb1.trans hkept
    by_cases hlt : j < its.length
    · have HSN := Lib.hid (take_snoc (bases_get (x := x) hlt))
      obtain ⟨x0, y0⟩ := B0.six
      go_wp2_with fail
      clear x0 y0
      refine (bsItem_any _ _ x its j _ (H0.out.kept Kr) (H1.out.kept Kr) hg hlt).mono ?_
      rintro e w1 ⟨rfl, k1⟩
      replace B0 := B0.kept k1
      have sz1 := k1.size
      have K1 := Kr.trans k1
      generalize baseV x its j = bv at *
      have htl : ((bases x its).take j).length ≤ 14 := by rw [List.length_take]; omega
      obtain ⟨x0, y0⟩ := B0.six
      go_wp2_with (at_builtin; refine wpList_append_int _ rfl _ _ rfl wb1.heap.size _ ((bases x its).take j) rfl ((HO.out.kept k1).kept ((Kept.refl _).alloc _)) _ bv rfl ((Box.new _ _ _ _ rfl).cell 0) (by omega) (by have := k1.size; simp; omega) ?_; intro v3 w3 o3 g3)
      clear x0 y0
      have kg : Kept wb1 w3 := ((hkept.trans k1).alloc (.cells #[.int .i64 bv] 3)).grew ((HO.out.kept k1).kept ((Kept.refl _).alloc _)) g3 (Nat.le_refl _)
      have HO3 := Lib.hid o3
      clear o3 g3
      go_wp2_with fail
      go_roundw
      case rel => exact ⟨j + 1, by omega, by go_num, by rw [HSN.out]; exact HO3.out, kg⟩
      case measure => simp [intOf]; omega
    · obtain rfl : j = its.length := by omega
      have HS0 : Hid ((bases x its).take its.length = bases x its) := Lib.hid (List.take_of_length_le (by rw [HBL.out]; exact Nat.le_refl _))
      obtain ⟨x0, y0⟩ := B0.six
      go_wp2_with fail
      clear x0 y0
      go_ret
      exact ⟨_, rfl, (HS0.out ▸ HO.out : OwnI wr wb1.heap.size _ (bases x its)).base Kwb1.size, Kr⟩
set_option maxHeartbeats 2000000 in
theorem baseValues_any (v0 v1 : Value) (x : CodeD) (its : List ItemD) (w : World) (h0 : CodeAt w v0 x) (h1 : ItemsAt w v1 its) (hg : gdB x its = true) :
    Calls Try.prog 63 #[v0, v1] w fun e w' => ∃ v', e = .returned v' ∧ OwnI w' w.heap.size v' (bases x its) ∧ Kept w w' := by
  have H0 := Lib.hid h0
  obtain ⟨n0, m0, rfl, p0, q0⟩ := h0
  have HE0 := Lib.hid p0; have HI0 := Lib.hid q0
  obtain ⟨A0, c0, rfl, hnc0, hcm0, _⟩ := p0.1.out; obtain ⟨D0, d0, rfl, hnd0, hdm0, _⟩ := q0.out; clear p0 q0; unfold maxLen at hcm0 hdm0
  have H1 := Lib.hid h1
  obtain ⟨A1, c1, cs1, rfl, hnc1, hcm1, hA1⟩ := h1.out; have HA1 := Lib.hid hA1; clear hA1 h1; unfold maxLen at hcm1
  go_enter Try.func63, Try.ntmps63
  have K0 := Kept.refl w
  go_wp2_with fail
  obtain ⟨wb1, hwb1⟩ : ∃ w' : World, w' = w.alloc (.cells #[.slice A0 x.elems.length c0, .slice D0 x.limits.length d0, .int .i64 x.repeats, .int .i64 x.bonus, .int .i64 x.keeps, .int .i64 x.fall] 32) := ⟨_, rfl⟩
  rw [← hwb1]
  have KB0 : Kept w wb1 := hwb1 ▸ (Kept.refl w).alloc _
  have B0 : Box wb1 (w.heap.size) 32 #[.slice A0 x.elems.length c0, .slice D0 x.limits.length d0, .int .i64 x.repeats, .int .i64 x.bonus, .int .i64 x.keeps, .int .i64 x.fall] := hwb1 ▸ Box.new w (w.heap.size) 32 #[.slice A0 x.elems.length c0, .slice D0 x.limits.length d0, .int .i64 x.repeats, .int .i64 x.bonus, .int .i64 x.keeps, .int .i64 x.fall] rfl
  have swb1 : wb1.heap.size = w.heap.size + 1 := by rw [hwb1]; simp
  clear hwb1
  have Kwb1 := K0.trans KB0
  have hl14 := (itemsB_true (gdB_true hg).2.1).1
  have hblen := bases_length x its
  have HBL := Lib.hid hblen
  clear hblen
  obtain ⟨w0, hw0⟩ : ∃ w' : World, w' = wb1.alloc (.cells #[] 3) := ⟨_, rfl⟩
  rw [← hw0]
  have KE : Kept wb1 w0 := hw0 ▸ (Kept.refl wb1).alloc _
  have HO0 : Hid (OwnI w0 wb1.heap.size (.slice (some ⟨w.heap.size + 1, 0, none⟩) 0 0) []) := Lib.hid (own_made _ _ 1 (by omega) (hw0 ▸ Box.new wb1 _ _ _ (by omega)))
  clear hw0
  go_loopw [5, 10] (fun q i wr => ∃ j : Nat, j ≤ its.length ∧ i = .int .i64 j ∧ OwnI wr wb1.heap.size q ((bases x its).take j) ∧ Kept wb1 wr) (fun _ i _ => its.length - (intOf i).toNat)
  case atStart => exact ⟨0, Nat.zero_le _, rfl, HO0.out, KE⟩
  case round =>
    obtain ⟨j, hj, rfl, ho, hkept⟩ := hrel
    have HO := Lib.hid ho
    clear ho HO0
    replace B0 := B0.kept hkept
    have szr := hkept.size
    have Kr := Kwb1.trans hkept
    by_cases hlt : j < its.length
    · have HSN := Lib.hid (take_snoc (bases_get (x := x) hlt))
      obtain ⟨x0, y0⟩ := B0.six
      go_wp2_with fail
      clear x0 y0
      refine (itemBase_any _ _ x its j _ (H0.out.kept Kr) (H1.out.kept Kr) hg hlt).mono ?_
      rintro e w1 ⟨rfl, k1⟩
      replace B0 := B0.kept k1
      have sz1 := k1.size
      have K1 := Kr.trans k1
      generalize baseV x its j = bv at *
      have htl : ((bases x its).take j).length ≤ 14 := by rw [List.length_take]; omega
      obtain ⟨x0, y0⟩ := B0.six
      go_wp2_with (at_builtin; refine wpList_append_int _ rfl _ _ rfl wb1.heap.size _ ((bases x its).take j) rfl ((HO.out.kept k1).kept ((Kept.refl _).alloc _)) _ bv rfl ((Box.new _ _ _ _ rfl).cell 0) (by omega) (by have := k1.size; simp; omega) ?_; intro v3 w3 o3 g3)
      clear x0 y0
      have kg : Kept wb1 w3 := ((hkept.trans k1).alloc (.cells #[.int .i64 bv] 3)).grew ((HO.out.kept k1).kept ((Kept.refl _).alloc _)) g3 (Nat.le_refl _)
      have HO3 := Lib.hid o3
      clear o3 g3
      go_wp2_with fail
      go_roundw
      case rel => exact ⟨j + 1, by omega, by go_num, by rw [HSN.out]; exact HO3.out, kg⟩
      case measure => simp [intOf]; omega
    · obtain rfl : j = its.length := by omega
      have HS0 : Hid ((bases x its).take its.length = bases x its) := Lib.hid (List.take_of_length_le (by rw [HBL.out]; exact Nat.le_refl _))
      obtain ⟨x0, y0⟩ := B0.six
      go_wp2_with fail
      clear x0 y0
      go_ret
      exact ⟨_, rfl, (HS0.out ▸ HO.out : OwnI wr wb1.heap.size _ (bases x its)).base Kwb1.size, Kr⟩
set_option maxHeartbeats 1000000 in
theorem specProgrammeBase_any (v0 v1 : Value) (x : CodeD) (its : List ItemD) (w : World) (h0 : CodeAt w v0 x) (h1 : ItemsAt w v1 its)  :
    Calls Try.prog 28 #[v0, v1] w fun e w' => e = .returned (.tuple #[.int .i64 (onI (gdB x its) (bases x its).sum), .bool (gdB x its)]) ∧ Kept w w' := by
  have H0 := Lib.hid h0
  obtain ⟨n0, m0, rfl, p0, q0⟩ := h0
  have HE0 := Lib.hid p0; have HI0 := Lib.hid q0
  obtain ⟨A0, c0, rfl, hnc0, hcm0, _⟩ := p0.1.out; obtain ⟨D0, d0, rfl, hnd0, hdm0, _⟩ := q0.out; clear p0 q0; unfold maxLen at hcm0 hdm0
  have H1 := Lib.hid h1
  obtain ⟨A1, c1, cs1, rfl, hnc1, hcm1, hA1⟩ := h1.out; have HA1 := Lib.hid hA1; clear hA1 h1; unfold maxLen at hcm1
  go_enter Try.func28, Try.ntmps28
  have K0 := Kept.refl w
  go_wp2_with fail
  obtain ⟨wb1, hwb1⟩ : ∃ w' : World, w' = w.alloc (.cells #[.slice A0 x.elems.length c0, .slice D0 x.limits.length d0, .int .i64 x.repeats, .int .i64 x.bonus, .int .i64 x.keeps, .int .i64 x.fall] 32) := ⟨_, rfl⟩
  rw [← hwb1]
  have KB0 : Kept w wb1 := hwb1 ▸ (Kept.refl w).alloc _
  have B0 : Box wb1 (w.heap.size) 32 #[.slice A0 x.elems.length c0, .slice D0 x.limits.length d0, .int .i64 x.repeats, .int .i64 x.bonus, .int .i64 x.keeps, .int .i64 x.fall] := hwb1 ▸ Box.new w (w.heap.size) 32 #[.slice A0 x.elems.length c0, .slice D0 x.limits.length d0, .int .i64 x.repeats, .int .i64 x.bonus, .int .i64 x.keeps, .int .i64 x.fall] rfl
  have swb1 : wb1.heap.size = w.heap.size + 1 := by rw [hwb1]; simp
  clear hwb1
  have Kwb1 := K0.trans KB0
  refine (bsGood_any _ _ x its _ (H0.out.kept Kwb1) (H1.out.kept Kwb1)).mono ?_
  rintro e w1 ⟨rfl, k1⟩
  replace B0 := B0.kept k1
  have sz1 := k1.size
  have K1 := Kwb1.trans k1
  by_cases hg : gdB x its = true
  case neg =>
    simp only [Bool.not_eq_true] at hg
    rw [hg]
    have HO := Lib.hid hg
    clear hg
    obtain ⟨x0, y0⟩ := B0.six
    go_wp2_with fail
    clear x0 y0
    go_ret2
    exact ⟨by rw [HO.out]; rfl, K1⟩
  rw [hg]
  have HG := Lib.hid hg
  obtain ⟨x0, y0⟩ := B0.six
  go_wp2_with fail
  clear x0 y0
  refine (bsAll_any _ _ x its _ (H0.out.kept K1) (H1.out.kept K1) HG.out).mono ?_
  rintro e w2 ⟨v2, rfl, o2, k2⟩
  replace B0 := B0.kept k2
  have sz2 := k2.size
  have K2 := K1.trans k2
  have hl14 := (itemsB_true (gdB_true hg).2.1).1
  have hbl := bases_length x its
  clear hg
  have HO := Lib.hid o2.ints
  have HSM : Hid ((bases x its).all (inB · (-1000000) 1000000) = true) := Lib.hid (by rw [List.all_eq_true]; intro z hz; have := bases_bd HG.out z hz; exact inB_of (by omega) (by omega))
  clear o2
  obtain ⟨x0, y0⟩ := B0.six
  go_wp2_with fail
  clear x0 y0
  refine (poSum_any _ (bases x its) _ HO.out (by omega) HSM.out).mono ?_
  rintro e w' ⟨rfl, rfl⟩
  clear hbl
  obtain ⟨x0, y0⟩ := B0.six
  go_wp2_with fail
  clear x0 y0
  go_ret2
  exact ⟨by rw [HG.out]; rfl, K2⟩
set_option maxHeartbeats 1000000 in
theorem implProgrammeBase_any (v0 v1 : Value) (x : CodeD) (its : List ItemD) (w : World) (h0 : CodeAt w v0 x) (h1 : ItemsAt w v1 its)  :
    Calls Try.prog 29 #[v0, v1] w fun e w' => e = .returned (.tuple #[.int .i64 (onI (gdB x its) (bases x its).sum), .bool (gdB x its)]) ∧ Kept w w' := by
  have H0 := Lib.hid h0
  obtain ⟨n0, m0, rfl, p0, q0⟩ := h0
  have HE0 := Lib.hid p0; have HI0 := Lib.hid q0
  obtain ⟨A0, c0, rfl, hnc0, hcm0, _⟩ := p0.1.out; obtain ⟨D0, d0, rfl, hnd0, hdm0, _⟩ := q0.out; clear p0 q0; unfold maxLen at hcm0 hdm0
  have H1 := Lib.hid h1
  obtain ⟨A1, c1, cs1, rfl, hnc1, hcm1, hA1⟩ := h1.out; have HA1 := Lib.hid hA1; clear hA1 h1; unfold maxLen at hcm1
  go_enter Try.func29, Try.ntmps29
  have K0 := Kept.refl w
  go_wp2_with fail
  obtain ⟨wb1, hwb1⟩ : ∃ w' : World, w' = w.alloc (.cells #[.slice A0 x.elems.length c0, .slice D0 x.limits.length d0, .int .i64 x.repeats, .int .i64 x.bonus, .int .i64 x.keeps, .int .i64 x.fall] 32) := ⟨_, rfl⟩
  rw [← hwb1]
  have KB0 : Kept w wb1 := hwb1 ▸ (Kept.refl w).alloc _
  have B0 : Box wb1 (w.heap.size) 32 #[.slice A0 x.elems.length c0, .slice D0 x.limits.length d0, .int .i64 x.repeats, .int .i64 x.bonus, .int .i64 x.keeps, .int .i64 x.fall] := hwb1 ▸ Box.new w (w.heap.size) 32 #[.slice A0 x.elems.length c0, .slice D0 x.limits.length d0, .int .i64 x.repeats, .int .i64 x.bonus, .int .i64 x.keeps, .int .i64 x.fall] rfl
  have swb1 : wb1.heap.size = w.heap.size + 1 := by rw [hwb1]; simp
  clear hwb1
  have Kwb1 := K0.trans KB0
  refine (areKnown_any _ _ x its _ (H0.out.kept Kwb1) (H1.out.kept Kwb1)).mono ?_
  rintro e w1 ⟨rfl, k1⟩
  replace B0 := B0.kept k1
  have sz1 := k1.size
  have K1 := Kwb1.trans k1
  by_cases hg : gdB x its = true
  case neg =>
    simp only [Bool.not_eq_true] at hg
    rw [hg]
    have HO := Lib.hid hg
    clear hg
    obtain ⟨x0, y0⟩ := B0.six
    go_wp2_with fail
    clear x0 y0
    go_ret2
    exact ⟨by rw [HO.out]; rfl, K1⟩
  rw [hg]
  have HG := Lib.hid hg
  obtain ⟨x0, y0⟩ := B0.six
  go_wp2_with fail
  clear x0 y0
  refine (baseValues_any _ _ x its _ (H0.out.kept K1) (H1.out.kept K1) HG.out).mono ?_
  rintro e w2 ⟨v2, rfl, o2, k2⟩
  replace B0 := B0.kept k2
  have sz2 := k2.size
  have K2 := K1.trans k2
  have hl14 := (itemsB_true (gdB_true hg).2.1).1
  have hbl := bases_length x its
  clear hg
  have HO := Lib.hid o2.ints
  have HSM : Hid ((bases x its).all (inB · (-1000000) 1000000) = true) := Lib.hid (by rw [List.all_eq_true]; intro z hz; have := bases_bd HG.out z hz; exact inB_of (by omega) (by omega))
  clear o2
  obtain ⟨x0, y0⟩ := B0.six
  go_wp2_with fail
  clear x0 y0
  refine (sumInts_any _ (bases x its) _ HO.out (by omega) HSM.out).mono ?_
  rintro e w' ⟨rfl, rfl⟩
  clear hbl
  obtain ⟨x0, y0⟩ := B0.six
  go_wp2_with fail
  clear x0 y0
  go_ret2
  exact ⟨by rw [HG.out]; rfl, K2⟩
set_option maxHeartbeats 1000000 in
theorem specBaseValues_any (v0 v1 : Value) (x : CodeD) (its : List ItemD) (w : World) (h0 : CodeAt w v0 x) (h1 : ItemsAt w v1 its)  :
    Calls Try.prog 30 #[v0, v1] w fun e w' => ∃ v', e = .returned (.tuple #[v', .bool (gdB x its)]) ∧ OwnI w' w.heap.size v' (onL (gdB x its) (bases x its)) ∧ Kept w w' := by
  have H0 := Lib.hid h0
  obtain ⟨n0, m0, rfl, p0, q0⟩ := h0
  have HE0 := Lib.hid p0; have HI0 := Lib.hid q0
  obtain ⟨A0, c0, rfl, hnc0, hcm0, _⟩ := p0.1.out; obtain ⟨D0, d0, rfl, hnd0, hdm0, _⟩ := q0.out; clear p0 q0; unfold maxLen at hcm0 hdm0
  have H1 := Lib.hid h1
  obtain ⟨A1, c1, cs1, rfl, hnc1, hcm1, hA1⟩ := h1.out; have HA1 := Lib.hid hA1; clear hA1 h1; unfold maxLen at hcm1
  go_enter Try.func30, Try.ntmps30
  have K0 := Kept.refl w
  go_wp2_with fail
  obtain ⟨wb1, hwb1⟩ : ∃ w' : World, w' = w.alloc (.cells #[.slice A0 x.elems.length c0, .slice D0 x.limits.length d0, .int .i64 x.repeats, .int .i64 x.bonus, .int .i64 x.keeps, .int .i64 x.fall] 32) := ⟨_, rfl⟩
  rw [← hwb1]
  have KB0 : Kept w wb1 := hwb1 ▸ (Kept.refl w).alloc _
  have B0 : Box wb1 (w.heap.size) 32 #[.slice A0 x.elems.length c0, .slice D0 x.limits.length d0, .int .i64 x.repeats, .int .i64 x.bonus, .int .i64 x.keeps, .int .i64 x.fall] := hwb1 ▸ Box.new w (w.heap.size) 32 #[.slice A0 x.elems.length c0, .slice D0 x.limits.length d0, .int .i64 x.repeats, .int .i64 x.bonus, .int .i64 x.keeps, .int .i64 x.fall] rfl
  have swb1 : wb1.heap.size = w.heap.size + 1 := by rw [hwb1]; simp
  clear hwb1
  have Kwb1 := K0.trans KB0
  refine (bsGood_any _ _ x its _ (H0.out.kept Kwb1) (H1.out.kept Kwb1)).mono ?_
  rintro e w1 ⟨rfl, k1⟩
  replace B0 := B0.kept k1
  have sz1 := k1.size
  have K1 := Kwb1.trans k1
  by_cases hg : gdB x its = true
  case neg =>
    simp only [Bool.not_eq_true] at hg
    rw [hg]
    have HO := Lib.hid hg
    clear hg
    obtain ⟨x0, y0⟩ := B0.six
    go_wp2_with fail
    clear x0 y0
    go_ret2
    exact ⟨_, ret_vb2 HO.out.symm, by rw [HO.out]; exact own_nil _ _, K1⟩
  rw [hg]
  have HG := Lib.hid hg
  clear hg
  obtain ⟨x0, y0⟩ := B0.six
  go_wp2_with fail
  clear x0 y0
  refine (bsAll_any _ _ x its _ (H0.out.kept K1) (H1.out.kept K1) HG.out).mono ?_
  rintro e w2 ⟨v2, rfl, o2, k2⟩
  replace B0 := B0.kept k2
  have sz2 := k2.size
  have K2 := K1.trans k2
  have HO := Lib.hid o2
  clear o2
  obtain ⟨x0, y0⟩ := B0.six
  go_wp2_with fail
  clear x0 y0
  go_ret2
  exact ⟨_, ret_vb2 HG.out.symm, by rw [HG.out]; exact HO.out.base K1.size, K2⟩
set_option maxHeartbeats 1000000 in
theorem implBaseValues_any (v0 v1 : Value) (x : CodeD) (its : List ItemD) (w : World) (h0 : CodeAt w v0 x) (h1 : ItemsAt w v1 its)  :
    Calls Try.prog 31 #[v0, v1] w fun e w' => ∃ v', e = .returned (.tuple #[v', .bool (gdB x its)]) ∧ OwnI w' w.heap.size v' (onL (gdB x its) (bases x its)) ∧ Kept w w' := by
  have H0 := Lib.hid h0
  obtain ⟨n0, m0, rfl, p0, q0⟩ := h0
  have HE0 := Lib.hid p0; have HI0 := Lib.hid q0
  obtain ⟨A0, c0, rfl, hnc0, hcm0, _⟩ := p0.1.out; obtain ⟨D0, d0, rfl, hnd0, hdm0, _⟩ := q0.out; clear p0 q0; unfold maxLen at hcm0 hdm0
  have H1 := Lib.hid h1
  obtain ⟨A1, c1, cs1, rfl, hnc1, hcm1, hA1⟩ := h1.out; have HA1 := Lib.hid hA1; clear hA1 h1; unfold maxLen at hcm1
  go_enter Try.func31, Try.ntmps31
  have K0 := Kept.refl w
  go_wp2_with fail
  obtain ⟨wb1, hwb1⟩ : ∃ w' : World, w' = w.alloc (.cells #[.slice A0 x.elems.length c0, .slice D0 x.limits.length d0, .int .i64 x.repeats, .int .i64 x.bonus, .int .i64 x.keeps, .int .i64 x.fall] 32) := ⟨_, rfl⟩
  rw [← hwb1]
  have KB0 : Kept w wb1 := hwb1 ▸ (Kept.refl w).alloc _
  have B0 : Box wb1 (w.heap.size) 32 #[.slice A0 x.elems.length c0, .slice D0 x.limits.length d0, .int .i64 x.repeats, .int .i64 x.bonus, .int .i64 x.keeps, .int .i64 x.fall] := hwb1 ▸ Box.new w (w.heap.size) 32 #[.slice A0 x.elems.length c0, .slice D0 x.limits.length d0, .int .i64 x.repeats, .int .i64 x.bonus, .int .i64 x.keeps, .int .i64 x.fall] rfl
  have swb1 : wb1.heap.size = w.heap.size + 1 := by rw [hwb1]; simp
  clear hwb1
  have Kwb1 := K0.trans KB0
  refine (areKnown_any _ _ x its _ (H0.out.kept Kwb1) (H1.out.kept Kwb1)).mono ?_
  rintro e w1 ⟨rfl, k1⟩
  replace B0 := B0.kept k1
  have sz1 := k1.size
  have K1 := Kwb1.trans k1
  by_cases hg : gdB x its = true
  case neg =>
    simp only [Bool.not_eq_true] at hg
    rw [hg]
    have HO := Lib.hid hg
    clear hg
    obtain ⟨x0, y0⟩ := B0.six
    go_wp2_with fail
    clear x0 y0
    go_ret2
    exact ⟨_, ret_vb2 HO.out.symm, by rw [HO.out]; exact own_nil _ _, K1⟩
  rw [hg]
  have HG := Lib.hid hg
  clear hg
  obtain ⟨x0, y0⟩ := B0.six
  go_wp2_with fail
  clear x0 y0
  refine (baseValues_any _ _ x its _ (H0.out.kept K1) (H1.out.kept K1) HG.out).mono ?_
  rintro e w2 ⟨v2, rfl, o2, k2⟩
  replace B0 := B0.kept k2
  have sz2 := k2.size
  have K2 := K1.trans k2
  have HO := Lib.hid o2
  clear o2
  obtain ⟨x0, y0⟩ := B0.six
  go_wp2_with fail
  clear x0 y0
  go_ret2
  exact ⟨_, ret_vb2 HG.out.symm, by rw [HG.out]; exact HO.out.base K1.size, K2⟩
set_option maxHeartbeats 2000000 in
theorem lawProgrammeBase_any {w : World} {v0 : Value} {v1 : Value} (z0 : CodeD) (z1 : List ItemD) (h0 : CodeAt w v0 z0) (h1 : ItemsAt w v1 z1) :
    Calls Try.prog 6 #[v0, v1] w fun e w' => e = .returned (.bool true) ∧ Kept w w' := by
  have H0 := Lib.hid h0
  obtain ⟨n0, m0, rfl, p0, q0⟩ := h0
  obtain ⟨A0, c0, rfl, _⟩ := p0.1.out
  obtain ⟨D0, d0, rfl, _⟩ := q0.out
  clear p0 q0
  have H1 := Lib.hid h1
  clear h1
  go_enter Try.func6, Try.ntmps6
  have K0 := Kept.refl w
  go_wp2_with fail
  obtain ⟨wb1, hwb1⟩ : ∃ w' : World, w' = w.alloc (.cells #[.slice A0 z0.elems.length c0, .slice D0 z0.limits.length d0, .int .i64 z0.repeats, .int .i64 z0.bonus, .int .i64 z0.keeps, .int .i64 z0.fall] 25) := ⟨_, rfl⟩
  rw [← hwb1]
  have KB0 : Kept w wb1 := hwb1 ▸ (Kept.refl w).alloc _
  have B0 : Box wb1 (w.heap.size) 25 #[.slice A0 z0.elems.length c0, .slice D0 z0.limits.length d0, .int .i64 z0.repeats, .int .i64 z0.bonus, .int .i64 z0.keeps, .int .i64 z0.fall] := hwb1 ▸ Box.new w (w.heap.size) 25 #[.slice A0 z0.elems.length c0, .slice D0 z0.limits.length d0, .int .i64 z0.repeats, .int .i64 z0.bonus, .int .i64 z0.keeps, .int .i64 z0.fall] rfl
  have szwb1 : wb1.heap.size = w.heap.size + 1 := by rw [hwb1]; simp
  clear hwb1
  have Kwb1 := K0.trans KB0
  refine (szCode_any _ z0 _ _ (H0.out.kept Kwb1) (by omega) (by omega)).mono ?_
  rintro e w1 ⟨rfl, k1⟩
  replace B0 := B0.kept k1
  have sz1 := k1.size
  have K1 := Kwb1.trans k1
  by_cases hbig0 : ((z0.size : Nat) : Int) ≤ 1048576
  case neg =>
    have e1 : lessOr 1048576 (z0.size) = -1 := by unfold lessOr; exact if_neg (by omega)
    rw [e1]
    go_wp2_with fail
    go_ret
    exact ⟨rfl, K1⟩
  have e1 : lessOr 1048576 (z0.size) = 1048576 - (z0.size : Int) := by unfold lessOr; exact if_pos (by omega)
  rw [e1]
  clear e1
  have hparts0 := code_parts z0
  obtain ⟨x0, y0⟩ := B0.six
  go_wp2_with fail
  clear x0 y0
  refine (szItemS_any _ z1 _ _ (H1.out.kept K1) (by omega) (by omega)).mono ?_
  rintro e w2 ⟨rfl, k2⟩
  replace B0 := B0.kept k2
  have sz2 := k2.size
  have K2 := K1.trans k2
  by_cases hbig1 : ((itemsSize z1 : Nat) : Int) ≤ (1048576 - (z0.size : Int))
  case neg =>
    have e1 : lessOr (1048576 - (z0.size : Int)) (itemsSize z1) = -1 := by unfold lessOr; exact if_neg (by omega)
    rw [e1]
    go_wp2_with fail
    go_ret
    exact ⟨rfl, K2⟩
  have e1 : lessOr (1048576 - (z0.size : Int)) (itemsSize z1) = (1048576 - (z0.size : Int)) - (itemsSize z1 : Int) := by unfold lessOr; exact if_pos (by omega)
  rw [e1]
  clear e1
  obtain ⟨x0, y0⟩ := B0.six
  go_wp2_with fail
  clear x0 y0
  refine (toCode_any _ z0 _ (H0.out.kept K2) (by omega) (by omega)).mono ?_
  rintro e w3 ⟨u3, rfl, o3, k3⟩
  replace B0 := B0.kept k3
  have sz3 := k3.size
  have K3 := K2.trans k3
  have R3 := Lib.hid o3.code
  clear o3
  obtain ⟨x0, y0⟩ := B0.six
  go_wp2_with fail
  clear x0 y0
  refine (toItemS_any _ z1 _ (H1.out.kept K3) (by omega)).mono ?_
  rintro e w4 ⟨u4, S4, rfl, o4, k4⟩
  replace B0 := B0.kept k4
  replace R3 := Lib.hid (R3.out.kept k4)
  have sz4 := k4.size
  have K4 := K3.trans k4
  have R4 := Lib.hid o4.items
  clear o4
  obtain ⟨x0, y0⟩ := B0.six
  go_wp2_with fail
  clear x0 y0
  refine (specProgrammeBase_any _ _ z0 z1 _ R3.out R4.out).mono ?_
  rintro e w5 ⟨rfl, k5⟩
  replace B0 := B0.kept k5
  replace R3 := Lib.hid (R3.out.kept k5)
  replace R4 := Lib.hid (R4.out.kept k5)
  have sz5 := k5.size
  have K5 := K4.trans k5
  clear R3
  clear R4
  obtain ⟨x0, y0⟩ := B0.six
  go_wp2_with fail
  clear x0 y0
  refine (toCode_any _ z0 _ (H0.out.kept K5) (by omega) (by omega)).mono ?_
  rintro e w6 ⟨u6, rfl, o6, k6⟩
  replace B0 := B0.kept k6
  have sz6 := k6.size
  have K6 := K5.trans k6
  obtain ⟨n6, m6, rfl, p6, q6, nd6⟩ := o6
  obtain ⟨A6, c6, rfl, _⟩ := own_form p6.1
  obtain ⟨D6, d6, rfl, _⟩ := own_form q6
  have o6 : OwnK w6 _ (.agg #[.slice A6 z0.elems.length c6, .slice D6 z0.limits.length d6, .int .i64 z0.repeats, .int .i64 z0.bonus, .int .i64 z0.keeps, .int .i64 z0.fall]) z0 := ⟨_, _, rfl, p6, q6, nd6⟩
  clear p6 q6 nd6
  have F6 := Lib.hid o6.fps
  have O6 := Lib.hid o6
  clear o6
  obtain ⟨x0, y0⟩ := B0.six
  have l0 := B0.lt
  go_wp2_with fail
  clear x0 y0 l0
  obtain ⟨wb2, hwb2⟩ : ∃ w' : World, w' = w6.alloc (.cells #[.slice A6 z0.elems.length c6, .slice D6 z0.limits.length d6, .int .i64 z0.repeats, .int .i64 z0.bonus, .int .i64 z0.keeps, .int .i64 z0.fall] 32) := ⟨_, rfl⟩
  rw [← hwb2]
  have KB6 : Kept w6 wb2 := hwb2 ▸ (Kept.refl w6).alloc _
  have B6 : Box wb2 (w6.heap.size) 32 #[.slice A6 z0.elems.length c6, .slice D6 z0.limits.length d6, .int .i64 z0.repeats, .int .i64 z0.bonus, .int .i64 z0.keeps, .int .i64 z0.fall] := hwb2 ▸ Box.new w6 (w6.heap.size) 32 #[.slice A6 z0.elems.length c6, .slice D6 z0.limits.length d6, .int .i64 z0.repeats, .int .i64 z0.bonus, .int .i64 z0.keeps, .int .i64 z0.fall] rfl
  have szwb2 : wb2.heap.size = w6.heap.size + 1 := by rw [hwb2]; simp
  clear hwb2
  replace B0 := B0.kept KB6
  replace O6 := Lib.hid (O6.out.kept KB6)
  have Kwb2 := K6.trans KB6
  refine (toItemS_any _ z1 _ (H1.out.kept Kwb2) (by omega)).mono ?_
  rintro e w7 ⟨u7, S7, rfl, o7, k7⟩
  replace B0 := B0.kept k7
  replace B6 := B6.kept k7
  replace O6 := Lib.hid (O6.out.kept k7)
  have sz7 := k7.size
  have K7 := Kwb2.trans k7
  obtain ⟨cs7, oc7, rfl, hF7⟩ := o7.toC
  have O7 := Lib.hid oc7
  have F7 := Lib.hid hF7
  clear o7 oc7 hF7
  obtain ⟨x0, y0⟩ := B0.six
  obtain ⟨x6, y6⟩ := B6.six
  go_wp2_with fail
  clear x0 y0 x6 y6
  refine (implProgrammeBase_any _ _ z0 z1 _ O6.out.code O7.out.items).mono ?_
  rintro e w8 ⟨rfl, k8⟩
  replace B0 := B0.kept k8
  replace B6 := B6.kept k8
  replace O6 := Lib.hid (O6.out.kept k8)
  replace O7 := Lib.hid (O7.out.kept k8)
  have sz8 := k8.size
  have K8 := K7.trans k8
  obtain ⟨x0, y0⟩ := B0.six
  obtain ⟨x6, y6⟩ := B6.six
  go_wp2_with fail
  clear x0 y0 x6 y6
  have KDw8 : Kept w8 w8.drew := (Kept.refl _).drew
  replace B0 := B0.kept KDw8
  replace B6 := B6.kept KDw8
  replace O6 := Lib.hid (O6.out.kept KDw8)
  replace O7 := Lib.hid (O7.out.kept KDw8)
  have KKw8 := K8.trans KDw8
  have szdw8 : w8.heap.size ≤ w8.drew.heap.size := KDw8.size
  go_region_held3 (fun w' => (w'.cell? ⟨w.heap.size, 0, none⟩ = some (.slice A0 z0.elems.length c0) ∧ w'.cell? ⟨w.heap.size, 1, none⟩ = some (.slice D0 z0.limits.length d0) ∧ w'.cell? ⟨w.heap.size, 2, none⟩ = some (.int .i64 z0.repeats) ∧ w'.cell? ⟨w.heap.size, 3, none⟩ = some (.int .i64 z0.bonus) ∧ w'.cell? ⟨w.heap.size, 4, none⟩ = some (.int .i64 z0.keeps) ∧ w'.cell? ⟨w.heap.size, 5, none⟩ = some (.int .i64 z0.fall)) ∧ (w'.cell? ⟨w6.heap.size, 0, none⟩ = some (.slice A6 z0.elems.length c6) ∧ w'.cell? ⟨w6.heap.size, 1, none⟩ = some (.slice D6 z0.limits.length d6) ∧ w'.cell? ⟨w6.heap.size, 2, none⟩ = some (.int .i64 z0.repeats) ∧ w'.cell? ⟨w6.heap.size, 3, none⟩ = some (.int .i64 z0.bonus) ∧ w'.cell? ⟨w6.heap.size, 4, none⟩ = some (.int .i64 z0.keeps) ∧ w'.cell? ⟨w6.heap.size, 5, none⟩ = some (.int .i64 z0.fall))) (first | exact ⟨B0.six.1, B6.six.1⟩ | exact ⟨(B0.kept (by assumption)).six.1, (B6.kept (by assumption)).six.1⟩)
    (first | (go_at_call 11; refine (toCode_any _ z0 _ (H0.out.kept KKw8) (by omega) (by omega)).mono ?_; rintro e w9 ⟨u9, rfl, o9, k9⟩) | (go_at_call 14; refine (eqCode_any _ _ z0 _ (O6.out.code.kept k9) o9.code).mono ?_; rintro e w10 ⟨rfl, k10⟩; have kk10 := k9.trans k10))
  clear o9
  replace B0 := B0.kept kk10
  replace B6 := B6.kept kk10
  replace O6 := Lib.hid (O6.out.kept kk10)
  replace O7 := Lib.hid (O7.out.kept kk10)
  have sz10 := kk10.size
  have K10 := KKw8.trans kk10
  obtain ⟨x0, y0⟩ := B0.six
  obtain ⟨x6, y6⟩ := B6.six
  go_wp2_with fail
  clear x0 y0 x6 y6
  refine (toItemS_any _ z1 _ (H1.out.kept K10) (by omega)).mono ?_
  rintro e w11 ⟨u11, S11, rfl, o11, k11⟩
  replace B0 := B0.kept k11
  replace B6 := B6.kept k11
  replace O6 := Lib.hid (O6.out.kept k11)
  replace O7 := Lib.hid (O7.out.kept k11)
  have sz11 := k11.size
  have K11 := K10.trans k11
  have R11 := Lib.hid o11.items
  clear o11
  obtain ⟨x0, y0⟩ := B0.six
  obtain ⟨x6, y6⟩ := B6.six
  go_wp2_with fail
  clear x0 y0 x6 y6
  refine (eqItemS_any _ _ (z1) _ O7.out.items R11.out).mono ?_
  rintro e w12 ⟨rfl, k12⟩
  replace B0 := B0.kept k12
  replace B6 := B6.kept k12
  replace R11 := Lib.hid (R11.out.kept k12)
  replace O6 := Lib.hid (O6.out.kept k12)
  replace O7 := Lib.hid (O7.out.kept k12)
  have sz12 := k12.size
  have K12 := K11.trans k12
  clear R11
  go_wp2_with fail
  go_ret
  exact ⟨rfl, K12⟩
theorem onL_len {b : Bool} {l : List Int} {n : Nat} (h : b = true → l.length ≤ n) : (onL b l).length ≤ n := by cases b with | true => exact h rfl | false => exact Nat.zero_le _
set_option maxHeartbeats 4000000 in
theorem lawBaseValues_any {w : World} {v0 : Value} {v1 : Value} (z0 : CodeD) (z1 : List ItemD) (h0 : CodeAt w v0 z0) (h1 : ItemsAt w v1 z1) :
    Calls Try.prog 7 #[v0, v1] w fun e w' => e = .returned (.bool true) ∧ Kept w w' := by
  have H0 := Lib.hid h0
  obtain ⟨n0, m0, rfl, p0, q0⟩ := h0
  obtain ⟨A0, c0, rfl, _⟩ := p0.1.out
  obtain ⟨D0, d0, rfl, _⟩ := q0.out
  clear p0 q0
  have H1 := Lib.hid h1
  clear h1
  go_enter Try.func7, Try.ntmps7
  have K0 := Kept.refl w
  go_wp2_with fail
  obtain ⟨wb1, hwb1⟩ : ∃ w' : World, w' = w.alloc (.cells #[.slice A0 z0.elems.length c0, .slice D0 z0.limits.length d0, .int .i64 z0.repeats, .int .i64 z0.bonus, .int .i64 z0.keeps, .int .i64 z0.fall] 25) := ⟨_, rfl⟩
  rw [← hwb1]
  have KB0 : Kept w wb1 := hwb1 ▸ (Kept.refl w).alloc _
  have B0 : Box wb1 (w.heap.size) 25 #[.slice A0 z0.elems.length c0, .slice D0 z0.limits.length d0, .int .i64 z0.repeats, .int .i64 z0.bonus, .int .i64 z0.keeps, .int .i64 z0.fall] := hwb1 ▸ Box.new w (w.heap.size) 25 #[.slice A0 z0.elems.length c0, .slice D0 z0.limits.length d0, .int .i64 z0.repeats, .int .i64 z0.bonus, .int .i64 z0.keeps, .int .i64 z0.fall] rfl
  have szwb1 : wb1.heap.size = w.heap.size + 1 := by rw [hwb1]; simp
  clear hwb1
  have Kwb1 := K0.trans KB0
  refine (szCode_any _ z0 _ _ (H0.out.kept Kwb1) (by omega) (by omega)).mono ?_
  rintro e w1 ⟨rfl, k1⟩
  replace B0 := B0.kept k1
  have sz1 := k1.size
  have K1 := Kwb1.trans k1
  by_cases hbig0 : ((z0.size : Nat) : Int) ≤ 1048576
  case neg =>
    have e1 : lessOr 1048576 (z0.size) = -1 := by unfold lessOr; exact if_neg (by omega)
    rw [e1]
    go_wp2_with fail
    go_ret
    exact ⟨rfl, K1⟩
  have e1 : lessOr 1048576 (z0.size) = 1048576 - (z0.size : Int) := by unfold lessOr; exact if_pos (by omega)
  rw [e1]
  clear e1
  have hparts0 := code_parts z0
  obtain ⟨x0, y0⟩ := B0.six
  go_wp2_with fail
  clear x0 y0
  refine (szItemS_any _ z1 _ _ (H1.out.kept K1) (by omega) (by omega)).mono ?_
  rintro e w2 ⟨rfl, k2⟩
  replace B0 := B0.kept k2
  have sz2 := k2.size
  have K2 := K1.trans k2
  by_cases hbig1 : ((itemsSize z1 : Nat) : Int) ≤ (1048576 - (z0.size : Int))
  case neg =>
    have e1 : lessOr (1048576 - (z0.size : Int)) (itemsSize z1) = -1 := by unfold lessOr; exact if_neg (by omega)
    rw [e1]
    go_wp2_with fail
    go_ret
    exact ⟨rfl, K2⟩
  have e1 : lessOr (1048576 - (z0.size : Int)) (itemsSize z1) = (1048576 - (z0.size : Int)) - (itemsSize z1 : Int) := by unfold lessOr; exact if_pos (by omega)
  rw [e1]
  clear e1
  have hX : (onL (gdB z0 z1) (bases z0 z1)).length ≤ 14 := onL_len (fun h => by rw [bases_length]; exact (itemsB_true (gdB_true h).2.1).1)
  obtain ⟨x0, y0⟩ := B0.six
  go_wp2_with fail
  clear x0 y0
  refine (toCode_any _ z0 _ (H0.out.kept K2) (by omega) (by omega)).mono ?_
  rintro e w3 ⟨u3, rfl, o3, k3⟩
  replace B0 := B0.kept k3
  have sz3 := k3.size
  have K3 := K2.trans k3
  have R3 := Lib.hid o3.code
  clear o3
  obtain ⟨x0, y0⟩ := B0.six
  go_wp2_with fail
  clear x0 y0
  refine (toItemS_any _ z1 _ (H1.out.kept K3) (by omega)).mono ?_
  rintro e w4 ⟨u4, S4, rfl, o4, k4⟩
  replace B0 := B0.kept k4
  replace R3 := Lib.hid (R3.out.kept k4)
  have sz4 := k4.size
  have K4 := K3.trans k4
  have R4 := Lib.hid o4.items
  clear o4
  obtain ⟨x0, y0⟩ := B0.six
  go_wp2_with fail
  clear x0 y0
  refine (specBaseValues_any _ _ z0 z1 _ R3.out R4.out).mono ?_
  rintro e w5 ⟨u5, rfl, o5, k5⟩
  replace B0 := B0.kept k5
  replace R3 := Lib.hid (R3.out.kept k5)
  replace R4 := Lib.hid (R4.out.kept k5)
  have sz5 := k5.size
  have K5 := K4.trans k5
  clear R3
  clear R4
  have RS := Lib.hid o5.ints
  clear o5
  have KS := Kept.refl w5
  obtain ⟨x0, y0⟩ := B0.six
  go_wp2_with fail
  clear x0 y0
  refine (toCode_any _ z0 _ (H0.out.kept K5) (by omega) (by omega)).mono ?_
  rintro e w6 ⟨u6, rfl, o6, k6⟩
  replace B0 := B0.kept k6
  replace KS := KS.trans k6
  have sz6 := k6.size
  have K6 := K5.trans k6
  obtain ⟨n6, m6, rfl, p6, q6, nd6⟩ := o6
  obtain ⟨A6, c6, rfl, _⟩ := own_form p6.1
  obtain ⟨D6, d6, rfl, _⟩ := own_form q6
  have o6 : OwnK w6 _ (.agg #[.slice A6 z0.elems.length c6, .slice D6 z0.limits.length d6, .int .i64 z0.repeats, .int .i64 z0.bonus, .int .i64 z0.keeps, .int .i64 z0.fall]) z0 := ⟨_, _, rfl, p6, q6, nd6⟩
  clear p6 q6 nd6
  have F6 := Lib.hid o6.fps
  have O6 := Lib.hid o6
  clear o6
  obtain ⟨x0, y0⟩ := B0.six
  have l0 := B0.lt
  go_wp2_with fail
  clear x0 y0 l0
  obtain ⟨wb2, hwb2⟩ : ∃ w' : World, w' = w6.alloc (.cells #[.slice A6 z0.elems.length c6, .slice D6 z0.limits.length d6, .int .i64 z0.repeats, .int .i64 z0.bonus, .int .i64 z0.keeps, .int .i64 z0.fall] 32) := ⟨_, rfl⟩
  rw [← hwb2]
  have KB6 : Kept w6 wb2 := hwb2 ▸ (Kept.refl w6).alloc _
  have B6 : Box wb2 (w6.heap.size) 32 #[.slice A6 z0.elems.length c6, .slice D6 z0.limits.length d6, .int .i64 z0.repeats, .int .i64 z0.bonus, .int .i64 z0.keeps, .int .i64 z0.fall] := hwb2 ▸ Box.new w6 (w6.heap.size) 32 #[.slice A6 z0.elems.length c6, .slice D6 z0.limits.length d6, .int .i64 z0.repeats, .int .i64 z0.bonus, .int .i64 z0.keeps, .int .i64 z0.fall] rfl
  have szwb2 : wb2.heap.size = w6.heap.size + 1 := by rw [hwb2]; simp
  clear hwb2
  replace B0 := B0.kept KB6
  replace O6 := Lib.hid (O6.out.kept KB6)
  replace KS := KS.trans KB6
  have Kwb2 := K6.trans KB6
  refine (toItemS_any _ z1 _ (H1.out.kept Kwb2) (by omega)).mono ?_
  rintro e w7 ⟨u7, S7, rfl, o7, k7⟩
  replace B0 := B0.kept k7
  replace B6 := B6.kept k7
  replace O6 := Lib.hid (O6.out.kept k7)
  replace KS := KS.trans k7
  have sz7 := k7.size
  have K7 := Kwb2.trans k7
  obtain ⟨cs7, oc7, rfl, hF7⟩ := o7.toC
  have O7 := Lib.hid oc7
  have F7 := Lib.hid hF7
  clear o7 oc7 hF7
  obtain ⟨x0, y0⟩ := B0.six
  obtain ⟨x6, y6⟩ := B6.six
  go_wp2_with fail
  clear x0 y0 x6 y6
  refine (implBaseValues_any _ _ z0 z1 _ O6.out.code O7.out.items).mono ?_
  rintro e w8 ⟨u8, rfl, o8, k8⟩
  replace B0 := B0.kept k8
  replace B6 := B6.kept k8
  replace O6 := Lib.hid (O6.out.kept k8)
  replace O7 := Lib.hid (O7.out.kept k8)
  replace KS := KS.trans k8
  have sz8 := k8.size
  have K8 := K7.trans k8
  have F8 := Lib.hid (own_fp o8)
  have O8 := Lib.hid o8
  clear o8
  obtain ⟨x0, y0⟩ := B0.six
  obtain ⟨x6, y6⟩ := B6.six
  go_wp2_with fail
  clear x0 y0 x6 y6
  refine (eqIntS_any _ _ (onL (gdB z0 z1) (bases z0 z1)) (onL (gdB z0 z1) (bases z0 z1)) _ O8.out.ints (RS.out.kept KS)).mono ?_
  rintro e w9 ⟨rfl, k9⟩
  replace B0 := B0.kept k9
  replace B6 := B6.kept k9
  replace O6 := Lib.hid (O6.out.kept k9)
  replace O7 := Lib.hid (O7.out.kept k9)
  replace O8 := Lib.hid (O8.out.kept k9)
  replace KS := KS.trans k9
  have sz9 := k9.size
  have K9 := K8.trans k9
  rw [show decide (onL (gdB z0 z1) (bases z0 z1) = onL (gdB z0 z1) (bases z0 z1)) = true from by simp]
  obtain ⟨x0, y0⟩ := B0.six
  obtain ⟨x6, y6⟩ := B6.six
  go_wp2_with fail
  clear x0 y0 x6 y6
  have KDw9 : Kept w9 w9.drew := (Kept.refl _).drew
  replace B0 := B0.kept KDw9
  replace B6 := B6.kept KDw9
  replace O6 := Lib.hid (O6.out.kept KDw9)
  replace O7 := Lib.hid (O7.out.kept KDw9)
  replace O8 := Lib.hid (O8.out.kept KDw9)
  replace KS := KS.trans KDw9
  have KKw9 := K9.trans KDw9
  have szdw9 : w9.heap.size ≤ w9.drew.heap.size := KDw9.size
  go_region_held3 (fun w' => (w'.cell? ⟨w.heap.size, 0, none⟩ = some (.slice A0 z0.elems.length c0) ∧ w'.cell? ⟨w.heap.size, 1, none⟩ = some (.slice D0 z0.limits.length d0) ∧ w'.cell? ⟨w.heap.size, 2, none⟩ = some (.int .i64 z0.repeats) ∧ w'.cell? ⟨w.heap.size, 3, none⟩ = some (.int .i64 z0.bonus) ∧ w'.cell? ⟨w.heap.size, 4, none⟩ = some (.int .i64 z0.keeps) ∧ w'.cell? ⟨w.heap.size, 5, none⟩ = some (.int .i64 z0.fall)) ∧ (w'.cell? ⟨w6.heap.size, 0, none⟩ = some (.slice A6 z0.elems.length c6) ∧ w'.cell? ⟨w6.heap.size, 1, none⟩ = some (.slice D6 z0.limits.length d6) ∧ w'.cell? ⟨w6.heap.size, 2, none⟩ = some (.int .i64 z0.repeats) ∧ w'.cell? ⟨w6.heap.size, 3, none⟩ = some (.int .i64 z0.bonus) ∧ w'.cell? ⟨w6.heap.size, 4, none⟩ = some (.int .i64 z0.keeps) ∧ w'.cell? ⟨w6.heap.size, 5, none⟩ = some (.int .i64 z0.fall))) (first | exact ⟨B0.six.1, B6.six.1⟩ | exact ⟨(B0.kept (by assumption)).six.1, (B6.kept (by assumption)).six.1⟩)
    (first | (go_at_call 11; refine (toCode_any _ z0 _ (H0.out.kept KKw9) (by omega) (by omega)).mono ?_; rintro e w10 ⟨u10, rfl, o10, k10⟩) | (go_at_call 14; refine (eqCode_any _ _ z0 _ (O6.out.code.kept k10) o10.code).mono ?_; rintro e w11 ⟨rfl, k11⟩; have kk11 := k10.trans k11))
  clear o10
  replace B0 := B0.kept kk11
  replace B6 := B6.kept kk11
  replace O6 := Lib.hid (O6.out.kept kk11)
  replace O7 := Lib.hid (O7.out.kept kk11)
  replace O8 := Lib.hid (O8.out.kept kk11)
  replace KS := KS.trans kk11
  have sz11 := kk11.size
  have K11 := KKw9.trans kk11
  obtain ⟨x0, y0⟩ := B0.six
  obtain ⟨x6, y6⟩ := B6.six
  go_wp2_with fail
  clear x0 y0 x6 y6
  refine (toItemS_any _ z1 _ (H1.out.kept K11) (by omega)).mono ?_
  rintro e w12 ⟨u12, S12, rfl, o12, k12⟩
  replace B0 := B0.kept k12
  replace B6 := B6.kept k12
  replace O6 := Lib.hid (O6.out.kept k12)
  replace O7 := Lib.hid (O7.out.kept k12)
  replace O8 := Lib.hid (O8.out.kept k12)
  replace KS := KS.trans k12
  have sz12 := k12.size
  have K12 := K11.trans k12
  have R12 := Lib.hid o12.items
  clear o12
  obtain ⟨x0, y0⟩ := B0.six
  obtain ⟨x6, y6⟩ := B6.six
  go_wp2_with fail
  clear x0 y0 x6 y6
  refine (eqItemS_any _ _ (z1) _ O7.out.items R12.out).mono ?_
  rintro e w13 ⟨rfl, k13⟩
  replace B0 := B0.kept k13
  replace B6 := B6.kept k13
  replace R12 := Lib.hid (R12.out.kept k13)
  replace O6 := Lib.hid (O6.out.kept k13)
  replace O7 := Lib.hid (O7.out.kept k13)
  replace O8 := Lib.hid (O8.out.kept k13)
  replace KS := KS.trans k13
  have sz13 := k13.size
  have K13 := K12.trans k13
  clear R12
  have nb6 : (1) ≤ nextC (1) z0 ∧ nextC (1) z0 ≤ (1) + 5242880 := ⟨by unfold nextC; omega, by unfold nextC; omega⟩
  obtain ⟨x0, y0⟩ := B0.six
  obtain ⟨x6, y6⟩ := B6.six
  go_wp2_with fail
  clear x0 y0 x6 y6
  refine (markCode_any _ z0 _ _ _ O6.out (by omega) (by omega) (by omega) (by omega)).mono ?_
  rintro e w14 ⟨rfl, o14, on14⟩
  have sz14 := on14.size
  replace B0 := B0.only on14 (fun hb => by have := F6.out _ hb; omega)
  replace B6 := B6.only on14 (fun hb => by have := F6.out _ hb; omega)
  replace O7 := Lib.hid (O7.out.only on14 (fun b hb hb' => by have := F7.out b hb; have := F6.out b hb'; omega))
  replace O8 := Lib.hid (O8.out.only on14 (fun b hb hb' => by have := F8.out b hb; have := F6.out b hb'; omega))
  replace KS := on14.above KS (fun b hb => by have := F6.out b hb; omega)
  have K14 := on14.above K13 (fun b hb => by have := F6.out b hb; omega)
  replace O6 := Lib.hid o14
  clear o14 on14
  have nb7 := nk_bd (nextC (1) z0) z1
  obtain ⟨x0, y0⟩ := B0.six
  obtain ⟨x6, y6⟩ := B6.six
  go_wp2_with fail
  clear x0 y0 x6 y6
  refine (markItemS_any _ z1 cs7 _ _ _ O7.out (by omega) (by omega) (by omega)).mono ?_
  rintro e w15 ⟨rfl, o15, on15⟩
  have sz15 := on15.size
  replace B0 := B0.only on15 (fun hb => by have := F7.out _ hb; omega)
  replace B6 := B6.only on15 (fun hb => by have := F7.out _ hb; omega)
  replace O6 := Lib.hid (O6.out.only on15 (fun b hb hb' => by have := F6.out b hb; have := F7.out b hb'; omega))
  replace O8 := Lib.hid (O8.out.only on15 (fun b hb hb' => by have := F8.out b hb; have := F7.out b hb'; omega))
  replace KS := on15.above KS (fun b hb => by have := F7.out b hb; omega)
  have K15 := on15.above K14 (fun b hb => by have := F7.out b hb; omega)
  replace O7 := Lib.hid o15
  clear o15 on15
  obtain ⟨x0, y0⟩ := B0.six
  obtain ⟨x6, y6⟩ := B6.six
  go_wp2_with fail
  clear x0 y0 x6 y6
  refine (eqIntS_any _ _ (onL (gdB z0 z1) (bases z0 z1)) (onL (gdB z0 z1) (bases z0 z1)) _ O8.out.ints (RS.out.kept KS)).mono ?_
  rintro e w16 ⟨rfl, k16⟩
  replace B0 := B0.kept k16
  replace B6 := B6.kept k16
  replace O6 := Lib.hid (O6.out.kept k16)
  replace O7 := Lib.hid (O7.out.kept k16)
  replace O8 := Lib.hid (O8.out.kept k16)
  replace KS := KS.trans k16
  have sz16 := k16.size
  have K16 := K15.trans k16
  rw [show decide (onL (gdB z0 z1) (bases z0 z1) = onL (gdB z0 z1) (bases z0 z1)) = true from by simp]
  obtain ⟨x0, y0⟩ := B0.six
  obtain ⟨x6, y6⟩ := B6.six
  go_wp2_with fail
  clear x0 y0 x6 y6
  refine (markIntS_any _ (onL (gdB z0 z1) (bases z0 z1)) _ _ _ O8.out (by omega) (by omega) (by omega)).mono ?_
  rintro e w17 ⟨rfl, o17, on17⟩
  have sz17 := on17.size
  replace B0 := B0.only on17 (fun hb => by have := F8.out _ hb; omega)
  replace B6 := B6.only on17 (fun hb => by have := F8.out _ hb; omega)
  replace O6 := Lib.hid (O6.out.only on17 (fun b hb hb' => by have := F6.out b hb; have := F8.out b hb'; omega))
  replace O7 := Lib.hid (O7.out.only on17 (fun b hb hb' => by have := F7.out b hb; have := F8.out b hb'; omega))
  replace KS := on17.above KS (fun b hb => by have := F8.out b hb; omega)
  have K17 := on17.above K16 (fun b hb => by have := F8.out b hb; omega)
  replace O8 := Lib.hid o17
  clear o17 on17
  obtain ⟨x0, y0⟩ := B0.six
  obtain ⟨x6, y6⟩ := B6.six
  go_wp2_with fail
  clear x0 y0 x6 y6
  refine (heldIntS_any _ _ ((onL (gdB z0 z1) (bases z0 z1))).length _ O8.out.ints (by omega) (by omega) (by omega)).mono ?_
  rintro e w18 ⟨rfl, k18⟩
  replace k18 := kept_of k18
  replace B0 := B0.kept k18
  replace B6 := B6.kept k18
  replace O6 := Lib.hid (O6.out.kept k18)
  replace O7 := Lib.hid (O7.out.kept k18)
  replace O8 := Lib.hid (O8.out.kept k18)
  replace KS := KS.trans k18
  have sz18 := k18.size
  have K18 := K17.trans k18
  obtain ⟨x0, y0⟩ := B0.six
  obtain ⟨x6, y6⟩ := B6.six
  go_wp2_with fail
  clear x0 y0 x6 y6
  refine (toCode_any _ z0 _ (H0.out.kept K18) (by omega) (by omega)).mono ?_
  rintro e w19 ⟨u19, rfl, o19, k19⟩
  replace B0 := B0.kept k19
  replace B6 := B6.kept k19
  replace O6 := Lib.hid (O6.out.kept k19)
  replace O7 := Lib.hid (O7.out.kept k19)
  replace O8 := Lib.hid (O8.out.kept k19)
  replace KS := KS.trans k19
  have sz19 := k19.size
  have K19 := K18.trans k19
  have R19 := Lib.hid o19.code
  clear o19
  obtain ⟨x0, y0⟩ := B0.six
  obtain ⟨x6, y6⟩ := B6.six
  go_wp2_with fail
  clear x0 y0 x6 y6
  refine (toItemS_any _ z1 _ (H1.out.kept K19) (by omega)).mono ?_
  rintro e w20 ⟨u20, S20, rfl, o20, k20⟩
  replace B0 := B0.kept k20
  replace B6 := B6.kept k20
  replace R19 := Lib.hid (R19.out.kept k20)
  replace O6 := Lib.hid (O6.out.kept k20)
  replace O7 := Lib.hid (O7.out.kept k20)
  replace O8 := Lib.hid (O8.out.kept k20)
  replace KS := KS.trans k20
  have sz20 := k20.size
  have K20 := K19.trans k20
  have R20 := Lib.hid o20.items
  clear o20
  obtain ⟨x0, y0⟩ := B0.six
  obtain ⟨x6, y6⟩ := B6.six
  go_wp2_with fail
  clear x0 y0 x6 y6
  refine (implBaseValues_any _ _ z0 z1 _ R19.out R20.out).mono ?_
  rintro e w21 ⟨u21, rfl, o21, k21⟩
  replace B0 := B0.kept k21
  replace B6 := B6.kept k21
  replace R19 := Lib.hid (R19.out.kept k21)
  replace R20 := Lib.hid (R20.out.kept k21)
  replace O6 := Lib.hid (O6.out.kept k21)
  replace O7 := Lib.hid (O7.out.kept k21)
  replace O8 := Lib.hid (O8.out.kept k21)
  replace KS := KS.trans k21
  have sz21 := k21.size
  have K21 := K20.trans k21
  clear R19
  clear R20
  have RH := Lib.hid o21.ints
  clear o21
  obtain ⟨x0, y0⟩ := B0.six
  obtain ⟨x6, y6⟩ := B6.six
  go_wp2_with fail
  clear x0 y0 x6 y6
  refine (eqIntS_any _ _ (onL (gdB z0 z1) (bases z0 z1)) (onL (gdB z0 z1) (bases z0 z1)) _ RH.out (RS.out.kept KS)).mono ?_
  rintro e w22 ⟨rfl, k22⟩
  replace B0 := B0.kept k22
  replace B6 := B6.kept k22
  replace RH := Lib.hid (RH.out.kept k22)
  replace O6 := Lib.hid (O6.out.kept k22)
  replace O7 := Lib.hid (O7.out.kept k22)
  replace O8 := Lib.hid (O8.out.kept k22)
  replace KS := KS.trans k22
  have sz22 := k22.size
  have K22 := K21.trans k22
  rw [show decide (onL (gdB z0 z1) (bases z0 z1) = onL (gdB z0 z1) (bases z0 z1)) = true from by simp]
  obtain ⟨x0, y0⟩ := B0.six
  obtain ⟨x6, y6⟩ := B6.six
  go_wp2_with fail
  clear x0 y0 x6 y6
  refine (heldIntS_any _ _ ((onL (gdB z0 z1) (bases z0 z1))).length _ O8.out.ints (by omega) (by omega) (by omega)).mono ?_
  rintro e w23 ⟨rfl, k23⟩
  replace k23 := kept_of k23
  replace B0 := B0.kept k23
  replace B6 := B6.kept k23
  replace RH := Lib.hid (RH.out.kept k23)
  replace O6 := Lib.hid (O6.out.kept k23)
  replace O7 := Lib.hid (O7.out.kept k23)
  replace O8 := Lib.hid (O8.out.kept k23)
  replace KS := KS.trans k23
  have sz23 := k23.size
  have K23 := K22.trans k23
  go_wp2_with fail
  go_ret
  exact ⟨rfl, K23⟩
end Go.Proofs.Ytpkmngkepmoikaa
