/- Contracts of functions that the proof leans on. No condition. -/
import Derived.Test.YtlmaiblfgbobnaaMb1fc314ba7
import Derived.Deep.DeepCutAuto
import Derived.Laws.IdiomCopy
import Derived.Laws.Externs
import Derived.Lib.Overlaps
import Derived.Lib.AppendZerosOnto
import Derived.Lib.SliceRun
import Derived.Deep.RegionLaw
/- Items over a code: bases of items, laws. -/
namespace Go.Proofs.Ytlmaiblfgbobnaa
set_option linter.unusedVariables false
set_option linter.unusedSimpArgs false
open Go.RowKit

theorem ret_vb2 {v : Value} {b b' : Bool} (h : b = b') : Ending.returned (.tuple #[v, .bool b]) = .returned (.tuple #[v, .bool b']) := by rw [h]
set_option maxHeartbeats 2000000 in
theorem bsItem_any (v0 v1 : Value) (x : CodeD) (its : List ItemD) (k : Nat) (w : World) (h0 : CodeAt w v0 x) (h1 : ItemsAt w v1 its) (hg : gdB x its = true) (hk : k < its.length) :
    Calls Try.prog 75 #[v0, v1, .int .i64 (k : Int)] w fun e w' => e = .returned (.int .i64 (baseV x its k)) ∧ Kept w w' := by
  have H0 := Lib.hid h0
  obtain ⟨n0, m0, rfl, p0, q0⟩ := h0
  have HE0 := Lib.hid p0; have HI0 := Lib.hid q0
  obtain ⟨A0, c0, rfl, hnc0, hcm0, _⟩ := p0.1.out; obtain ⟨D0, d0, rfl, hnd0, hdm0, _⟩ := q0.out; clear p0 q0; unfold maxLen at hcm0 hdm0
  have H1 := Lib.hid h1
  obtain ⟨A1, c1, cs1, rfl, hnc1, hcm1, hA1⟩ := h1.out; have HA1 := Lib.hid hA1; clear hA1 h1; unfold maxLen at hcm1
  obtain ⟨hx, hb, hkn⟩ := gdB_true hg
  have hkl : (k : Int) < (its.length : Int) := by omega
  have hl14 := (itemsB_true hb).1
  go_enter Try.func75, Try.ntmps75
  have K0 := Kept.refl w
  go_wp2_with fail
  obtain ⟨wb1, hwb1⟩ : ∃ w' : World, w' = w.alloc (.cells #[.slice A0 x.elems.length c0, .slice D0 x.limits.length d0, .int .i64 x.repeats, .int .i64 x.bonus, .int .i64 x.keeps, .int .i64 x.fall] 26) := ⟨_, rfl⟩
  rw [← hwb1]
  have KB0 : Kept w wb1 := hwb1 ▸ (Kept.refl w).alloc _
  have B0 : Box wb1 (w.heap.size) 26 #[.slice A0 x.elems.length c0, .slice D0 x.limits.length d0, .int .i64 x.repeats, .int .i64 x.bonus, .int .i64 x.keeps, .int .i64 x.fall] := hwb1 ▸ Box.new w (w.heap.size) 26 #[.slice A0 x.elems.length c0, .slice D0 x.limits.length d0, .int .i64 x.repeats, .int .i64 x.bonus, .int .i64 x.keeps, .int .i64 x.fall] rfl
  have swb1 : wb1.heap.size = w.heap.size + 1 := by rw [hwb1]; simp
  clear hwb1
  have Kwb1 := K0.trans KB0
  have Kd1_ : Kept wb1 wb1.drew := (Kept.refl _).drew
  replace B0 := B0.kept Kd1_
  have Kd1 := Kwb1.trans Kd1_
  obtain ⟨b, o, Aa, ca, Ab, cb, it, rfl, hbb, h2, h3, hit, q0, q1, q2⟩ := items_at (HA1.out.kept Kd1) hk
  have hib := (itemsB_true hb).2 it (List.mem_of_getElem? h2)
  have hik := knB_item hkn h2
  have HIT := Lib.hid hit
  have HV := Lib.hid (baseV_at (x := x) h2)
  have hfb := fullV_bd hx hib hik
  obtain ⟨hf1, hf2⟩ := hfb
  have hrb := repV_bd its k
  obtain ⟨hr1, hr2⟩ := hrb
  have HCO := Lib.hid (H0.out.kept Kd1)
  have HL := Lib.hid (H1.out.kept Kd1)
  have y0 := After.cell q0 hbb
  have y1 := After.cell q1 hbb
  have y2 := After.cell q2 hbb
  clear h2 h3 hit q0 q1 q2
  have x0 := fun t : After (wb1.drew) => (B0.kept t.kept).six.1
  refine region_after (by kernel_rfl) (by kernel_rfl) ?_
  repeat (go_big_quiet_step ((go_at_call 63; exact after_of (bsFull_any _ _ x it _ (HCO.out.kept (After.kept _)) (HIT.out.kept (After.kept _)) hx hib hik))))
  refine wpQuiet_nil ?_
  intro wq hw'
  obtain ⟨⟨_, kq⟩, hw''⟩ := hw'
  subst hw''
  try dsimp only
  clear x0
  replace B0 := B0.kept kq
  have Kq2 := Kd1.trans kq
  clear y0 y1 y2
  obtain ⟨x0, y0⟩ := B0.six
  go_wp2_with fail
  clear x0 y0
  refine (bsRepeats_any _ its k _ (H1.out.kept Kq2) hb hk).mono ?_
  rintro e w1 ⟨rfl, k1⟩
  replace B0 := B0.kept k1
  have sz1 := k1.size
  have K1 := Kq2.trans k1
  have hrp := (codeB_rests hx).1
  obtain ⟨hp1, hp2⟩ := hrp
  generalize repV its k = rv at *
  generalize fullV x it = fv at *
  rcases Int.lt_trichotomy rv x.repeats with hc | hc | hc
  · have HF : Hid (baseV x its k = fv) := Lib.hid (by rw [HV.out, if_pos hc])
    obtain ⟨x0, y0⟩ := B0.six
    go_wp2_with fail
    clear x0 y0
    go_ret
    exact ⟨ret_int HF.out.symm, K1⟩
  · have HF : Hid (baseV x its k = fv * 7 / 10) := Lib.hid (by rw [HV.out, if_neg (by omega), if_pos hc])
    have n1 : ¬ rv < x.repeats := by omega
    have e1 : (rv == x.repeats) = true := by simp [hc]
    clear hc
    obtain ⟨x0, y0⟩ := B0.six
    go_wp2_with fail
    clear x0 y0
    go_ret
    exact ⟨ret_int HF.out.symm, K1⟩
  · have HF : Hid (baseV x its k = 0) := Lib.hid (by rw [HV.out, if_neg (by omega), if_neg (by omega)])
    have n1 : ¬ rv < x.repeats := by omega
    have e1 : (rv == x.repeats) = false := beq_eq_false_iff_ne.2 (by omega)
    clear hc
    obtain ⟨x0, y0⟩ := B0.six
    go_wp2_with fail
    clear x0 y0
    go_ret
    exact ⟨ret_int HF.out.symm, K1⟩
set_option maxHeartbeats 2000000 in
theorem itemBase_any (v0 v1 : Value) (x : CodeD) (its : List ItemD) (k : Nat) (w : World) (h0 : CodeAt w v0 x) (h1 : ItemsAt w v1 its) (hg : gdB x its = true) (hk : k < its.length) :
    Calls Try.prog 74 #[v0, v1, .int .i64 (k : Int)] w fun e w' => e = .returned (.int .i64 (baseV x its k)) ∧ Kept w w' := by
  have H0 := Lib.hid h0
  obtain ⟨n0, m0, rfl, p0, q0⟩ := h0
  have HE0 := Lib.hid p0; have HI0 := Lib.hid q0
  obtain ⟨A0, c0, rfl, hnc0, hcm0, _⟩ := p0.1.out; obtain ⟨D0, d0, rfl, hnd0, hdm0, _⟩ := q0.out; clear p0 q0; unfold maxLen at hcm0 hdm0
  have H1 := Lib.hid h1
  obtain ⟨A1, c1, cs1, rfl, hnc1, hcm1, hA1⟩ := h1.out; have HA1 := Lib.hid hA1; clear hA1 h1; unfold maxLen at hcm1
  obtain ⟨hx, hb, hkn⟩ := gdB_true hg
  have hkl : (k : Int) < (its.length : Int) := by omega
  have hl14 := (itemsB_true hb).1
  go_enter Try.func74, Try.ntmps74
  have K0 := Kept.refl w
  go_wp2_with fail
  obtain ⟨wb1, hwb1⟩ : ∃ w' : World, w' = w.alloc (.cells #[.slice A0 x.elems.length c0, .slice D0 x.limits.length d0, .int .i64 x.repeats, .int .i64 x.bonus, .int .i64 x.keeps, .int .i64 x.fall] 26) := ⟨_, rfl⟩
  rw [← hwb1]
  have KB0 : Kept w wb1 := hwb1 ▸ (Kept.refl w).alloc _
  have B0 : Box wb1 (w.heap.size) 26 #[.slice A0 x.elems.length c0, .slice D0 x.limits.length d0, .int .i64 x.repeats, .int .i64 x.bonus, .int .i64 x.keeps, .int .i64 x.fall] := hwb1 ▸ Box.new w (w.heap.size) 26 #[.slice A0 x.elems.length c0, .slice D0 x.limits.length d0, .int .i64 x.repeats, .int .i64 x.bonus, .int .i64 x.keeps, .int .i64 x.fall] rfl
  have swb1 : wb1.heap.size = w.heap.size + 1 := by rw [hwb1]; simp
  clear hwb1
  have Kwb1 := K0.trans KB0
  have Kd1_ : Kept wb1 wb1.drew := (Kept.refl _).drew
  replace B0 := B0.kept Kd1_
  have Kd1 := Kwb1.trans Kd1_
  obtain ⟨b, o, Aa, ca, Ab, cb, it, rfl, hbb, h2, h3, hit, q0, q1, q2⟩ := items_at (HA1.out.kept Kd1) hk
  have hib := (itemsB_true hb).2 it (List.mem_of_getElem? h2)
  have hik := knB_item hkn h2
  have HIT := Lib.hid hit
  have HV := Lib.hid (baseV_at (x := x) h2)
  have hfb := fullV_bd hx hib hik
  obtain ⟨hf1, hf2⟩ := hfb
  have hrb := repV_bd its k
  obtain ⟨hr1, hr2⟩ := hrb
  have HCO := Lib.hid (H0.out.kept Kd1)
  have HL := Lib.hid (H1.out.kept Kd1)
  have y0 := After.cell q0 hbb
  have y1 := After.cell q1 hbb
  have y2 := After.cell q2 hbb
  clear h2 h3 hit q0 q1 q2
  have x0 := fun t : After (wb1.drew) => (B0.kept t.kept).six.1
  refine region_after (by kernel_rfl) (by kernel_rfl) ?_
  repeat (go_big_quiet_step ((first | (go_at_call 61; exact after_of (fullBase_any _ _ x it _ (HCO.out.kept (After.kept _)) (HIT.out.kept (After.kept _)) hx hib hik)) | (go_at_call 72; exact after_of (repeatsOf_any _ its k _ (HL.out.kept (After.kept _)) hb hk)))))
  refine wpQuiet_nil ?_
  intro wq hw'
  obtain ⟨⟨_, kq⟩, hw''⟩ := hw'
  subst hw''
  try dsimp only
  clear x0
  replace B0 := B0.kept kq
  have Kq2 := Kd1.trans kq
  clear y0 y1 y2
  have hrp := (codeB_rests hx).1
  obtain ⟨hp1, hp2⟩ := hrp
  generalize repV its k = rv at *
  generalize fullV x it = fv at *
  rcases Int.lt_trichotomy rv x.repeats with hc | hc | hc
  · have HF : Hid (baseV x its k = fv) := Lib.hid (by rw [HV.out, if_pos hc])
    obtain ⟨x0, y0⟩ := B0.six
    go_wp2_with fail
    clear x0 y0
    go_ret
    exact ⟨ret_int HF.out.symm, Kq2⟩
  · have HF : Hid (baseV x its k = fv * 7 / 10) := Lib.hid (by rw [HV.out, if_neg (by omega), if_pos hc])
    have n1 : ¬ rv < x.repeats := by omega
    have e1 : (rv == x.repeats) = true := by simp [hc]
    clear hc
    obtain ⟨x0, y0⟩ := B0.six
    go_wp2_with fail
    clear x0 y0
    go_ret
    exact ⟨ret_int HF.out.symm, Kq2⟩
  · have HF : Hid (baseV x its k = 0) := Lib.hid (by rw [HV.out, if_neg (by omega), if_neg (by omega)])
    have n1 : ¬ rv < x.repeats := by omega
    have e1 : (rv == x.repeats) = false := beq_eq_false_iff_ne.2 (by omega)
    clear hc
    obtain ⟨x0, y0⟩ := B0.six
    go_wp2_with fail
    clear x0 y0
    go_ret
    exact ⟨ret_int HF.out.symm, Kq2⟩
set_option maxHeartbeats 1000000 in
theorem specItemBase_any (v0 v1 : Value) (x : CodeD) (its : List ItemD) (a : Int) (w : World) (h0 : CodeAt w v0 x) (h1 : ItemsAt w v1 its)  :
    Calls Try.prog 38 #[v0, v1, .int .i64 a] w fun e w' => e = .returned (.tuple #[.int .i64 (onI (hasB x its a) (baseV x its a.toNat)), .bool (hasB x its a)]) ∧ Kept w w' := by
  have H0 := Lib.hid h0
  obtain ⟨n0, m0, rfl, p0, q0⟩ := h0
  have HE0 := Lib.hid p0; have HI0 := Lib.hid q0
  obtain ⟨A0, c0, rfl, hnc0, hcm0, _⟩ := p0.1.out; obtain ⟨D0, d0, rfl, hnd0, hdm0, _⟩ := q0.out; clear p0 q0; unfold maxLen at hcm0 hdm0
  have H1 := Lib.hid h1
  obtain ⟨A1, c1, cs1, rfl, hnc1, hcm1, hA1⟩ := h1.out; have HA1 := Lib.hid hA1; clear hA1 h1; unfold maxLen at hcm1
  go_enter Try.func38, Try.ntmps38
  have K0 := Kept.refl w
  go_wp2_with fail
  obtain ⟨wb1, hwb1⟩ : ∃ w' : World, w' = w.alloc (.cells #[.slice A0 x.elems.length c0, .slice D0 x.limits.length d0, .int .i64 x.repeats, .int .i64 x.bonus, .int .i64 x.keeps, .int .i64 x.fall] 26) := ⟨_, rfl⟩
  rw [← hwb1]
  have KB0 : Kept w wb1 := hwb1 ▸ (Kept.refl w).alloc _
  have B0 : Box wb1 (w.heap.size) 26 #[.slice A0 x.elems.length c0, .slice D0 x.limits.length d0, .int .i64 x.repeats, .int .i64 x.bonus, .int .i64 x.keeps, .int .i64 x.fall] := hwb1 ▸ Box.new w (w.heap.size) 26 #[.slice A0 x.elems.length c0, .slice D0 x.limits.length d0, .int .i64 x.repeats, .int .i64 x.bonus, .int .i64 x.keeps, .int .i64 x.fall] rfl
  have swb1 : wb1.heap.size = w.heap.size + 1 := by rw [hwb1]; simp
  clear hwb1
  have Kwb1 := K0.trans KB0
  refine (bsHas_any _ _ x its a _ (H0.out.kept Kwb1) (H1.out.kept Kwb1)).mono ?_
  rintro e w1 ⟨rfl, k1⟩
  replace B0 := B0.kept k1
  have sz1 := k1.size
  have K1 := Kwb1.trans k1
  by_cases hg : hasB x its a = true
  case neg =>
    simp only [Bool.not_eq_true] at hg
    rw [hg]
    have HO := Lib.hid hg
    clear hg
    obtain ⟨x0, y0⟩ := B0.six
    go_wp2_with fail
    clear x0 y0
    go_ret2
    exact ⟨by rw [HO.out]; rfl, K1⟩
  rw [hg]
  have HG := Lib.hid hg
  obtain ⟨hgd, h0a, hka⟩ := hasB_true hg
  have hb := (gdB_true hgd).2.1
  clear hg
  obtain ⟨k, rfl⟩ := Int.eq_ofNat_of_zero_le h0a
  rw [Int.toNat_natCast] at hka
  obtain ⟨x0, y0⟩ := B0.six
  go_wp2_with fail
  clear x0 y0
  refine (bsItem_any _ _ x its k _ (H0.out.kept K1) (H1.out.kept K1) hgd hka).mono ?_
  rintro e w2 ⟨rfl, k2⟩
  replace B0 := B0.kept k2
  have sz2 := k2.size
  have K2 := K1.trans k2
  obtain ⟨x0, y0⟩ := B0.six
  go_wp2_with fail
  clear x0 y0
  go_ret2
  exact ⟨by rw [HG.out]; first | rfl | (simp only [Int.toNat_natCast]; rfl), K2⟩
set_option maxHeartbeats 1000000 in
theorem implItemBase_any (v0 v1 : Value) (x : CodeD) (its : List ItemD) (a : Int) (w : World) (h0 : CodeAt w v0 x) (h1 : ItemsAt w v1 its)  :
    Calls Try.prog 37 #[v0, v1, .int .i64 a] w fun e w' => e = .returned (.tuple #[.int .i64 (onI (hasB x its a) (baseV x its a.toNat)), .bool (hasB x its a)]) ∧ Kept w w' := by
  have H0 := Lib.hid h0
  obtain ⟨n0, m0, rfl, p0, q0⟩ := h0
  have HE0 := Lib.hid p0; have HI0 := Lib.hid q0
  obtain ⟨A0, c0, rfl, hnc0, hcm0, _⟩ := p0.1.out; obtain ⟨D0, d0, rfl, hnd0, hdm0, _⟩ := q0.out; clear p0 q0; unfold maxLen at hcm0 hdm0
  have H1 := Lib.hid h1
  obtain ⟨A1, c1, cs1, rfl, hnc1, hcm1, hA1⟩ := h1.out; have HA1 := Lib.hid hA1; clear hA1 h1; unfold maxLen at hcm1
  go_enter Try.func37, Try.ntmps37
  have K0 := Kept.refl w
  go_wp2_with fail
  obtain ⟨wb1, hwb1⟩ : ∃ w' : World, w' = w.alloc (.cells #[.slice A0 x.elems.length c0, .slice D0 x.limits.length d0, .int .i64 x.repeats, .int .i64 x.bonus, .int .i64 x.keeps, .int .i64 x.fall] 26) := ⟨_, rfl⟩
  rw [← hwb1]
  have KB0 : Kept w wb1 := hwb1 ▸ (Kept.refl w).alloc _
  have B0 : Box wb1 (w.heap.size) 26 #[.slice A0 x.elems.length c0, .slice D0 x.limits.length d0, .int .i64 x.repeats, .int .i64 x.bonus, .int .i64 x.keeps, .int .i64 x.fall] := hwb1 ▸ Box.new w (w.heap.size) 26 #[.slice A0 x.elems.length c0, .slice D0 x.limits.length d0, .int .i64 x.repeats, .int .i64 x.bonus, .int .i64 x.keeps, .int .i64 x.fall] rfl
  have swb1 : wb1.heap.size = w.heap.size + 1 := by rw [hwb1]; simp
  clear hwb1
  have Kwb1 := K0.trans KB0
  refine (hasKnown_any _ _ x its a _ (H0.out.kept Kwb1) (H1.out.kept Kwb1)).mono ?_
  rintro e w1 ⟨rfl, k1⟩
  replace B0 := B0.kept k1
  have sz1 := k1.size
  have K1 := Kwb1.trans k1
  by_cases hg : hasB x its a = true
  case neg =>
    simp only [Bool.not_eq_true] at hg
    rw [hg]
    have HO := Lib.hid hg
    clear hg
    obtain ⟨x0, y0⟩ := B0.six
    go_wp2_with fail
    clear x0 y0
    go_ret2
    exact ⟨by rw [HO.out]; rfl, K1⟩
  rw [hg]
  have HG := Lib.hid hg
  obtain ⟨hgd, h0a, hka⟩ := hasB_true hg
  have hb := (gdB_true hgd).2.1
  clear hg
  obtain ⟨k, rfl⟩ := Int.eq_ofNat_of_zero_le h0a
  rw [Int.toNat_natCast] at hka
  obtain ⟨x0, y0⟩ := B0.six
  go_wp2_with fail
  clear x0 y0
  refine (itemBase_any _ _ x its k _ (H0.out.kept K1) (H1.out.kept K1) hgd hka).mono ?_
  rintro e w2 ⟨rfl, k2⟩
  replace B0 := B0.kept k2
  have sz2 := k2.size
  have K2 := K1.trans k2
  obtain ⟨x0, y0⟩ := B0.six
  go_wp2_with fail
  clear x0 y0
  go_ret2
  exact ⟨by rw [HG.out]; first | rfl | (simp only [Int.toNat_natCast]; rfl), K2⟩
theorem onL_len {b : Bool} {l : List Int} {n : Nat} (h : b = true → l.length ≤ n) : (onL b l).length ≤ n := by cases b with | true => exact h rfl | false => exact Nat.zero_le _
end Go.Proofs.Ytlmaiblfgbobnaa

/- Items over a code: LateGain. -/
namespace Go.Proofs.Ytlmaiblfgbobnaa
set_option linter.unusedVariables false
set_option linter.unusedSimpArgs false
open Go.RowKit

def setL (it : ItemD) (b : Bool) : ItemD := { it with late := b }
def gainV (x : CodeD) (its : List ItemD) (k : Nat) : Int := match its[k]? with | some it => fullV x (setL it true) - fullV x (setL it false) | none => 0
theorem gainV_at {x : CodeD} {its : List ItemD} {k : Nat} {it : ItemD} (h : its[k]? = some it) : gainV x its k = fullV x (setL it true) - fullV x (setL it false) := by unfold gainV; rw [h]
theorem setL_item (it : ItemD) (b : Bool) : itemB (setL it b) = itemB it := rfl
theorem setL_known (x : CodeD) (it : ItemD) (b : Bool) : knI x (setL it b) = knI x it := rfl
theorem bsFull_is (n : Int) (v0 v1 : Value) (x : CodeD) (it : ItemD) (w : World) (hn : fullV x it = n) (h0 : CodeAt w v0 x) (h1 : ItemAt w v1 it) (hx : codeB x = true) (hi : itemB it = true) (hk : knI x it = true) :
    Calls Try.prog 63 #[v0, v1] w fun e w' => e = .returned (.int .i64 n) ∧ Kept w w' := by rw [← hn]; exact bsFull_any v0 v1 x it w h0 h1 hx hi hk
theorem fullBase_is (n : Int) (v0 v1 : Value) (x : CodeD) (it : ItemD) (w : World) (hn : fullV x it = n) (h0 : CodeAt w v0 x) (h1 : ItemAt w v1 it) (hx : codeB x = true) (hi : itemB it = true) (hk : knI x it = true) :
    Calls Try.prog 61 #[v0, v1] w fun e w' => e = .returned (.int .i64 n) ∧ Kept w w' := by rw [← hn]; exact fullBase_any v0 v1 x it w h0 h1 hx hi hk
set_option maxHeartbeats 4000000 in
theorem specLateGain_any (v0 v1 : Value) (x : CodeD) (its : List ItemD) (a : Int) (w : World) (h0 : CodeAt w v0 x) (h1 : ItemsAt w v1 its)  :
    Calls Try.prog 27 #[v0, v1, .int .i64 a] w fun e w' => e = .returned (.tuple #[.int .i64 (onI (hasB x its a) (gainV x its a.toNat)), .bool (hasB x its a)]) ∧ Kept w w' := by
  have H0 := Lib.hid h0
  obtain ⟨n0, m0, rfl, p0, q0⟩ := h0
  have HE0 := Lib.hid p0; have HI0 := Lib.hid q0
  obtain ⟨A0, c0, rfl, hnc0, hcm0, _⟩ := p0.1.out; obtain ⟨D0, d0, rfl, hnd0, hdm0, _⟩ := q0.out; clear p0 q0; unfold maxLen at hcm0 hdm0
  have H1 := Lib.hid h1
  obtain ⟨A1, c1, cs1, rfl, hnc1, hcm1, hA1⟩ := h1.out; have HA1 := Lib.hid hA1; clear hA1 h1; unfold maxLen at hcm1
  go_enter Try.func27, Try.ntmps27
  have K0 := Kept.refl w
  go_wp2_with fail
  obtain ⟨wb1, hwb1⟩ : ∃ w' : World, w' = w.alloc (.cells #[.slice A0 x.elems.length c0, .slice D0 x.limits.length d0, .int .i64 x.repeats, .int .i64 x.bonus, .int .i64 x.keeps, .int .i64 x.fall] 26) := ⟨_, rfl⟩
  rw [← hwb1]
  have KB0 : Kept w wb1 := hwb1 ▸ (Kept.refl w).alloc _
  have B0 : Box wb1 (w.heap.size) 26 #[.slice A0 x.elems.length c0, .slice D0 x.limits.length d0, .int .i64 x.repeats, .int .i64 x.bonus, .int .i64 x.keeps, .int .i64 x.fall] := hwb1 ▸ Box.new w (w.heap.size) 26 #[.slice A0 x.elems.length c0, .slice D0 x.limits.length d0, .int .i64 x.repeats, .int .i64 x.bonus, .int .i64 x.keeps, .int .i64 x.fall] rfl
  have swb1 : wb1.heap.size = w.heap.size + 1 := by rw [hwb1]; simp
  clear hwb1
  have Kwb1 := K0.trans KB0
  refine (bsHas_any _ _ x its a _ (H0.out.kept Kwb1) (H1.out.kept Kwb1)).mono ?_
  rintro e w1 ⟨rfl, k1⟩
  replace B0 := B0.kept k1
  have sz1 := k1.size
  have K1 := Kwb1.trans k1
  by_cases hg : hasB x its a = true
  case neg =>
    simp only [Bool.not_eq_true] at hg
    rw [hg]
    have HO := Lib.hid hg
    clear hg
    obtain ⟨x0, y0⟩ := B0.six
    go_wp2_with fail
    clear x0 y0
    go_ret2
    exact ⟨by rw [HO.out]; rfl, K1⟩
  rw [hg]
  have HG := Lib.hid hg
  obtain ⟨hgd, h0a, hka⟩ := hasB_true hg
  obtain ⟨hx, hb, hkn⟩ := gdB_true hgd
  clear hg
  obtain ⟨k, rfl⟩ := Int.eq_ofNat_of_zero_le h0a
  rw [Int.toNat_natCast] at hka
  have hkl : (k : Int) < (its.length : Int) := by omega
  have hl14 := (itemsB_true hb).1
  obtain ⟨b, o, Aa, ca, Ab, cb, it, rfl, hbb, h2, h3, hit, q0, q1, q2⟩ := items_at (HA1.out.kept K1) hka
  have hib := (itemsB_true hb).2 it (List.mem_of_getElem? h2)
  have hik := knB_item hkn h2
  have HV := Lib.hid (gainV_at (x := x) h2)
  obtain ⟨p1, p2⟩ := hit.parts
  have P1 := Lib.hid p1
  have P2 := Lib.hid p2
  clear h2 h3 hit p1 p2 hgd hb hkn
  obtain ⟨x0, y0⟩ := B0.six
  go_wp2_with fail
  clear x0 y0
  obtain ⟨wb2, hwb2⟩ : ∃ w' : World, w' = w1.alloc (.cells #[.slice Aa it.names.length ca, .slice Ab it.marks.length cb, .bool true] 52) := ⟨_, rfl⟩
  rw [← hwb2]
  have KBl : Kept w1 wb2 := hwb2 ▸ (Kept.refl w1).alloc _
  have Bl : Box wb2 (w1.heap.size) 52 #[.slice Aa it.names.length ca, .slice Ab it.marks.length cb, .bool true] := hwb2 ▸ Box.new w1 (w1.heap.size) 52 #[.slice Aa it.names.length ca, .slice Ab it.marks.length cb, .bool true] rfl
  have swb2 : wb2.heap.size = w1.heap.size + 1 := by rw [hwb2]; simp
  clear hwb2
  replace B0 := B0.kept KBl
  have Kwb2 := K1.trans KBl
  obtain ⟨wb3, hwb3⟩ : ∃ w' : World, w' = wb2.alloc (.cells #[.slice Aa it.names.length ca, .slice Ab it.marks.length cb, .bool false] 52) := ⟨_, rfl⟩
  rw [← hwb3]
  have KBe : Kept wb2 wb3 := hwb3 ▸ (Kept.refl wb2).alloc _
  have Be : Box wb3 (w1.heap.size + 1) 52 #[.slice Aa it.names.length ca, .slice Ab it.marks.length cb, .bool false] := hwb3 ▸ Box.new wb2 (w1.heap.size + 1) 52 #[.slice Aa it.names.length ca, .slice Ab it.marks.length cb, .bool false] (by omega)
  have swb3 : wb3.heap.size = wb2.heap.size + 1 := by rw [hwb3]; simp
  clear hwb3
  replace B0 := B0.kept KBe
  replace Bl := Bl.kept KBe
  have Kwb3 := Kwb2.trans KBe
  clear q0 q1 q2
  have Kd1_ : Kept wb3 wb3.drew := (Kept.refl _).drew
  replace B0 := B0.kept Kd1_
  replace Bl := Bl.kept Kd1_
  replace Be := Be.kept Kd1_
  have Kd1 := Kwb3.trans Kd1_
  have HCO := Lib.hid (H0.out.kept Kd1)
  have kk : Kept w1 wb3.drew := ((Kept.refl _).trans KBl |>.trans KBe).drew
  have HT : Hid (ItemAt wb3.drew (.agg #[.slice Aa it.names.length ca, .slice Ab it.marks.length cb, .bool true]) (setL it true)) := Lib.hid ⟨_, _, rfl, P1.out.kept kk, P2.out.kept kk⟩
  have HF : Hid (ItemAt wb3.drew (.agg #[.slice Aa it.names.length ca, .slice Ab it.marks.length cb, .bool false]) (setL it false)) := Lib.hid ⟨_, _, rfl, P1.out.kept kk, P2.out.kept kk⟩
  have bd1 := fullV_bd hx ((setL_item it true).trans hib) ((setL_known x it true).trans hik)
  have bd2 := fullV_bd hx ((setL_item it false).trans hib) ((setL_known x it false).trans hik)
  generalize hf1 : fullV x (setL it true) = f1 at *
  generalize hf2 : fullV x (setL it false) = f2 at *
  have HF1 := Lib.hid hf1
  have HF2 := Lib.hid hf2
  clear hf1 hf2
  obtain ⟨d1, d2⟩ := bd1
  obtain ⟨d3, d4⟩ := bd2
  have hwr : IntKind.i64.wrap (f1 - f2) = f1 - f2 := IntWalk.i64_in _ (by omega)
  have x0 := fun t : After (wb3.drew) => (B0.kept t.kept).six.1
  have xl := fun t : After (wb3.drew) => (Bl.kept t.kept).three.1
  have xe := fun t : After (wb3.drew) => (Be.kept t.kept).three.1
  refine region_after (by kernel_rfl) (by kernel_rfl) ?_
  repeat (go_big_quiet_step ((first | (go_at_call 63; exact after_of (bsFull_is _ _ _ x (setL it true) _ HF1.out (HCO.out.kept (After.kept _)) (HT.out.kept (After.kept _)) hx hib hik)) | (go_at_call 63; exact after_of (bsFull_is _ _ _ x (setL it false) _ HF2.out (HCO.out.kept (After.kept _)) (HF.out.kept (After.kept _)) hx hib hik)))))
  refine wpQuiet_nil ?_
  intro wq hw'
  obtain ⟨⟨_, kq⟩, hw''⟩ := hw'
  subst hw''
  try dsimp only
  clear x0 xl xe
  replace B0 := B0.kept kq
  replace Bl := Bl.kept kq
  replace Be := Be.kept kq
  have Kq2 := Kd1.trans kq
  obtain ⟨x0, y0⟩ := B0.six
  obtain ⟨xl, yl⟩ := Bl.three
  obtain ⟨xe, ye⟩ := Be.three
  go_wp2_with fail
  clear x0 y0 xl yl xe ye
  go_ret2
  exact ⟨by rw [HG.out]; simp only [Int.toNat_natCast, HV.out]; rfl, Kq2⟩
set_option maxHeartbeats 4000000 in
theorem implLateGain_any (v0 v1 : Value) (x : CodeD) (its : List ItemD) (a : Int) (w : World) (h0 : CodeAt w v0 x) (h1 : ItemsAt w v1 its)  :
    Calls Try.prog 26 #[v0, v1, .int .i64 a] w fun e w' => e = .returned (.tuple #[.int .i64 (onI (hasB x its a) (gainV x its a.toNat)), .bool (hasB x its a)]) ∧ Kept w w' := by
  have H0 := Lib.hid h0
  obtain ⟨n0, m0, rfl, p0, q0⟩ := h0
  have HE0 := Lib.hid p0; have HI0 := Lib.hid q0
  obtain ⟨A0, c0, rfl, hnc0, hcm0, _⟩ := p0.1.out; obtain ⟨D0, d0, rfl, hnd0, hdm0, _⟩ := q0.out; clear p0 q0; unfold maxLen at hcm0 hdm0
  have H1 := Lib.hid h1
  obtain ⟨A1, c1, cs1, rfl, hnc1, hcm1, hA1⟩ := h1.out; have HA1 := Lib.hid hA1; clear hA1 h1; unfold maxLen at hcm1
  go_enter Try.func26, Try.ntmps26
  have K0 := Kept.refl w
  go_wp2_with fail
  obtain ⟨wb1, hwb1⟩ : ∃ w' : World, w' = w.alloc (.cells #[.slice A0 x.elems.length c0, .slice D0 x.limits.length d0, .int .i64 x.repeats, .int .i64 x.bonus, .int .i64 x.keeps, .int .i64 x.fall] 26) := ⟨_, rfl⟩
  rw [← hwb1]
  have KB0 : Kept w wb1 := hwb1 ▸ (Kept.refl w).alloc _
  have B0 : Box wb1 (w.heap.size) 26 #[.slice A0 x.elems.length c0, .slice D0 x.limits.length d0, .int .i64 x.repeats, .int .i64 x.bonus, .int .i64 x.keeps, .int .i64 x.fall] := hwb1 ▸ Box.new w (w.heap.size) 26 #[.slice A0 x.elems.length c0, .slice D0 x.limits.length d0, .int .i64 x.repeats, .int .i64 x.bonus, .int .i64 x.keeps, .int .i64 x.fall] rfl
  have swb1 : wb1.heap.size = w.heap.size + 1 := by rw [hwb1]; simp
  clear hwb1
  have Kwb1 := K0.trans KB0
  refine (hasKnown_any _ _ x its a _ (H0.out.kept Kwb1) (H1.out.kept Kwb1)).mono ?_
  rintro e w1 ⟨rfl, k1⟩
  replace B0 := B0.kept k1
  have sz1 := k1.size
  have K1 := Kwb1.trans k1
  by_cases hg : hasB x its a = true
  case neg =>
    simp only [Bool.not_eq_true] at hg
    rw [hg]
    have HO := Lib.hid hg
    clear hg
    obtain ⟨x0, y0⟩ := B0.six
    go_wp2_with fail
    clear x0 y0
    go_ret2
    exact ⟨by rw [HO.out]; rfl, K1⟩
  rw [hg]
  have HG := Lib.hid hg
  obtain ⟨hgd, h0a, hka⟩ := hasB_true hg
  obtain ⟨hx, hb, hkn⟩ := gdB_true hgd
  clear hg
  obtain ⟨k, rfl⟩ := Int.eq_ofNat_of_zero_le h0a
  rw [Int.toNat_natCast] at hka
  have hkl : (k : Int) < (its.length : Int) := by omega
  have hl14 := (itemsB_true hb).1
  obtain ⟨b, o, Aa, ca, Ab, cb, it, rfl, hbb, h2, h3, hit, q0, q1, q2⟩ := items_at (HA1.out.kept K1) hka
  have hib := (itemsB_true hb).2 it (List.mem_of_getElem? h2)
  have hik := knB_item hkn h2
  have HV := Lib.hid (gainV_at (x := x) h2)
  obtain ⟨p1, p2⟩ := hit.parts
  have P1 := Lib.hid p1
  have P2 := Lib.hid p2
  clear h2 h3 hit p1 p2 hgd hb hkn
  obtain ⟨x0, y0⟩ := B0.six
  go_upto_region 3 with (fail)
  clear x0 y0
  have QC := Lib.hid (⟨q0, q1, q2⟩ : _ ∧ _ ∧ _)
  clear q0 q1 q2
  go_cut [8, 9] (fun s8 s9 wx => ∃ g1 g2 : Nat, s8 = .pointer (some ⟨g1, 0, none⟩) ∧ s9 = .pointer (some ⟨g2, 0, none⟩) ∧ g1 ≠ g2 ∧ w1.heap.size ≤ g1 ∧ w1.heap.size ≤ g2 ∧ Box wx g1 52 #[.slice Aa it.names.length ca, .slice Ab it.marks.length cb, .bool it.late] ∧ Box wx g2 52 #[.slice Aa it.names.length ca, .slice Ab it.marks.length cb, .bool it.late] ∧ Kept w1 wx)
  case first =>
    obtain ⟨q0, q1, q2⟩ := QC.out
    have z0 := World.new_ne w1 ⟨b, o + k * 3, none⟩ q0
    have z1 := World.new_ne w1 ⟨b, o + k * 3 + 1, none⟩ q1
    have z2 := World.new_ne w1 ⟨b, o + k * 3 + 2, none⟩ q2
    go_region_held3 (fun w' => w'.cell? ⟨b, o + k * 3, none⟩ = some (.slice Aa it.names.length ca) ∧ w'.cell? ⟨b, o + k * 3 + 1, none⟩ = some (.slice Ab it.marks.length cb) ∧ w'.cell? ⟨b, o + k * 3 + 2, none⟩ = some (.bool it.late)) (go_keep) (fail)
    all_goals go_wp2_with fail
    all_goals go_meet
    · exact ⟨w1.heap.size, w1.heap.size + 1, rfl, rfl, by omega, by omega, by omega, (Box.new w1 _ _ _ rfl).alloc _, Box.new (w1.alloc _) _ _ _ (by simp), (((Kept.refl _).alloc _).alloc _).drew⟩
    · exact ⟨w1.heap.size + 1, w1.heap.size, rfl, rfl, by omega, by omega, by omega, Box.new (w1.alloc _) _ _ _ (by simp), (Box.new w1 _ _ _ rfl).alloc _, (((Kept.refl _).alloc _).alloc _).drew⟩
  case rest =>
    obtain ⟨g1, g2, rfl, rfl, hne, hg1, hg2, Bl, Be, kx⟩ := hcut
    have hne' : g2 ≠ g1 := fun e => hne e.symm
    obtain ⟨xl, yl⟩ := Bl.three
    obtain ⟨xe, ye⟩ := Be.three
    obtain ⟨x0, y0⟩ := (B0.kept kx).six
    go_upto_region 5 with (fail)
    clear xl yl xe ye x0 y0
    have kz : Kept w1 ((wc.setCell ⟨g1, 2, none⟩ (.bool true)).setCell ⟨g2, 2, none⟩ (.bool false)) := (kx.setCell hg1 _).setCell hg2 _
    replace Bl : Box ((wc.setCell ⟨g1, 2, none⟩ (.bool true)).setCell ⟨g2, 2, none⟩ (.bool false)) g1 52 #[.slice Aa it.names.length ca, .slice Ab it.marks.length cb, .bool true] := (Bl.set 2 _).far _ hne _
    replace Be : Box ((wc.setCell ⟨g1, 2, none⟩ (.bool true)).setCell ⟨g2, 2, none⟩ (.bool false)) g2 52 #[.slice Aa it.names.length ca, .slice Ab it.marks.length cb, .bool false] := (Be.far ⟨g1, 2, none⟩ hne' _).set 2 _
    generalize (wc.setCell ⟨g1, 2, none⟩ (.bool true)).setCell ⟨g2, 2, none⟩ (.bool false) = wz at *
    clear kx
    replace B0 := B0.kept kz
    have szz := kz.size
    have Kz := K1.trans kz
    have Kd1_ : Kept wz wz.drew := (Kept.refl _).drew
    replace B0 := B0.kept Kd1_
    replace Bl := Bl.kept Kd1_
    replace Be := Be.kept Kd1_
    have Kd1 := Kz.trans Kd1_
    have HCO := Lib.hid (H0.out.kept Kd1)
    have kk : Kept w1 wz.drew := kz.drew
    have HT : Hid (ItemAt wz.drew (.agg #[.slice Aa it.names.length ca, .slice Ab it.marks.length cb, .bool true]) (setL it true)) := Lib.hid ⟨_, _, rfl, P1.out.kept kk, P2.out.kept kk⟩
    have HF : Hid (ItemAt wz.drew (.agg #[.slice Aa it.names.length ca, .slice Ab it.marks.length cb, .bool false]) (setL it false)) := Lib.hid ⟨_, _, rfl, P1.out.kept kk, P2.out.kept kk⟩
    have bd1 := fullV_bd hx ((setL_item it true).trans hib) ((setL_known x it true).trans hik)
    have bd2 := fullV_bd hx ((setL_item it false).trans hib) ((setL_known x it false).trans hik)
    generalize hf1 : fullV x (setL it true) = f1 at *
    generalize hf2 : fullV x (setL it false) = f2 at *
    have HF1 := Lib.hid hf1
    have HF2 := Lib.hid hf2
    clear hf1 hf2
    obtain ⟨d1, d2⟩ := bd1
    obtain ⟨d3, d4⟩ := bd2
    have hwr : IntKind.i64.wrap (f1 - f2) = f1 - f2 := IntWalk.i64_in _ (by omega)
    have x0 := fun t : After (wz.drew) => (B0.kept t.kept).six.1
    have xl := fun t : After (wz.drew) => (Bl.kept t.kept).three.1
    have xe := fun t : After (wz.drew) => (Be.kept t.kept).three.1
    refine region_after (by kernel_rfl) (by kernel_rfl) ?_
    repeat (go_big_quiet_step ((first | (go_at_call 61; exact after_of (fullBase_is _ _ _ x (setL it true) _ HF1.out (HCO.out.kept (After.kept _)) (HT.out.kept (After.kept _)) hx hib hik)) | (go_at_call 61; exact after_of (fullBase_is _ _ _ x (setL it false) _ HF2.out (HCO.out.kept (After.kept _)) (HF.out.kept (After.kept _)) hx hib hik)))))
    refine wpQuiet_nil ?_
    intro wq hw'
    obtain ⟨⟨_, kq⟩, hw''⟩ := hw'
    subst hw''
    try dsimp only
    clear x0 xl xe
    replace B0 := B0.kept kq
    replace Bl := Bl.kept kq
    replace Be := Be.kept kq
    have Kq2 := Kd1.trans kq
    obtain ⟨x0, y0⟩ := B0.six
    obtain ⟨xl, yl⟩ := Bl.three
    obtain ⟨xe, ye⟩ := Be.three
    go_wp2_with fail
    clear x0 y0 xl yl xe ye
    go_ret2
    exact ⟨by rw [HG.out]; simp only [Int.toNat_natCast, HV.out]; rfl, Kq2⟩
end Go.Proofs.Ytlmaiblfgbobnaa

/- FnItemWorths: plain facts. -/
namespace Go.Proofs.Ytlmaiblfgbobnaa
set_option linter.unusedVariables false
set_option linter.unusedSimpArgs false
open Go.RowKit

theorem lateV_ge {s b : Int} (h1 : 0 ≤ s) (h2 : 0 ≤ b) : s ≤ lateV s b := by
  have e : s * 100 ≤ s * (100 + b) := Int.mul_le_mul_of_nonneg_left (by omega) h1
  unfold lateV
  generalize s * (100 + b) = q at *
  omega
theorem fullV_ge {x : CodeD} {it : ItemD} (hx : codeB x = true) (hi : itemB it = true) (hk : knI x it = true) : sumV x it ≤ fullV x it := by
  have h := sumV_bd hx hi hk
  have e := codeB_rests hx
  unfold fullV
  split
  · exact lateV_ge h.1 e.2.1.1
  · omega
theorem sumV_setL (x : CodeD) (it : ItemD) (b : Bool) : sumV x (setL it b) = sumV x it := rfl
theorem gain_nonneg {x : CodeD} {its : List ItemD} {k : Int} (h : hasB x its k = true) : 0 ≤ gainV x its k.toNat := by
  obtain ⟨hg, h0, hl⟩ := hasB_true h
  obtain ⟨hx, hi, hk⟩ := gdB_true hg
  obtain ⟨it, hit⟩ : ∃ it, its[k.toNat]? = some it := ⟨_, List.getElem?_eq_getElem hl⟩
  have hi' : itemB it = true := (itemsB_true hi).2 it (List.mem_of_getElem? hit)
  have hk' := knB_item hk hit
  rw [gainV_at hit]
  have h1 := fullV_ge (x := x) (it := setL it true) hx hi' hk'
  have h2 : fullV x (setL it false) = sumV x (setL it false) := fullV_early rfl
  rw [h2, sumV_setL]
  rw [sumV_setL] at h1
  omega
theorem onI_nonneg {b : Bool} {v : Int} (h : b = true → 0 ≤ v) : 0 ≤ onI b v := by
  cases b with
  | true => exact h rfl
  | false => exact Int.le_refl _
theorem worthN_le {keeps base : Int} (m : Int) (h1 : 0 ≤ keeps) (h2 : keeps ≤ 100) (h3 : 0 ≤ base) : worthN keeps base m ≤ base := by
  have := Int.mul_le_mul_of_nonneg_left h2 h3
  unfold worthN
  generalize base * keeps = q at *
  split
  · omega
  · split
    · omega
    · split <;> omega
theorem feOk_of {x : CodeD} {s : ByteArray} (hx : codeB x = true) (h : knS x s = true) : feOk x s = true := by
  obtain ⟨k, y, e, _⟩ := knS_at h
  exact feOk_hit hx e
theorem ew_of {x : CodeD} {it : ItemD} (h : gdB x [it] = true) {j : Nat} {s : ByteArray} {m : Int} (hs : it.names[j]? = some s) (hm : it.marks[j]? = some m) :
    ewOk x s m = true ∧ ewOk x s 0 = true ∧ ewOk x s 3 = true ∧ ewV x s m = worthAt x s m ∧ ewV x s m ≤ ewV x s 0 ∧ ewV x s 3 = 0 := by
  obtain ⟨hx, hi, hk⟩ := gdB_true h
  rw [itemsB_one] at hi
  rw [knB_one] at hk
  have hks := knI_name hk hs
  have hf := feOk_of hx hks
  obtain ⟨k, y, e, hy⟩ := knS_at hks
  have hmm : inB m 0 3 = true := by
    have h3 := itemB_true hi
    unfold itemB at hi
    simp only [Bool.and_eq_true] at hi
    exact List.all_eq_true.1 hi.2 m (List.mem_of_getElem? hm)
  have o1 : ewOk x s m = true := by unfold ewOk; rw [hf, hmm]; rfl
  have o2 : ewOk x s 0 = true := by unfold ewOk; rw [hf]; rfl
  have o3 : ewOk x s 3 = true := by unfold ewOk; rw [hf]; rfl
  have hb := elemB_parts (codeB_elem hx hy)
  have hr := codeB_rests hx
  refine ⟨o1, o2, o3, ewV_yes o1, ?_, ?_⟩
  · rw [ewV_yes o1, ewV_yes o2, worthAt_hit m e hy, worthAt_hit 0 e hy]
    have := worthN_le (keeps := x.keeps) (base := y.base) m (by omega) (by omega) (by omega)
    have h0 : worthN x.keeps y.base 0 = y.base := by unfold worthN; rw [if_neg (by omega), if_neg (by omega), if_neg (by omega)]
    omega
  · rw [ewV_yes o3, worthAt_hit 3 e hy]
    unfold worthN
    rw [if_neg (by omega), if_neg (by omega), if_pos rfl]
theorem full_sum {x : CodeD} {it : ItemD} (h : gdB x [it] = true) : (it.late = true → (wsV x it).sum ≤ fullV x it) ∧ (it.late = false → fullV x it = (wsV x it).sum) := by
  obtain ⟨hx, hi, hk⟩ := gdB_true h
  rw [itemsB_one] at hi
  rw [knB_one] at hk
  exact ⟨fun _ => fullV_ge hx hi hk, fun hl => fullV_early hl⟩
end Go.Proofs.Ytlmaiblfgbobnaa

/- append(out, xs...) to rows of the call's own, in the words of the readings. -/
namespace Go.Proofs.Ytlmaiblfgbobnaa
set_option linter.unusedVariables false
set_option linter.unusedSimpArgs false
open Go.RowKit

theorem wp_append_S (w : World) {o : Oper} {a : Act} {K : Act → World → Prop} {Q : Exit → Act → World → Prop} (s x : Operand)
    (ho : o.op = .call { callee := .builtin .append, args := #[s, x], argTypes := #[50, 50] })
    (base : Nat) (v : Value) (zs : List ByteArray) (hs : a.eval s = v) (hown : OwnS w base v zs) (u : Value) (ys : List ByteArray) (hx : a.eval x = u) (hr : Strs w u ys)
    (hl : zs.length + ys.length ≤ 16777216) (hbase : base ≤ w.heap.size)
    (h : ∀ v' w', OwnS w' base v' (zs ++ ys) → w.grownBy w' v.ownBlock → K (a.put o.dst v') w') : o.wp Try.prog a w K Q := by
  obtain ⟨i0, hi, hz0, hz1, hz2⟩ := info_parts info_str
  refine wp_append_seq w s x 50 ho base 9 i0 _ 1 16 Try.underlying50 hi hz0 hz1 hz2 rfl (by omega) v zs.length _ hs hown.1 u ys.length _ hx hr.1 (by simp) ?_ (by unfold maxLen; omega) (by omega) hbase (fun v' w' q1 q2 => h v' w' ?_ q2)
  · intro y hy
    obtain ⟨_, _, rfl⟩ := List.mem_map.1 hy; rfl
  · refine ⟨?_, ?_⟩
    · rw [List.length_append, List.map_append]
      exact q1
    · intro e he
      rcases List.mem_append.1 he with he | he
      · exact hown.2 e he
      · exact hr.2 e he
theorem wpList_append_S (w : World) {ops : Array Oper} {rest : List Oper} {o : Oper} {a : Act} {Q : Exit → Act → World → Prop} (hgd : o.guard = none) (s x : Operand)
    (ho : o.op = .call { callee := .builtin .append, args := #[s, x], argTypes := #[50, 50] })
    (base : Nat) (v : Value) (zs : List ByteArray) (hs : a.eval s = v) (hown : OwnS w base v zs) (u : Value) (ys : List ByteArray) (hx : a.eval x = u) (hr : Strs w u ys)
    (hl : zs.length + ys.length ≤ 16777216) (hbase : base ≤ w.heap.size)
    (h : ∀ v' w', OwnS w' base v' (zs ++ ys) → w.grownBy w' v.ownBlock → wpList Try.prog ops Q rest (a.put o.dst v') w') : wpList Try.prog ops Q (o :: rest) a w :=
  wpList_plain hgd fun _ hK => wp_append_S w s x ho base v zs hs hown u ys hx hr hl hbase fun v' w' h2 h3 => hK _ _ (h v' w' h2 h3)
theorem step_append_S (w : World) {ops : Array Oper} {o : Oper} {a : Act} {K : Act → World → Prop} {Q : Exit → Act → World → Prop} {E : Prop} (hgd : o.guard = none) (s x : Operand)
    (ho : o.op = .call { callee := .builtin .append, args := #[s, x], argTypes := #[50, 50] })
    (base : Nat) (v : Value) (zs : List ByteArray) (hs : a.eval s = v) (hown : OwnS w base v zs) (u : Value) (ys : List ByteArray) (hx : a.eval x = u) (hr : Strs w u ys)
    (hl : zs.length + ys.length ≤ 16777216) (hbase : base ≤ w.heap.size)
    (h : ∀ v' w', OwnS w' base v' (zs ++ ys) → w.grownBy w' v.ownBlock → K (a.put o.dst v') w') :
    if Region.wanted o (yielded ops a.tmps) = true then Oper.wp Try.prog o a w K Q else E := by
  have hw : Region.wanted o (yielded ops a.tmps) = true := by simp [Region.wanted, hgd]
  rw [if_pos hw]
  exact wp_append_S w s x ho base v zs hs hown u ys hx hr hl hbase h
end Go.Proofs.Ytlmaiblfgbobnaa

/- Rows of elements of several cells: what copy, clear and the library's Delete and Insert do to a block that is known whole. -/
namespace Go.Proofs.Ytlmaiblfgbobnaa
set_option linter.unusedVariables false
set_option linter.unusedSimpArgs false
open Go.RowKit

/-- cells written one after the other -/
def sets : Array Value → Nat → List Value → Array Value
  | cs, _, [] => cs
  | cs, o, v :: r => sets (cs.setIfInBounds o v) (o + 1) r
theorem Box.sets {b : Nat} {t : TypeId} : ∀ (vs : List Value) (o : Nat) (w : World) (cs : Array Value), Box w b t cs → Box (w.setCells b o vs) b t (sets cs o vs)
  | [], _, _, _, h => h
  | v :: r, o, w, cs, h => Box.sets r (o + 1) _ _ (h.set o v)
theorem only_sets (b : Nat) : ∀ (vs : List Value) (o : Nat) (w : World), Only [b] w (w.setCells b o vs)
  | [], _, w => Only.refl _ w
  | v :: r, o, w => (Only.setCell (Only.refl [b] w) (p := ⟨b, o, none⟩) (by simp) v).trans (only_sets b r (o + 1) _)
theorem sets_size : ∀ (vs : List Value) (o : Nat) (cs : Array Value), (sets cs o vs).size = cs.size
  | [], _, _ => rfl
  | v :: r, o, cs => by rw [sets, sets_size r]; simp
theorem sets_toList : ∀ (vs : List Value) (o : Nat) (cs : Array Value), o + vs.length ≤ cs.size → (sets cs o vs).toList = cs.toList.take o ++ vs ++ cs.toList.drop (o + vs.length)
  | [], o, cs, h => by simp [sets]
  | v :: r, o, cs, h => by
    have hlt : o < cs.toList.length := by simp at h ⊢; omega
    rw [sets, sets_toList r (o + 1) _ (by simp at h ⊢; omega)]
    simp only [Array.toList_setIfInBounds]
    rw [List.take_set, List.take_succ_eq_append_getElem hlt, List.set_append_right _ _ (by rw [List.length_take]; omega), List.length_take_of_le (by omega), Nat.sub_self]
    rw [List.drop_set_of_lt (by omega)]
    simp only [List.set_cons_zero, List.append_assoc, List.cons_append, List.nil_append, List.length_cons]
    rw [show o + 1 + r.length = o + (r.length + 1) from by omega]
theorem sets_take {cs : Array Value} {o m : Nat} {vs : List Value} (h : o + vs.length ≤ cs.size) (hm : m ≤ o) : (sets cs o vs).toList.take m = cs.toList.take m := by
  have hl : cs.toList.length = cs.size := by simp
  rw [sets_toList _ _ _ h, List.append_assoc, List.take_append_of_le_length (by rw [List.length_take]; omega), List.take_take, Nat.min_eq_left hm]
theorem sets_full {cs : Array Value} {o m : Nat} {vs : List Value} (h : o + vs.length ≤ cs.size) (hm : m = o + vs.length) : (sets cs o vs).toList.take m = cs.toList.take o ++ vs := by
  have hl : cs.toList.length = cs.size := by simp
  rw [sets_toList _ _ _ h, List.take_left' (by rw [List.length_append, List.length_take]; omega)]
theorem sets_drop {cs : Array Value} {o : Nat} {vs : List Value} (h : o + vs.length ≤ cs.size) : (sets cs o vs).toList.drop o = vs ++ cs.toList.drop (o + vs.length) := by
  have hl : cs.toList.length = cs.size := by simp
  rw [sets_toList _ _ _ h, List.append_assoc, List.drop_left' (by rw [List.length_take]; omega)]
theorem only_drew_sets (b : Nat) (vs : List Value) (o : Nat) (w : World) : Only [b] w (w.drew.setCells b o vs) := (Only.drewN (Only.refl [b] w) 1).trans (only_sets b vs o w.drew)
theorem own_box {w : World} {base : Nat} {e : TypeId} {size n cap g : Nat} {xs : List Value} (h : w.ownsRow base e size (.slice (some ⟨g, 0, none⟩) n cap) n xs) :
    ∃ cur, Box w g e cur ∧ n ≤ cap ∧ cap ≤ maxLen ∧ cur.size = cap * size ∧ cur.toList.take (n * size) = xs := by
  rcases h.2 with ⟨h, _⟩ | ⟨g', cap', cur, e1, _, hb, h1, h2, h3, h4⟩
  · cases h
  · injection e1 with e1 e2 e3
    injection e1 with e1
    injection e1 with e1
    subst e1 e3
    exact ⟨cur, hb, h1, h2, h3, h4⟩
theorem own_of_box {w : World} {base : Nat} {e : TypeId} {size n cap g : Nat} {xs : List Value} {cur : Array Value} (hb : Box w g e cur) (hg : base ≤ g) (h1 : n ≤ cap) (h2 : cap ≤ maxLen) (h3 : cur.size = cap * size) (h4 : cur.toList.take (n * size) = xs) :
    w.ownsRow base e size (.slice (some ⟨g, 0, none⟩) n cap) n xs := by
  refine ⟨?_, .inr ⟨g, cap, cur, rfl, hg, hb, h1, h2, h3, h4⟩⟩
  rw [← h4, List.length_take]
  have : cur.toList.length = cap * size := by simpa using h3
  rw [this, Nat.min_eq_left (Nat.mul_le_mul_right _ h1)]
theorem Box.some {w : World} {b : Nat} {t : TypeId} {cs : Array Value} (h : Box w b t cs) {j : Nat} (hj : j < cs.size) : (w.cell? ⟨b, j, none⟩).isSome = true := by
  rw [h.cell j, Array.getElem?_eq_getElem hj]
  rfl
theorem Box.at_ {w : World} {b : Nat} {t : TypeId} {cs : Array Value} (h : Box w b t cs) {j : Nat} {v : Value} (hj : cs.toList[j]? = Option.some v) : w.cell? ⟨b, j, none⟩ = Option.some v := by
  rw [h.cell j, ← Array.getElem?_toList]
  exact hj
theorem add_lit (b o j : Nat) : (⟨b, o, none⟩ : Addr).add j = ⟨b, o + j, none⟩ := by unfold Addr.add; split <;> simp_all

/-- copy(d, s), elements of several cells -/
theorem run_copyN {P : Program} (w : World) (dT sT ty elem : TypeId) (size : Nat) (b o dLen dCap : Nat) (a : Addr) (sLen sCap m : Nat) (cs : List Value)
    (hu : P.underlying dT = some (.slice elem)) (hs : (P.info? elem).map (·.size) = some size) (hm : Nat.min sLen dLen = m) (hn : cs.length = m * size)
    (hsrc : ∀ j v, cs[j]? = some v → w.cell? (a.add j) = some v) (hc : ∀ j, j < cs.length → (w.cell? ⟨b, o + j, none⟩).isSome = true) (hf : ∀ j, j < cs.length → w.frozen? ⟨b, o + j, none⟩ = false) (h1 : ∀ v ∈ cs, v.oneCell' = true) :
    (Builtin.copy_ #[dT, sT] ty #[.slice (some ⟨b, o, none⟩) dLen dCap, .slice (some a) sLen sCap]).run P w = .ok (goInt m) (w.setCells b o cs) := by
  have hl := run_loadCells_list (P := P) w a cs hsrc
  have hst := run_storeCells_cells (P := P) b o cs 0 w (by simpa using hc) (by simpa using hf) h1
  cases hq : P.info? elem with
  | none => simp [hq] at hs
  | some i =>
    have hi : i.size = size := by simpa [hq] using hs
    simp [Builtin.copy_, run_underlying hu, Builtin.lenOf, Builtin.firstCells, sizeOf, typeInfo, hq, hi, hm, ← hn, hl, hst]
theorem wp_copy_run {P : Program} (w : World) {o : Oper} {a : Act} {K : Act → World → Prop} {Q : Exit → Act → World → Prop} (d s : Operand) (t t' : TypeId)
    (ho : o.op = .call { callee := .builtin .copy, args := #[d, s], argTypes := #[t, t'] }) (v u : Value) (hd : a.eval d = v) (hs : a.eval s = u) {v' : Value} {w' : World}
    (hr : (Builtin.copy_ #[t, t'] o.type #[v, u]).run P w = .ok v' w') (h : K (a.put o.dst v') w') : o.wp P a w K Q := by
  unfold Oper.wp execOp
  simp only [ho, resolve, invoke, builtin, Sem.run_bind, Sem.run_pure, Result.andThen_ok, List.map_toArray, List.map_cons, List.map_nil, hd, hs, hr]
  exact h
theorem wpList_copy_run {P : Program} (w : World) {ops : Array Oper} {rest : List Oper} {o : Oper} {a : Act} {Q : Exit → Act → World → Prop} (hgd : o.guard = none) (d s : Operand) (t t' : TypeId)
    (ho : o.op = .call { callee := .builtin .copy, args := #[d, s], argTypes := #[t, t'] }) (v u : Value) (hd : a.eval d = v) (hs : a.eval s = u) {v' : Value} {w' : World}
    (hr : (Builtin.copy_ #[t, t'] o.type #[v, u]).run P w = .ok v' w') (h : wpList P ops Q rest (a.put o.dst v') w') : wpList P ops Q (o :: rest) a w :=
  wpList_plain hgd fun _ hK => wp_copy_run w d s t t' ho v u hd hs hr (hK _ _ h)
theorem step_copy_run {P : Program} {ops : Array Oper} {o : Oper} {a : Act} {w : World} {K : Act → World → Prop} {Q : Exit → Act → World → Prop} {E : Prop}
    (hg : o.guard = none) (d x : Operand) (dT sT : TypeId) (hop : o.op = Op.call { callee := Callee.builtin Builtin.copy, args := #[d, x], argTypes := #[dT, sT] })
    (v u : Value) (hd : a.eval d = v) (hx : a.eval x = u) {v' : Value} {w' : World} (hr : (Builtin.copy_ #[dT, sT] o.type #[v, u]).run P w = .ok v' w') (hK : K (a.put o.dst v') w') :
    if Region.wanted o (yielded ops a.tmps) = true then Oper.wp P o a w K Q else E := by
  have hw : Region.wanted o (yielded ops a.tmps) = true := by simp [Region.wanted, hg]
  rw [if_pos hw]
  exact wp_copy_run w d x dT sT hop v u hd hx hr hK
/-- clear(s), one element of several cells -/
theorem run_clear1 {P : Program} (w : World) (t e ty : TypeId) (z : Value) (ht : P.underlying t = some (.slice e)) (hv : ∀ w, (zeroValue e).run P w = .ok z w) (b o c : Nat) (hz : (Builtin.zeroCells z.cells 1).toList = z.cells.toList) (h1 : ∀ v ∈ z.cells.toList, v.oneCell' = true)
    (hc : ∀ j, j < z.cells.toList.length → (w.cell? ⟨b, o + j, none⟩).isSome = true) (hf : ∀ j, j < z.cells.toList.length → w.frozen? ⟨b, o + j, none⟩ = false) :
    (Builtin.clear_ #[t] ty #[.slice (some ⟨b, o, none⟩) 1 c]).run P w = .ok (.tuple #[]) (w.setCells b o z.cells.toList) := by
  have hst := run_storeCells_cells (P := P) b o z.cells.toList 0 w (by simpa using hc) (by simpa using hf) h1
  simp only [Nat.add_zero] at hst
  simp [Builtin.clear_, run_underlying ht, hv, hz, hst]
end Go.Proofs.Ytlmaiblfgbobnaa

/- Rows of numbers and of strings: the words for 'append(append(append([]T{}, l[:k]...), x), l[k:]...)'. -/
namespace Go.Proofs.Ytlmaiblfgbobnaa
set_option linter.unusedVariables false
set_option linter.unusedSimpArgs false
open Go.RowKit

theorem seq_to {w : World} {A : Option Addr} {n c : Nat} {xs : List Value} (h : Seq w (.slice A n c) n xs) {i : Nat} (hi : i ≤ n) : Seq w (.slice A i c) i (xs.take i) := by
  obtain ⟨A', c', e, h1, h2, h3, h4⟩ := h
  injection e with e1 e2 e3
  subst e1 e3
  refine ⟨A, c, rfl, by omega, h2, h3, fun hp => ?_⟩
  obtain ⟨b, o, e1, hb, hc⟩ := h4 (by omega)
  refine ⟨b, o, e1, hb, fun j u hu => hc j u ?_⟩
  rw [List.getElem?_take] at hu
  split at hu
  · exact hu
  · cases hu
theorem seq_from {w : World} {b o n c : Nat} {xs : List Value} (h : Seq w (.slice (some ⟨b, o, none⟩) n c) n xs) {k : Nat} (hk : k ≤ n) : Seq w (.slice (some ⟨b, o + k, none⟩) (n - k) (c - k)) (n - k) (xs.drop k) := by
  obtain ⟨A', c', e, h1, h2, h3, h4⟩ := h
  injection e with e1 e2 e3
  subst e1 e3
  refine ⟨_, c - k, rfl, by omega, by unfold maxLen at *; omega, (fun h => by cases h), fun hp => ?_⟩
  obtain ⟨b', o', e1, hb, hc⟩ := h4 (by omega)
  injection e1 with e1
  injection e1 with e1 e2
  subst e1 e2
  refine ⟨b, o + k, rfl, hb, fun j u hu => ?_⟩
  rw [List.getElem?_drop] at hu
  rw [Nat.add_assoc]
  exact hc _ u hu
theorem seq_none {w : World} {A : Option Addr} {xs : List Value} {k : Nat} (hk : xs.length ≤ k) : Seq w (.slice A 0 0) 0 (xs.drop k) := by
  rw [List.drop_of_length_le hk]
  exact ⟨A, 0, rfl, Nat.le_refl _, Nat.zero_le _, fun _ => rfl, fun h => absurd h (by simp)⟩
theorem seq_one {w : World} {g : Nat} {t : TypeId} {u : Value} (h : Box w g t #[u]) : Seq w (.slice (some ⟨g, 0, none⟩) 1 1) 1 [u] := by
  refine ⟨_, 1, rfl, Nat.le_refl _, by unfold maxLen; omega, (fun h => by cases h), fun _ => ⟨g, 0, rfl, h.lt, fun j v hv => ?_⟩⟩
  cases j with
  | zero =>
    have e : v = u := by simpa using hv.symm
    subst e
    exact h.cell 0
  | succ j => simp at hv
theorem ints_to {w : World} {A : Option Addr} {n c : Nat} {zs : List Int} (h : Ints w (.slice A n c) zs) (hn : zs.length = n) {i : Nat} (hi : i ≤ n) : Ints w (.slice A i c) (zs.take i) := by
  unfold Ints
  rw [List.length_take, hn, Nat.min_eq_left hi, List.map_take]
  unfold Ints at h
  rw [hn] at h
  exact seq_to h hi
theorem ints_from {w : World} {b o n c : Nat} {zs : List Int} (h : Ints w (.slice (some ⟨b, o, none⟩) n c) zs) (hn : zs.length = n) {k : Nat} (hk : k ≤ n) : Ints w (.slice (some ⟨b, o + k, none⟩) (n - k) (c - k)) (zs.drop k) := by
  unfold Ints
  rw [List.length_drop, hn, List.map_drop]
  unfold Ints at h
  rw [hn] at h
  exact seq_from h hk
theorem ints_none {w : World} {A : Option Addr} {zs : List Int} {k : Nat} (hk : zs.length ≤ k) : Ints w (.slice A 0 0) (zs.drop k) := by
  unfold Ints
  rw [List.length_drop, Nat.sub_eq_zero_of_le hk, List.map_drop]
  exact seq_none (by simpa using hk)
theorem ints_box1 {w : World} {g : Nat} {z : Int} (h : Box w g 3 #[.int .i64 z]) : Ints w (.slice (some ⟨g, 0, none⟩) 1 1) [z] := seq_one h
theorem step_put_I (a0 w : World) {ops : Array Oper} {o : Oper} {a : Act} {K : Act → World → Prop} {Q : Exit → Act → World → Prop} {E : Prop} (hgd : o.guard = none) (s x : Operand)
    (ho : o.op = .call { callee := .builtin .append, args := #[s, x], argTypes := #[24, 24] })
    (v : Value) (zs : List Int) (hs : a.eval s = v) (hown : OwnI w a0.heap.size v zs) (hk : Kept a0 w) (u : Value) (ys : List Int) (hx : a.eval x = u) (hr : Ints w u ys)
    (hl : zs.length + ys.length ≤ 16777216)
    (h : ∀ v' w', OwnI w' a0.heap.size v' (zs ++ ys) → Kept a0 w' → Only (fp v) w w' → K (a.put o.dst v') w') :
    if Region.wanted o (yielded ops a.tmps) = true then Oper.wp Try.prog o a w K Q else E :=
  step_append_I w hgd s x ho a0.heap.size v zs hs hown u ys hx hr hl hk.size fun v' w' h2 h3 =>
    h v' w' h2 ((only_of_grown h3).above hk (fun b hb => (own_fp hown b hb).1)) (only_of_grown h3)
theorem own0_I {w : World} {base g : Nat} (hg : base ≤ g) (h : Box w g 3 #[]) : OwnI w base (.slice (some ⟨g, 0, none⟩) 0 0) [] := own_made _ _ _ hg h
theorem strs_to {w : World} {A : Option Addr} {n c : Nat} {zs : List ByteArray} (h : Strs w (.slice A n c) zs) (hn : zs.length = n) {i : Nat} (hi : i ≤ n) : Strs w (.slice A i c) (zs.take i) := by
  refine ⟨?_, fun z hz => h.2 z (List.mem_of_mem_take hz)⟩
  rw [List.length_take, hn, Nat.min_eq_left hi, List.map_take]
  have h1 := h.1
  rw [hn] at h1
  exact seq_to h1 hi
theorem strs_from {w : World} {b o n c : Nat} {zs : List ByteArray} (h : Strs w (.slice (some ⟨b, o, none⟩) n c) zs) (hn : zs.length = n) {k : Nat} (hk : k ≤ n) : Strs w (.slice (some ⟨b, o + k, none⟩) (n - k) (c - k)) (zs.drop k) := by
  refine ⟨?_, fun z hz => h.2 z (List.mem_of_mem_drop hz)⟩
  rw [List.length_drop, hn, List.map_drop]
  have h1 := h.1
  rw [hn] at h1
  exact seq_from h1 hk
theorem strs_none {w : World} {A : Option Addr} {zs : List ByteArray} {k : Nat} (hk : zs.length ≤ k) : Strs w (.slice A 0 0) (zs.drop k) := by
  refine ⟨?_, fun z hz => by rw [List.drop_of_length_le hk] at hz; cases hz⟩
  rw [List.length_drop, Nat.sub_eq_zero_of_le hk, List.map_drop]
  exact seq_none (by simpa using hk)
theorem strs_box1 {w : World} {g : Nat} {z : ByteArray} (h : Box w g 9 #[.string z]) (hz : z.size ≤ maxLen) : Strs w (.slice (some ⟨g, 0, none⟩) 1 1) [z] := ⟨seq_one h, fun y hy => by rw [List.mem_singleton] at hy; subst hy; exact hz⟩
theorem step_put_S (a0 w : World) {ops : Array Oper} {o : Oper} {a : Act} {K : Act → World → Prop} {Q : Exit → Act → World → Prop} {E : Prop} (hgd : o.guard = none) (s x : Operand)
    (ho : o.op = .call { callee := .builtin .append, args := #[s, x], argTypes := #[50, 50] })
    (v : Value) (zs : List ByteArray) (hs : a.eval s = v) (hown : OwnS w a0.heap.size v zs) (hk : Kept a0 w) (u : Value) (ys : List ByteArray) (hx : a.eval x = u) (hr : Strs w u ys)
    (hl : zs.length + ys.length ≤ 16777216)
    (h : ∀ v' w', OwnS w' a0.heap.size v' (zs ++ ys) → Kept a0 w' → Only (fp v) w w' → K (a.put o.dst v') w') :
    if Region.wanted o (yielded ops a.tmps) = true then Oper.wp Try.prog o a w K Q else E :=
  step_append_S w hgd s x ho a0.heap.size v zs hs hown u ys hx hr hl hk.size fun v' w' h2 h3 =>
    h v' w' h2 ((only_of_grown h3).above hk (fun b hb => (own_fp hown.1 b hb).1)) (only_of_grown h3)
theorem own0_S {w : World} {base g : Nat} (hg : base ≤ g) (h : Box w g 9 #[]) : OwnS w base (.slice (some ⟨g, 0, none⟩) 0 0) [] := ⟨own_made _ _ _ hg h, fun _ h => by cases h⟩
end Go.Proofs.Ytlmaiblfgbobnaa
