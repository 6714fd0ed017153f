/- Contracts of functions that the proof leans on. No condition. -/
import Derived.Test.YtlmaiblfgbobnaaMe6e1acb6ea
import Derived.Laws.IdiomCopy
import Derived.Laws.Externs
import Derived.Lib.Overlaps
import Derived.Lib.AppendZerosOnto
import Derived.Lib.SliceRun
import Derived.Deep.RegionLaw
/- Codes: ScaleCode. -/
namespace Go.Proofs.Ytlmaiblfgbobnaa
set_option linter.unusedVariables false
set_option linter.unusedSimpArgs false
open Go.RowKit

def scaleE (p : Int) (y : ElemD) : ElemD := { y with base := max (y.base * p / 100) 1 }
def scaleC (x : CodeD) (p : Int) : CodeD := { x with elems := x.elems.map (scaleE p) }
def scOk (x : CodeD) (p : Int) : Bool := codeB x && inB p 1 200
def scB (x : CodeD) (p : Int) : Bool := scOk x p && codeB (scaleC x p)
def scV (x : CodeD) (p : Int) : CodeD := if scOk x p then ifC (scaleC x p) else zeroC
theorem scV_no {x : CodeD} {p : Int} (h : scOk x p = false) : scV x p = zeroC := by unfold scV; rw [h]; rfl
theorem scV_yes {x : CodeD} {p : Int} (h : scOk x p = true) : scV x p = ifC (scaleC x p) := if_pos h
theorem scB_no {x : CodeD} {p : Int} (h : scOk x p = false) : scB x p = false := by unfold scB; rw [h]; rfl
theorem scB_yes {x : CodeD} {p : Int} (h : scOk x p = true) : scB x p = codeB (scaleC x p) := by unfold scB; rw [h, Bool.true_and]
theorem sc_code {x : CodeD} {p : Int} (h : scOk x p = true) : codeB x = true := by unfold scOk at h; rw [Bool.and_eq_true] at h; exact h.1
theorem sc_in {x : CodeD} {p : Int} (h : scOk x p = true) : inB p 1 200 = true := by unfold scOk at h; rw [Bool.and_eq_true] at h; exact h.2
theorem ifC_len (x : CodeD) : (ifC x).elems.length ≤ 24 ∧ (ifC x).limits.length ≤ 5 := by
  by_cases h : codeB x = true
  · rw [ifC_yes h]
    have := codeB_heads h
    omega
  · simp only [Bool.not_eq_true] at h
    rw [ifC_no h]
    exact ⟨by simp [zeroC], by simp [zeroC]⟩
theorem scV_len (x : CodeD) (p : Int) : (scV x p).elems.length ≤ 24 ∧ (scV x p).limits.length ≤ 5 := by
  by_cases h : scOk x p = true
  · rw [scV_yes h]; exact ifC_len _
  · simp only [Bool.not_eq_true] at h
    rw [scV_no h]
    exact ⟨by simp [zeroC], by simp [zeroC]⟩
theorem elems_one {w : World} {g : Nat} {t : TypeId} (y : ElemD) (h : Box w g t #[.string y.name, .int .i64 y.family, .int .i64 y.level, .int .i64 y.base]) (hs : y.name.size ≤ maxLen) : Elems w (.slice (some ⟨g, 0, none⟩) 1 1) [y] := by
  refine ⟨⟨_, 1, rfl, Nat.le_refl _, by unfold maxLen; simp, (fun h => by cases h), fun _ => ⟨g, 0, rfl, h.lt, ?_⟩⟩, ?_⟩
  · intro j u hu
    rw [Nat.zero_add, h.cell j]
    simp only [List.flatMap_cons, List.flatMap_nil, List.append_nil, cells4] at hu
    rw [← hu]
    rw [← Array.getElem?_toList]
  · intro e he
    simp at he
    subst he
    exact hs
theorem OwnE.base {w : World} {base base' : Nat} {v : Value} {es : List ElemD} (h : OwnE w base v es) (hb : base' ≤ base) : OwnE w base' v es := ⟨own_base h.1 hb, h.2⟩
theorem mul_bds {a b A B : Int} (h1 : 0 ≤ a) (h2 : a ≤ A) (h3 : 0 ≤ b) (h4 : b ≤ B) : 0 ≤ a * b ∧ a * b ≤ A * B :=
  ⟨Int.mul_nonneg h1 h3, Int.mul_le_mul h2 h4 h3 (by omega)⟩
set_option maxRecDepth 100000 in
set_option maxHeartbeats 4000000 in
theorem scaleCode_any (v : Value) (x : CodeD) (p : Int) (w : World) (h : CodeAt w v x) :
    Calls Try.prog 13 #[v, .int .i64 p] w fun e w' => ∃ v', e = .returned (.tuple #[v', .bool (scB x p)]) ∧ OwnK w' w.heap.size v' (scV x p) ∧ Kept w w' := by
  have h0 := h
  obtain ⟨nv, mv, rfl, q1, q2⟩ := h
  obtain ⟨A, c, rfl, hnc, hcm, hl⟩ := q1.1.out
  obtain ⟨A2, c2, rfl, _, _, _⟩ := q2.out
  unfold maxLen at hcm
  have HL := Lib.hid hl
  have HS := Lib.hid q1.2
  have H0 := Lib.hid h0
  clear h0 q1 q2 hl
  go_enter Try.func13, Try.ntmps13
  go_wp2_with fail
  have B0 := (Box.new w w.heap.size 26 #[.slice A x.elems.length c, .slice A2 x.limits.length c2, .int .i64 x.repeats, .int .i64 x.bonus, .int .i64 x.keeps, .int .i64 x.fall] rfl).alloc (.cells #[.slice none 0 0, .slice none 0 0, .int .i64 0, .int .i64 0, .int .i64 0, .int .i64 0] 26)
  have B1 := Box.new (w.alloc (.cells #[.slice A x.elems.length c, .slice A2 x.limits.length c2, .int .i64 x.repeats, .int .i64 x.bonus, .int .i64 x.keeps, .int .i64 x.fall] 26)) (w.heap.size + 1) 26 #[.slice none 0 0, .slice none 0 0, .int .i64 0, .int .i64 0, .int .i64 0, .int .i64 0] (by simp)
  have K0 : Kept w ((w.alloc (.cells #[.slice A x.elems.length c, .slice A2 x.limits.length c2, .int .i64 x.repeats, .int .i64 x.bonus, .int .i64 x.keeps, .int .i64 x.fall] 26)).alloc (.cells #[.slice none 0 0, .slice none 0 0, .int .i64 0, .int .i64 0, .int .i64 0, .int .i64 0] 26)) := ((Kept.refl w).alloc _).alloc _
  generalize (w.alloc (.cells #[.slice A x.elems.length c, .slice A2 x.limits.length c2, .int .i64 x.repeats, .int .i64 x.bonus, .int .i64 x.keeps, .int .i64 x.fall] 26)).alloc (.cells #[.slice none 0 0, .slice none 0 0, .int .i64 0, .int .i64 0, .int .i64 0, .int .i64 0] 26) = w0 at *
  have hzw : w.heap.size + 1 < w0.heap.size := B1.lt
  refine (isCode_any _ x _ (H0.out.kept K0)).mono ?_
  rintro e w1 ⟨rfl, k1⟩
  replace B0 := B0.kept k1
  replace B1 := B1.kept k1
  have K1 := K0.trans k1
  have hz1 := k1.size
  clear K0 k1
  by_cases hb : scOk x p = true
  case neg =>
    simp only [Bool.not_eq_true] at hb
    have HB := Lib.hid hb
    by_cases hc : codeB x = true
    · rw [hc]
      unfold scOk at hb
      rw [hc, Bool.true_and] at hb
      go_upto_region 2 with (go_at_call 48; refine (within_any _ _ _ _).mono ?_; rintro e w' ⟨rfl, rfl⟩)
      obtain ⟨x1, y1⟩ := B1.six
      go_wp2_with fail
      clear x1 y1
      obtain ⟨w3, hw3, B3, Q3⟩ := set6 B1 (.slice none 0 0) (.slice none 0 0) (.int .i64 0) (.int .i64 0) (.int .i64 0) (.int .i64 0)
      rw [← hw3]
      clear hw3
      obtain ⟨cc, ff⟩ := B3.six
      exact bodyPost_ret (v := .tuple #[.agg #[.slice none 0 0, .slice none 0 0, .int .i64 0, .int .i64 0, .int .i64 0, .int .i64 0], .bool false]) (by simp [results, Try.results13, go_sem, cc, ff]) rfl ⟨_, by rw [scB_no HB.out], by rw [scV_no HB.out]; exact zeroC_own _ _, Q3.above K1 (by simp)⟩
    · simp only [Bool.not_eq_true] at hc
      rw [hc]
      clear hb
      go_upto_region 2 with (fail)
      obtain ⟨x1, y1⟩ := B1.six
      go_wp2_with fail
      clear x1 y1
      obtain ⟨w3, hw3, B3, Q3⟩ := set6 B1 (.slice none 0 0) (.slice none 0 0) (.int .i64 0) (.int .i64 0) (.int .i64 0) (.int .i64 0)
      rw [← hw3]
      clear hw3
      obtain ⟨cc, ff⟩ := B3.six
      exact bodyPost_ret (v := .tuple #[.agg #[.slice none 0 0, .slice none 0 0, .int .i64 0, .int .i64 0, .int .i64 0, .int .i64 0], .bool false]) (by simp [results, Try.results13, go_sem, cc, ff]) rfl ⟨_, by rw [scB_no HB.out], by rw [scV_no HB.out]; exact zeroC_own _ _, Q3.above K1 (by simp)⟩
  have hc : codeB x = true := sc_code hb
  have hd : inB p 1 200 = true := sc_in hb
  have hp := inB_true hd
  have hl24 := (codeB_heads hc).1.2
  have hl5 : x.limits.length ≤ 5 := Nat.le_of_eq (codeB_heads hc).2
  have HB := Lib.hid hb
  clear hb
  rw [hc]
  clear hc
  have hzb : w.heap.size < w1.heap.size := B0.lt
  obtain ⟨x0, y0⟩ := B0.six
  go_wp2_with (go_at_call 48; refine (within_any _ _ _ _).mono ?_; rintro e w' ⟨rfl, rfl⟩)
  clear x0 y0 hd
  go_loopw [6, 22] (fun q i wr => ∃ k : Nat, k ≤ x.elems.length ∧ i = .int .i64 k ∧ OwnE wr w1.heap.size q ((x.elems.take k).map (scaleE p)) ∧ Kept w1 wr) (fun _ i _ => x.elems.length - (intOf i).toNat)
  case atStart => exact ⟨0, Nat.zero_le _, rfl, ⟨own_made _ _ 4 (Nat.le_refl _) (Box.new _ _ _ _ rfl), (fun _ h => by cases h)⟩, (Kept.refl _).alloc _⟩
  case round =>
    obtain ⟨k, hk, rfl, ho, hkept⟩ := hrel
    have HO := Lib.hid ho
    have hsz := hkept.size
    clear ho
    by_cases hlt : k < x.elems.length
    · obtain ⟨b, o, y, rfl, hb', h2, q0, q1, q2, q3⟩ := elems_at (HL.out.kept (K1.trans hkept)) hlt
      have hys := HS.out y (List.mem_of_getElem? h2)
      obtain ⟨_, _, hy1, hy2⟩ := elemB_parts (codeB_elem (sc_code HB.out) h2)
      obtain ⟨m1, m2⟩ := mul_bds (a := y.base) (b := p) (A := 2000) (B := 200) (by omega) hy2 (by omega) hp.2
      replace m2 : y.base * p ≤ 400000 := m2
      have HT := Lib.hid (take_snoc h2)
      have hlt3 : ((x.elems.take k).map (scaleE p)).length ≤ x.elems.length := by rw [List.length_map, List.length_take]; omega
      clear h2
      by_cases hm : y.base * p / 100 < 1
      · have HE : Hid (scaleE p y = { y with base := 1 }) := by unfold scaleE; rw [show max (y.base * p / 100) 1 = 1 from by omega]; rfl
        go_wp2_with (at_builtin; refine wpList_append_E _ rfl _ _ rfl w1.heap.size _ ((x.elems.take k).map (scaleE p)) rfl ((HO.out.kept ((Kept.refl _).alloc _)).kept ((Kept.refl _).alloc _)) _ [{ y with base := 1 }] rfl (elems_one { y with base := 1 } (Box.new _ _ _ _ (by simp)) hys) (by simp; omega) (by simp; omega) ?_; intro v' w' ho' hg)
        have kg := ((hkept.alloc _).alloc _).grew ((HO.out.kept ((Kept.refl _).alloc _)).kept ((Kept.refl _).alloc _)).1 hg (Nat.le_refl _)
        have HO' := Lib.hid ho'
        clear ho' hg
        go_wp2_with fail
        go_roundw
        case rel => exact ⟨k + 1, by omega, by go_num, by rw [HT.out, List.map_append, List.map_cons, List.map_nil, HE.out]; exact HO'.out, kg⟩
        case measure => simp [intOf]; omega
      · have HE : Hid (scaleE p y = { y with base := y.base * p / 100 }) := by unfold scaleE; rw [show max (y.base * p / 100) 1 = y.base * p / 100 from by omega]; rfl
        go_wp2_with (at_builtin; refine wpList_append_E _ rfl _ _ rfl w1.heap.size _ ((x.elems.take k).map (scaleE p)) rfl ((HO.out.kept ((Kept.refl _).alloc _)).kept ((Kept.refl _).alloc _)) _ [{ y with base := y.base * p / 100 }] rfl (elems_one { y with base := y.base * p / 100 } (Box.new _ _ _ _ (by simp)) hys) (by simp; omega) (by simp; omega) ?_; intro v' w' ho' hg)
        have kg := ((hkept.alloc _).alloc _).grew ((HO.out.kept ((Kept.refl _).alloc _)).kept ((Kept.refl _).alloc _)).1 hg (Nat.le_refl _)
        have HO' := Lib.hid ho'
        clear ho' hg
        go_wp2_with fail
        go_roundw
        case rel => exact ⟨k + 1, by omega, by go_num, by rw [HT.out, List.map_append, List.map_cons, List.map_nil, HE.out]; exact HO'.out, kg⟩
        case measure => simp [intOf]; omega
    · obtain rfl : k = x.elems.length := by omega
      have K2 := K1.trans hkept
      replace B0 := B0.kept hkept
      replace B1 := B1.kept hkept
      have ho2 := HO.out
      rw [List.take_length] at ho2
      have HO2 := Lib.hid (ho2.base (base' := w1.heap.size) (Nat.le_refl _))
      clear ho2
      obtain ⟨x0, y0⟩ := B0.six
      go_wp2_with fail
      clear x0 y0
      obtain ⟨X, hX⟩ : ∃ X, ifC (scaleC x p) = X := ⟨_, rfl⟩
      obtain ⟨bb, hbb⟩ : ∃ bb, codeB (scaleC x p) = bb := ⟨_, rfl⟩
      have HX := Lib.hid hX
      have HBB := Lib.hid hbb
      clear hX hbb
      refine (asCode_is X bb _ _ x (x.elems.map (scaleE p)) _ w1.heap.size HX.out HBB.out (H0.out.kept K2) HO2.out hsz (by omega)).mono ?_
      rintro e w4 ⟨v4, rfl, o4, k4⟩
      replace B1 := B1.kept k4
      have K4 := K2.trans k4
      have HNE : Hid (∀ b ∈ fpA v4, b ≠ w.heap.size + 1) := fun b hb e => by have := o4.fps b hb; omega
      replace o4 := o4.base (base' := w.heap.size) (by omega)
      clear HO HO2
      have FR := Lib.hid (o4.fps)
      obtain ⟨na, ma, rfl, pa, qa, nda⟩ := o4
      obtain ⟨Aa, ca, rfl, _⟩ := own_form pa.1
      obtain ⟨Da, da, rfl, _⟩ := own_form qa
      have OR : Hid (OwnK w4 w.heap.size (.agg #[.slice Aa X.elems.length ca, .slice Da X.limits.length da, .int .i64 X.repeats, .int .i64 X.bonus, .int .i64 X.keeps, .int .i64 X.fall]) (X)) := ⟨_, _, rfl, pa, qa, nda⟩
      clear pa qa nda
      obtain ⟨x1, y1⟩ := B1.six
      go_wp2_with fail
      clear x1 y1
      obtain ⟨w9, hw9, B9, Q9⟩ := set6 B1 (.slice Aa X.elems.length ca) (.slice Da X.limits.length da) (.int .i64 X.repeats) (.int .i64 X.bonus) (.int .i64 X.keeps) (.int .i64 X.fall)
      rw [← hw9]
      clear hw9
      obtain ⟨cc, ff⟩ := B9.six
      refine bodyPost_ret (v := .tuple #[.agg #[.slice Aa X.elems.length ca, .slice Da X.limits.length da, .int .i64 X.repeats, .int .i64 X.bonus, .int .i64 X.keeps, .int .i64 X.fall], .bool bb]) (by simp [results, Try.results13, go_sem, cc, ff]) rfl ⟨_, by rw [scB_yes HB.out, HBB.out], ?_, Q9.above K4 (by simp)⟩
      rw [scV_yes HB.out, HX.out]
      exact OR.out.only Q9 (fun b hb hs => HNE.out b hb (by simpa using hs))
theorem flat_set3 : ∀ (l : List ElemD) (k : Nat) (y : ElemD) (b : Int), l[k]? = some y → (l.flatMap cells4).set (k * 4 + 3) (.int .i64 b) = (l.set k { y with base := b }).flatMap cells4
  | [], _, _, _, h => by simp at h
  | x :: l, 0, y, b, h => by
    simp at h
    subst h
    simp [cells4]
  | x :: l, k + 1, y, b, h => by
    simp only [List.getElem?_cons_succ] at h
    rw [List.flatMap_cons, List.set_cons_succ, List.flatMap_cons, List.set_append_right _ _ (by simp [cells4]; omega), ← flat_set3 l k y b h]
    congr 2
    simp [cells4]
    omega
def scTo (es : List ElemD) (p : Int) (k : Nat) : List ElemD := (es.take k).map (scaleE p) ++ es.drop k
theorem scTo_len (es : List ElemD) (p : Int) (k : Nat) : (scTo es p k).length = es.length := by
  unfold scTo
  rw [List.length_append, List.length_map, List.length_take, List.length_drop]
  omega
theorem scTo_get {es : List ElemD} {p : Int} {k : Nat} {y : ElemD} (h : es[k]? = some y) : (scTo es p k)[k]? = some y := by
  have hk := (List.getElem?_eq_some_iff.1 h).1
  unfold scTo
  rw [List.getElem?_append_right (by rw [List.length_map, List.length_take]; omega), List.length_map, List.length_take, List.getElem?_drop, ← h]
  congr 1
  omega
theorem scTo_succ {es : List ElemD} {p : Int} {k : Nat} {y : ElemD} (h : es[k]? = some y) : scTo es p (k + 1) = (scTo es p k).set k (scaleE p y) := by
  have hk := (List.getElem?_eq_some_iff.1 h).1
  unfold scTo
  rw [take_snoc h, List.map_append, List.set_append_right _ _ (by rw [List.length_map, List.length_take]; omega), List.length_map, List.length_take]
  rw [show k - min k es.length = 0 from by omega, List.drop_eq_getElem_cons hk, List.set_cons_zero, List.map_cons, List.map_nil, List.append_assoc]
  rfl
theorem scTo_zero (es : List ElemD) (p : Int) : scTo es p 0 = es := by simp [scTo]
theorem scTo_full (es : List ElemD) (p : Int) : scTo es p es.length = es.map (scaleE p) := by simp [scTo]
set_option maxRecDepth 100000 in
set_option maxHeartbeats 4000000 in
theorem specScaleCode_any (v : Value) (x : CodeD) (p : Int) (w : World) (h : CodeAt w v x) :
    Calls Try.prog 14 #[v, .int .i64 p] w fun e w' => ∃ v', e = .returned (.tuple #[v', .bool (scB x p)]) ∧ OwnK w' w.heap.size v' (scV x p) ∧ Kept w w' := by
  have h0 := h
  obtain ⟨nv, mv, rfl, q1, q2⟩ := h
  obtain ⟨A, c, rfl, hnc, hcm, hl⟩ := q1.1.out
  obtain ⟨A2, c2, rfl, _, _, _⟩ := q2.out
  unfold maxLen at hcm
  have HL := Lib.hid hl
  have HS := Lib.hid q1.2
  have H0 := Lib.hid h0
  clear h0 q1 q2 hl
  go_enter Try.func14, Try.ntmps14
  go_wp2_with fail
  have B0 := (Box.new w w.heap.size 26 #[.slice A x.elems.length c, .slice A2 x.limits.length c2, .int .i64 x.repeats, .int .i64 x.bonus, .int .i64 x.keeps, .int .i64 x.fall] rfl).alloc (.cells #[.slice none 0 0, .slice none 0 0, .int .i64 0, .int .i64 0, .int .i64 0, .int .i64 0] 26)
  have B1 := Box.new (w.alloc (.cells #[.slice A x.elems.length c, .slice A2 x.limits.length c2, .int .i64 x.repeats, .int .i64 x.bonus, .int .i64 x.keeps, .int .i64 x.fall] 26)) (w.heap.size + 1) 26 #[.slice none 0 0, .slice none 0 0, .int .i64 0, .int .i64 0, .int .i64 0, .int .i64 0] (by simp)
  have K0 : Kept w ((w.alloc (.cells #[.slice A x.elems.length c, .slice A2 x.limits.length c2, .int .i64 x.repeats, .int .i64 x.bonus, .int .i64 x.keeps, .int .i64 x.fall] 26)).alloc (.cells #[.slice none 0 0, .slice none 0 0, .int .i64 0, .int .i64 0, .int .i64 0, .int .i64 0] 26)) := ((Kept.refl w).alloc _).alloc _
  generalize (w.alloc (.cells #[.slice A x.elems.length c, .slice A2 x.limits.length c2, .int .i64 x.repeats, .int .i64 x.bonus, .int .i64 x.keeps, .int .i64 x.fall] 26)).alloc (.cells #[.slice none 0 0, .slice none 0 0, .int .i64 0, .int .i64 0, .int .i64 0, .int .i64 0] 26) = w0 at *
  have hzw : w.heap.size + 1 < w0.heap.size := B1.lt
  refine (cdGood_any _ x _ (H0.out.kept K0)).mono ?_
  rintro e w1 ⟨rfl, k1⟩
  replace B0 := B0.kept k1
  replace B1 := B1.kept k1
  have K1 := K0.trans k1
  have hz1 := k1.size
  clear K0 k1
  by_cases hb : scOk x p = true
  case neg =>
    simp only [Bool.not_eq_true] at hb
    have HB := Lib.hid hb
    by_cases hc : codeB x = true
    · rw [hc]
      unfold scOk at hb
      rw [hc, Bool.true_and] at hb
      go_upto_region 2 with (go_at_call 51; refine (l1In_any _ _ _ _).mono ?_; rintro e w' ⟨rfl, rfl⟩)
      obtain ⟨x1, y1⟩ := B1.six
      go_wp2_with fail
      clear x1 y1
      obtain ⟨w3, hw3, B3, Q3⟩ := set6 B1 (.slice none 0 0) (.slice none 0 0) (.int .i64 0) (.int .i64 0) (.int .i64 0) (.int .i64 0)
      rw [← hw3]
      clear hw3
      obtain ⟨cc, ff⟩ := B3.six
      exact bodyPost_ret (v := .tuple #[.agg #[.slice none 0 0, .slice none 0 0, .int .i64 0, .int .i64 0, .int .i64 0, .int .i64 0], .bool false]) (by simp [results, Try.results14, go_sem, cc, ff]) rfl ⟨_, by rw [scB_no HB.out], by rw [scV_no HB.out]; exact zeroC_own _ _, Q3.above K1 (by simp)⟩
    · simp only [Bool.not_eq_true] at hc
      rw [hc]
      clear hb
      go_upto_region 2 with (fail)
      obtain ⟨x1, y1⟩ := B1.six
      go_wp2_with fail
      clear x1 y1
      obtain ⟨w3, hw3, B3, Q3⟩ := set6 B1 (.slice none 0 0) (.slice none 0 0) (.int .i64 0) (.int .i64 0) (.int .i64 0) (.int .i64 0)
      rw [← hw3]
      clear hw3
      obtain ⟨cc, ff⟩ := B3.six
      exact bodyPost_ret (v := .tuple #[.agg #[.slice none 0 0, .slice none 0 0, .int .i64 0, .int .i64 0, .int .i64 0, .int .i64 0], .bool false]) (by simp [results, Try.results14, go_sem, cc, ff]) rfl ⟨_, by rw [scB_no HB.out], by rw [scV_no HB.out]; exact zeroC_own _ _, Q3.above K1 (by simp)⟩
  have hc : codeB x = true := sc_code hb
  have hd : inB p 1 200 = true := sc_in hb
  have hp := inB_true hd
  have hl24 := (codeB_heads hc).1.2
  have hl1 := (codeB_heads hc).1.1
  have hl5 : x.limits.length ≤ 5 := Nat.le_of_eq (codeB_heads hc).2
  have HB := Lib.hid hb
  clear hb
  rw [hc]
  clear hc
  have hzb : w.heap.size < w1.heap.size := B0.lt
  obtain ⟨x0, y0⟩ := B0.six
  go_wp2_with (first | (go_at_call 51; refine (l1In_any _ _ _ _).mono ?_; rintro e w' ⟨rfl, rfl⟩) | fail)
  clear x0 y0 hd
  refine (cdOwn_any _ x _ (H0.out.kept K1) (by omega) (by omega)).mono ?_
  rintro e w2 ⟨v2, rfl, o2, k2⟩
  have F2 := Lib.hid o2.fps
  obtain ⟨n2, m2, rfl, p2, q2, nd2⟩ := o2
  obtain ⟨A3, c3, rfl, _, _, hA3⟩ := own_form p2.1
  obtain ⟨A4, c4, rfl, _⟩ := own_form q2
  obtain ⟨g, rfl⟩ := hA3 (by omega)
  have P2 := Lib.hid p2
  have Q2 := Lib.hid q2
  have ND := Lib.hid nd2
  clear p2 q2 nd2
  replace B0 := B0.kept k2
  replace B1 := B1.kept k2
  have K2 := K1.trans k2
  have hz2 := k2.size
  have hzb2 : w.heap.size < w2.heap.size := B0.lt
  obtain ⟨x0, y0⟩ := B0.six
  go_wp2_with fail
  clear x0 y0
  obtain ⟨w3, hw3⟩ : ∃ w' : World, w' = w2.alloc (.cells #[.slice (some ⟨g, 0, none⟩) x.elems.length c3, .slice A4 x.limits.length c4, .int .i64 x.repeats, .int .i64 x.bonus, .int .i64 x.keeps, .int .i64 x.fall] 26) := ⟨_, rfl⟩
  rw [← hw3]
  have k3 : Kept w2 w3 := hw3 ▸ (Kept.refl w2).alloc _
  have B6 : Box w3 w2.heap.size 26 #[.slice (some ⟨g, 0, none⟩) x.elems.length c3, .slice A4 x.limits.length c4, .int .i64 x.repeats, .int .i64 x.bonus, .int .i64 x.keeps, .int .i64 x.fall] := hw3 ▸ Box.new w2 w2.heap.size 26 _ rfl
  clear hw3
  replace B0 := B0.kept k3
  replace B1 := B1.kept k3
  replace P2 := Lib.hid (P2.out.kept k3)
  replace Q2 := Lib.hid (Q2.out.kept k3)
  have K3 := K2.trans k3
  have hg : w1.heap.size ≤ g ∧ g < w2.heap.size := F2.out g (by rw [fpA_code]; simp [fp_some])
  go_loopw [23] (fun i wr => ∃ k : Nat, k ≤ x.elems.length ∧ i = .int .i64 k ∧ OwnE wr w1.heap.size (.slice (some ⟨g, 0, none⟩) x.elems.length c3) (scTo x.elems p k) ∧ Only [g] w3 wr) (fun i _ => x.elems.length - (intOf i).toNat)
  case atStart => exact ⟨0, Nat.zero_le _, rfl, by rw [scTo_zero]; exact P2.out, Only.refl _ _⟩
  case round =>
    obtain ⟨k, hk, rfl, ho, hon⟩ := hrel
    have hsz := hon.size
    have hsz3 := k3.size
    have HO := Lib.hid ho
    have B0r := B0.only hon (by simp; omega)
    have B1r := B1.only hon (by simp; omega)
    have B6r := B6.only hon (by simp; omega)
    have kw : Kept w1 wr := hon.above (k2.trans k3) (by simp; omega)
    clear ho
    by_cases hlt : k < x.elems.length
    · obtain ⟨b, o, y, eA, hb', h2, q0, q1, q2, q3⟩ := elems_at (HL.out.kept (K1.trans kw)) hlt
      subst eA
      have hys := HS.out y (List.mem_of_getElem? h2)
      obtain ⟨_, _, hy1, hy2⟩ := elemB_parts (codeB_elem (sc_code HB.out) h2)
      obtain ⟨m1, m2⟩ := mul_bds (a := y.base) (b := p) (A := 2000) (B := 200) (by omega) hy2 (by omega) hp.2
      replace m2 : y.base * p ≤ 400000 := m2
      have HT := Lib.hid (scTo_succ (p := p) h2)
      have HG := Lib.hid (scTo_get (p := p) h2)
      have hlt' : (k : Int) < (x.elems.length : Int) := by omega
      clear h2
      have hroww := HO.out.1
      rw [scTo_len] at hroww
      obtain ⟨u0, _, cu, fu⟩ := own_at hroww (j := k * 4 + 3) (by omega)
      have HR := Lib.hid (hroww.stored (k * 4 + 3) (.int .i64 (max 1 (y.base * p / 100)))).1
      clear hroww
      have KE : Kept wr (wr.alloc (.cells #[.string y.name, .int .i64 y.family, .int .i64 y.level, .int .i64 y.base] 43)) := (Kept.refl wr).alloc _
      go_wp2_with fail
      have B6a := B6r.kept KE
      have B8 : Box (wr.alloc (.cells #[.string y.name, .int .i64 y.family, .int .i64 y.level, .int .i64 y.base] 43)) wr.heap.size 43 #[.string y.name, .int .i64 y.family, .int .i64 y.level, .int .i64 y.base] := Box.new wr wr.heap.size _ _ rfl
      have cua := (KE.cell (p := ⟨g, k * 4 + 3, none⟩) (by simp; omega)).trans cu
      have fua : (wr.alloc (.cells #[.string y.name, .int .i64 y.family, .int .i64 y.level, .int .i64 y.base] 43)).frozen? ⟨g, k * 4 + 3, none⟩ = false := (Below.frozen KE (p := ⟨g, k * 4 + 3, none⟩) (by simp; omega)).trans fu
      have hga : g ≠ wr.heap.size := by omega
      have onE : Only [g] w3 (wr.alloc (.cells #[.string y.name, .int .i64 y.family, .int .i64 y.level, .int .i64 y.base] 43)) := hon.trans (KE.only _)
      have HRE := Lib.hid (show (wr.alloc (.cells #[.string y.name, .int .i64 y.family, .int .i64 y.level, .int .i64 y.base] 43)).ownsRow w1.heap.size 43 4 (.slice (some ⟨g, 0, none⟩) x.elems.length c3) x.elems.length ((scTo x.elems p k).flatMap cells4) from by have := (HO.out.kept KE).1; rw [scTo_len] at this; exact this)
      clear HR
      generalize wr.alloc (.cells #[.string y.name, .int .i64 y.family, .int .i64 y.level, .int .i64 y.base] 43) = wa at *
      have d6 : wa.drew.cell? ⟨w2.heap.size, 0, none⟩ = some (.slice (some ⟨g, 0, none⟩) x.elems.length c3) := B6a.cell 0
      have d8 : wa.drew.cell? ⟨wr.heap.size, 3, none⟩ = some (.int .i64 y.base) := B8.cell 3
      have du : wa.drew.cell? ⟨g, k * 4 + 3, none⟩ = some u0 := cua
      have df : wa.drew.frozen? ⟨g, k * 4 + 3, none⟩ = false := fua
      have hs6 : ∀ u, (wa.setCell ⟨g, k * 4 + 3, none⟩ u).drew.cell? ⟨w2.heap.size, 0, none⟩ = some (.slice (some ⟨g, 0, none⟩) x.elems.length c3) := fun u => (World.cell?_setCell_other wa ⟨g, k * 4 + 3, none⟩ ⟨w2.heap.size, 0, none⟩ u (by intro e; injection e; omega)).trans (B6a.cell 0)
      have hs8 : ∀ u, (wa.setCell ⟨g, k * 4 + 3, none⟩ u).drew.cell? ⟨wr.heap.size, 3, none⟩ = some (.int .i64 y.base) := fun u => (World.cell?_setCell_other wa ⟨g, k * 4 + 3, none⟩ ⟨wr.heap.size, 3, none⟩ u (by intro e; injection e; omega)).trans (B8.cell 3)
      have HS6 := Lib.hid hs6
      have HS8 := Lib.hid hs8
      clear hs6 hs8
      go_region_held3 (fun w' => w'.cell? ⟨w2.heap.size, 0, none⟩ = some (.slice (some ⟨g, 0, none⟩) x.elems.length c3) ∧ w'.cell? ⟨wr.heap.size, 3, none⟩ = some (.int .i64 y.base)) (first | (with_reducible exact ⟨d6, d8⟩) | (with_reducible exact ⟨HS6.out _, HS8.out _⟩)) (first | (go_at_call 46; refine (l1Most2_any _ _ _).mono ?_; rintro e w' ⟨rfl, rfl⟩))
      rename_i hheld
      clear hheld
      go_wp2_with fail
      go_roundw
      case rel =>
        refine ⟨k + 1, by omega, by go_num, ⟨?_, ?_⟩, ?_⟩
        · have := (HRE.out.stored (k * 4 + 3) (.int .i64 (max 1 (y.base * p / 100)))).1
          rw [flat_set3 _ _ _ _ HG.out] at this
          rw [scTo_len, HT.out]
          have e2 : scaleE p y = { y with base := max 1 (y.base * p / 100) } := by unfold scaleE; rw [show max (y.base * p / 100) 1 = max 1 (y.base * p / 100) from by omega]
          rw [e2]
          exact this
        · intro e he
          rw [HT.out] at he
          rcases List.mem_or_eq_of_mem_set he with he | he
          · exact HO.out.2 e he
          · rw [he]; exact hys
        · exact (onE.setCell (by simp) _).drewN 1
      case measure => simp [intOf]; omega
    · obtain rfl : k = x.elems.length := by omega
      have HOF : Hid (OwnE wr w1.heap.size (.slice (some ⟨g, 0, none⟩) x.elems.length c3) (x.elems.map (scaleE p))) := by
        have := HO.out
        rw [scTo_full] at this
        exact this
      have Q2r := Q2.out.only hon (fun b hb hs => by
        have h1 := ND.out
        rw [fpA_code] at h1
        have := (List.nodup_append.1 h1).2.2 g (by simp [fp_some]) b hb
        simp at hs
        omega)
      have HKK : Hid (OwnK wr w1.heap.size (.agg #[.slice (some ⟨g, 0, none⟩) x.elems.length c3, .slice A4 x.limits.length c4, .int .i64 x.repeats, .int .i64 x.bonus, .int .i64 x.keeps, .int .i64 x.fall]) (scaleC x p)) := ⟨_, _, rfl, HOF.out, Q2r, ND.out⟩
      have Kr := K1.trans kw
      have hzr := kw.size
      clear HO HOF Q2r hon Q2
      obtain ⟨x0, y0⟩ := B6r.six
      go_wp2_with fail
      clear x0 y0
      obtain ⟨X, hX⟩ : ∃ X, ifC (scaleC x p) = X := ⟨_, rfl⟩
      obtain ⟨bb, hbb⟩ : ∃ bb, codeB (scaleC x p) = bb := ⟨_, rfl⟩
      have HX := Lib.hid hX
      have HBB := Lib.hid hbb
      clear hX hbb
      refine (cdIf_is X bb _ (scaleC x p) _ w1.heap.size HX.out HBB.out HKK.out hzr).mono ?_
      rintro e w4 ⟨v4, rfl, o4, k4⟩
      replace B1 := B1r.kept k4
      have K4 := Kr.trans k4
      have HNE : Hid (∀ b ∈ fpA v4, b ≠ w.heap.size + 1) := fun b hb e => by have := o4.fps b hb; omega
      replace o4 := o4.base (base' := w.heap.size) (by omega)
      have FR := Lib.hid (o4.fps)
      obtain ⟨na, ma, rfl, pa, qa, nda⟩ := o4
      obtain ⟨Aa, ca, rfl, _⟩ := own_form pa.1
      obtain ⟨Da, da, rfl, _⟩ := own_form qa
      have OR : Hid (OwnK w4 w.heap.size (.agg #[.slice Aa X.elems.length ca, .slice Da X.limits.length da, .int .i64 X.repeats, .int .i64 X.bonus, .int .i64 X.keeps, .int .i64 X.fall]) (X)) := ⟨_, _, rfl, pa, qa, nda⟩
      clear pa qa nda
      obtain ⟨x1, y1⟩ := B1.six
      go_wp2_with fail
      clear x1 y1
      obtain ⟨w9, hw9, B9, Q9⟩ := set6 B1 (.slice Aa X.elems.length ca) (.slice Da X.limits.length da) (.int .i64 X.repeats) (.int .i64 X.bonus) (.int .i64 X.keeps) (.int .i64 X.fall)
      rw [← hw9]
      clear hw9
      obtain ⟨cc, ff⟩ := B9.six
      refine bodyPost_ret (v := .tuple #[.agg #[.slice Aa X.elems.length ca, .slice Da X.limits.length da, .int .i64 X.repeats, .int .i64 X.bonus, .int .i64 X.keeps, .int .i64 X.fall], .bool bb]) (by simp [results, Try.results14, go_sem, cc, ff]) rfl ⟨_, by rw [scB_yes HB.out, HBB.out], ?_, Q9.above K4 (by simp)⟩
      rw [scV_yes HB.out, HX.out]
      exact OR.out.only Q9 (fun b hb hs => HNE.out b hb (by simpa using hs))
end Go.Proofs.Ytlmaiblfgbobnaa

/- FnElements, plain: families have all elements once, levels add up, the greatest base, scaled bases, found names. -/
namespace Go.Proofs.Ytlmaiblfgbobnaa
set_option linter.unusedVariables false
set_option linter.unusedSimpArgs false
open Go.RowKit

theorem ofF_lvls (es : List ElemD) (f : Int) : ∀ k, k ≤ es.length → (ofF es f k).length = (lvls (es.take k) f).length
  | 0, _ => rfl
  | k + 1, h => by
    have ih := ofF_lvls es f k (by omega)
    have hy : es[k]? = some es[k] := List.getElem?_eq_getElem (by omega)
    by_cases hf : es[k].family = f
    · rw [ofF_yes (by rw [famIs_at hy]; simp [hf]), lvls_yes hy hf, List.length_append, List.length_append, ih]
      rfl
    · rw [ofF_no (by rw [famIs_at hy]; simp [hf]), lvls_no hy hf, ih]
theorem ofF_all (es : List ElemD) (f : Int) : (ofF es f es.length).length = (lvls es f).length := by
  rw [ofF_lvls es f es.length (Nat.le_refl _), List.take_length]
/-- how many elements have a family below n -/
def famN (es : List ElemD) (n : Int) : Nat := (es.filter fun y => decide (0 ≤ y.family) && decide (y.family < n)).length
theorem famN_zero (es : List ElemD) : famN es 0 = 0 := by
  unfold famN
  rw [List.length_eq_zero_iff, List.filter_eq_nil_iff]
  intro y _ h
  simp at h
  omega
theorem famN_succ (es : List ElemD) (n : Nat) : famN es ((n : Int) + 1) = famN es n + (lvls es n).length := by
  induction es with
  | nil => rfl
  | cons y t ih =>
    unfold famN lvls at *
    simp only [List.filter_cons, List.length_map] at *
    by_cases h1 : y.family = (n : Int)
    · have a1 : (decide (0 ≤ y.family) && decide (y.family < (n : Int) + 1)) = true := by simp; omega
      have a2 : (decide (0 ≤ y.family) && decide (y.family < (n : Int))) = false := by simp; omega
      rw [a1, a2, if_pos rfl, if_neg (by simp), decide_eq_true h1, if_pos rfl]
      simp only [List.length_cons]
      omega
    · have a3 : (decide (0 ≤ y.family) && decide (y.family < (n : Int) + 1)) = (decide (0 ≤ y.family) && decide (y.family < (n : Int))) := by
        by_cases h2 : y.family < (n : Int)
        · rw [decide_eq_true h2, decide_eq_true (by omega : y.family < (n : Int) + 1)]
        · rw [decide_eq_false h2, decide_eq_false (by omega : ¬ y.family < (n : Int) + 1)]
      rw [a3, decide_eq_false h1]
      cases hq : (decide (0 ≤ y.family) && decide (y.family < (n : Int))) with
      | false => exact ih
      | true =>
        show (y :: _).length = (y :: _).length + _
        rw [List.length_cons, List.length_cons, ih]
        show _ = _ + 1 + (List.filter _ t).length
        omega
theorem famN_le (es : List ElemD) (n : Int) : famN es n ≤ es.length := List.length_filter_le _ _
theorem elem_of {x : CodeD} (h : codeB x = true) {k : Nat} {y : ElemD} (hy : x.elems[k]? = some y) : nameB y.name = true ∧ (0 ≤ y.family ∧ y.family ≤ 4) ∧ (0 ≤ y.level ∧ y.level ≤ 4) ∧ 1 ≤ y.base ∧ y.base ≤ 2000 := by
  unfold codeB at h
  rw [Bool.and_eq_true] at h
  have h2 := h.2
  unfold elemsB at h2
  obtain ⟨hk, _⟩ := List.getElem?_eq_some_iff.1 hy
  have h3 := List.all_eq_true.1 h2 k (List.mem_range.2 hk)
  unfold stepB at h3
  rw [hy] at h3
  have h4 : elemB y = true := by
    revert h3
    cases hb : elemB y with
    | true => intro _; rfl
    | false => simp [hb]
  unfold elemB at h4
  simp only [Bool.and_eq_true] at h4
  exact ⟨h4.1.1.1, inB_true h4.1.1.2, inB_true h4.1.2, inB_true h4.2⟩
theorem famN_all {x : CodeD} (h : codeB x = true) : famN x.elems 5 = x.elems.length := by
  unfold famN
  rw [List.filter_eq_self.2 (fun y hy => ?_)]
  obtain ⟨k, hk⟩ := List.getElem?_of_mem hy
  have := (elem_of h hk).2.1
  simp
  omega
theorem asked_at {x : CodeD} {f : Int} (h : askedB x f = true) {n : Nat} (hn : n < 5) : askedB x (n : Int) = true := by
  unfold askedB
  rw [asked_code h, inB_of (by omega) (by omega)]
  rfl
theorem ofV_at {x : CodeD} {f : Int} (h : askedB x f = true) {n : Nat} (hn : n < 5) : (ofV x n).length = (lvls x.elems n).length := by
  rw [ofV_yes (asked_at h hn), ofF_all]
/-- an index of a family -/
theorem ofV_mem {x : CodeD} {f : Int} {j : Nat} {z : Int} (h : askedB x f = true) (hz : (ofV x f)[j]? = some z) : ∃ (i : Nat) (y : ElemD), z = (i : Int) ∧ i < x.elems.length ∧ x.elems[i]? = some y ∧ y.family = f := by
  rw [ofV_yes h] at hz
  have hm := List.mem_of_getElem? hz
  unfold ofF at hm
  obtain ⟨i, hi, rfl⟩ := List.mem_map.1 hm
  obtain ⟨h1, h2⟩ := List.mem_filter.1 hi
  have h3 := List.mem_range.1 h1
  have hy : x.elems[i]? = some x.elems[i] := List.getElem?_eq_getElem h3
  rw [famIs_at hy] at h2
  exact ⟨i, _, rfl, h3, hy, by simpa using h2⟩
def bsAt (es : List ElemD) (z : Int) : Int := match es[z.toNat]? with | some y => y.base | none => 0
/-- the greatest base among indices -/
def mxB (es : List ElemD) (l : List Int) : Int := l.foldl (fun m z => max m (bsAt es z)) 0
theorem mxB_snoc {es : List ElemD} {l : List Int} {j i : Nat} {y : ElemD} (h : l[j]? = some (i : Int)) (hy : es[i]? = some y) : mxB es (l.take (j + 1)) = max (mxB es (l.take j)) y.base := by
  unfold mxB
  rw [take_snoc h, List.foldl_append]
  show max _ (bsAt es (i : Int)) = _
  unfold bsAt
  rw [Int.toNat_natCast, hy]
theorem mxB_ofF (es : List ElemD) (f : Int) : ∀ k, k ≤ es.length → mxB es (ofF es f k) = mostB (es.take k) f
  | 0, _ => rfl
  | k + 1, h => by
    have ih := mxB_ofF es f k (by omega)
    have hy : es[k]? = some es[k] := List.getElem?_eq_getElem (by omega)
    rw [mostB_snoc f hy]
    by_cases hf : es[k].family = f
    · rw [ofF_yes (by rw [famIs_at hy]; simp [hf]), if_pos hf, ← ih]
      unfold mxB
      rw [List.foldl_append]
      show max _ (bsAt es (k : Int)) = _
      unfold bsAt
      rw [Int.toNat_natCast, hy]
    · rw [ofF_no (by rw [famIs_at hy]; simp [hf]), if_neg hf, ih]
theorem mxB_all {x : CodeD} {f : Int} (h : askedB x f = true) : mxB x.elems (ofV x f) = gbV x f := by
  unfold gbV
  rw [if_pos h, ofV_yes h, mxB_ofF _ _ _ (Nat.le_refl _), List.take_length]
theorem mxB_nonneg (es : List ElemD) (l : List Int) : ∀ j, 0 ≤ mxB es (l.take j) ∧ True := by
  intro j
  refine ⟨?_, trivial⟩
  unfold mxB
  have : ∀ (l : List Int) (a : Int), 0 ≤ a → 0 ≤ l.foldl (fun m z => max m (bsAt es z)) a := by
    intro l
    induction l with
    | nil => exact fun a h => h
    | cons z t ih => exact fun a h => ih _ (Int.le_trans h (Int.le_max_left _ _))
  exact this _ 0 (Int.le_refl _)
/-- the numbers of five levels add up -/
theorem cn_cons (z : Int) (t : List Int) (d : Int) : cn (z :: t) d = (if z = d then 1 else 0) + cn t d := by
  unfold cn
  by_cases h : z = d
  · simp [List.filter_cons, h]; omega
  · simp [List.filter_cons, h]
theorem cn_five : ∀ (l : List Int), (∀ z ∈ l, 0 ≤ z ∧ z ≤ 4) → cn l 0 + cn l 1 + cn l 2 + cn l 3 + cn l 4 = l.length
  | [], _ => rfl
  | z :: t, h => by
    have ih := cn_five t (fun y hy => h y (List.mem_cons_of_mem _ hy))
    have hz := h z List.mem_cons_self
    rw [cn_cons, cn_cons, cn_cons, cn_cons, cn_cons, List.length_cons]
    have : z = 0 ∨ z = 1 ∨ z = 2 ∨ z = 3 ∨ z = 4 := by omega
    rcases this with rfl | rfl | rfl | rfl | rfl <;> simp <;> omega
theorem lvV_sum {x : CodeD} {f : Int} (h : askedB x f = true) : (lvV x f).sum = ((ofV x f).length : Int) := by
  rw [lvV_yes h, ofV_yes h, ofF_all]
  have hl : ∀ z ∈ lvls x.elems f, 0 ≤ z ∧ z ≤ 4 := by
    intro z hz
    unfold lvls at hz
    obtain ⟨y, hy, rfl⟩ := List.mem_map.1 hz
    obtain ⟨k, hk⟩ := List.getElem?_of_mem (List.mem_filter.1 hy).1
    exact (elem_of (asked_code h) hk).2.2.1
  have h5 := cn_five _ hl
  have e : cns 5 (lvls x.elems f) = [cn (lvls x.elems f) 0, cn (lvls x.elems f) 1, cn (lvls x.elems f) 2, cn (lvls x.elems f) 3, cn (lvls x.elems f) 4] := rfl
  rw [e]
  simp only [List.sum_cons, List.sum_nil]
  omega
theorem lvV_bd {x : CodeD} {f : Int} (h25 : x.elems.length ≤ 25) : ∀ z ∈ lvV x f, 0 ≤ z ∧ z ≤ 25 := by
  intro z hz
  unfold lvV at hz
  split at hz
  · unfold cns at hz
    obtain ⟨d, _, rfl⟩ := List.mem_map.1 hz
    have h1 := cn_bd (lvls x.elems f) (d : Int)
    have h2 := lvls_len x.elems f x.elems.length
    rw [List.take_length] at h2
    omega
  · cases hz
/-- a scaled element -/
theorem sc_elem {x : CodeD} {p : Int} (h : scB x p = true) {k : Nat} {y : ElemD} (hy : x.elems[k]? = some y) :
    (scV x p).elems[k]? = some (scaleE p y) ∧ (scaleE p y).name = y.name ∧ 1 ≤ (scaleE p y).base ∧ (p ≤ 100 → (scaleE p y).base ≤ y.base) ∧ (100 ≤ p → y.base ≤ (scaleE p y).base) := by
  have hs : scOk x p = true := by
    cases hq : scOk x p with
    | true => rfl
    | false => rw [scB_no hq] at h; cases h
  have hc : codeB (scaleC x p) = true := by rw [scB_yes hs] at h; exact h
  have e : scV x p = scaleC x p := by
    rw [scV_yes hs]
    unfold ifC
    rw [hc]
    rfl
  have hp := inB_true (sc_in hs)
  have hb := (elem_of (sc_code hs) hy).2.2.2
  refine ⟨by rw [e]; show (x.elems.map (scaleE p))[k]? = _; rw [List.getElem?_map, hy]; rfl, rfl, ?_, fun h1 => ?_, fun h1 => ?_⟩
  · show 1 ≤ max (y.base * p / 100) 1
    omega
  · show max (y.base * p / 100) 1 ≤ y.base
    have h2 : y.base * p ≤ y.base * 100 := Int.mul_le_mul_of_nonneg_left h1 (by omega)
    omega
  · show y.base ≤ max (y.base * p / 100) 1
    have h2 : y.base * 100 ≤ y.base * p := Int.mul_le_mul_of_nonneg_left h1 (by omega)
    omega
theorem sc_lens {x : CodeD} {p : Int} (h : scB x p = true) : (scV x p).elems.length = x.elems.length := by
  have hs : scOk x p = true := by
    cases hq : scOk x p with
    | true => rfl
    | false => rw [scB_no hq] at h; cases h
  have hc : codeB (scaleC x p) = true := by rw [scB_yes hs] at h; exact h
  rw [scV_yes hs]
  unfold ifC
  rw [hc]
  show (x.elems.map (scaleE p)).length = _
  rw [List.length_map]
theorem fe_found {x : CodeD} {s : ByteArray} (h : feOk x s = true) : ∃ (k : Nat) (y : ElemD), feV x s = (k : Int) ∧ k < x.elems.length ∧ x.elems[k]? = some y ∧ y.name = s ∧ nameB s = true := by
  rw [feV_yes h]
  unfold feOk at h
  rw [Bool.and_eq_true] at h
  rcases findV_cases x.elems s with e | ⟨k, y, e, hy, hh⟩
  · have h2 := of_decide_eq_true h.2
    omega
  · have hn : y.name = s := by
      unfold hitB at hh
      have h1 := beq_iff_eq.1 hh
      rw [ByteArray.toList_eq, ByteArray.toList_eq] at h1
      exact ByteArray.ext (Array.ext' h1)
    refine ⟨k, y, e, (List.getElem?_eq_some_iff.1 hy).1, hy, hn, ?_⟩
    rw [← hn]
    exact (elem_of h.1 hy).1
end Go.Proofs.Ytlmaiblfgbobnaa

/- Strings in slices; items and lists of items in memory. -/
namespace Go.Proofs.Ytlmaiblfgbobnaa
set_option linter.unusedVariables false
set_option linter.unusedSimpArgs false
open Go.RowKit

def Strs (w : World) (v : Value) (zs : List ByteArray) : Prop := Seq w v zs.length (zs.map Value.string) ∧ ∀ z ∈ zs, z.size ≤ maxLen
def OwnS (w : World) (base : Nat) (v : Value) (zs : List ByteArray) : Prop := w.ownsRow base 9 1 v zs.length (zs.map Value.string) ∧ ∀ z ∈ zs, z.size ≤ maxLen
theorem Strs.kept {w w' : World} {v : Value} {zs : List ByteArray} (h : Strs w v zs) (hk : Kept w w') : Strs w' v zs := ⟨Seq.kept h.1 hk, h.2⟩
theorem OwnS.strs {w : World} {base : Nat} {v : Value} {zs : List ByteArray} (h : OwnS w base v zs) : Strs w v zs := ⟨Seq.of_own h.1, h.2⟩
theorem OwnS.kept {w w' : World} {base : Nat} {v : Value} {zs : List ByteArray} (h : OwnS w base v zs) (hk : Kept w w') : OwnS w' base v zs := ⟨own_kept h.1 hk, h.2⟩
theorem OwnS.only {w w' : World} {base : Nat} {v : Value} {zs : List ByteArray} {S : List Nat} (h : OwnS w base v zs) (ho : Only S w w') (hd : ∀ b ∈ fp v, b ∉ S) : OwnS w' base v zs := ⟨own_only h.1 ho hd, h.2⟩
theorem strs_at {w : World} {A : Option Addr} {zs : List ByteArray} (h : SeqA w A zs.length (zs.map Value.string)) {k : Nat} (hk : k < zs.length) :
    ∃ b o z, A = some ⟨b, o, none⟩ ∧ b < w.heap.size ∧ zs[k]? = some z ∧ w.cell? ⟨b, o + k, none⟩ = some (.string z) := by
  have hz : zs[k]? = some zs[k] := List.getElem?_eq_getElem hk
  obtain ⟨b, o, e, hb, hc⟩ := h.at_ (j := k) (u := .string zs[k]) (by omega) (by rw [List.getElem?_map, hz]; rfl)
  exact ⟨b, o, _, e, hb, hz, hc⟩
theorem info_str : (Try.prog.info? 9).map (fun i => (i.zero, i.size, i.bytes)) = some (some (.string ByteArray.empty), 1, 16) := by kernel_rfl
end Go.Proofs.Ytlmaiblfgbobnaa

/- append(out, xs...) to rows of the call's own, in the words of the readings. -/
namespace Go.Proofs.Ytlmaiblfgbobnaa
set_option linter.unusedVariables false
set_option linter.unusedSimpArgs false
open Go.RowKit

theorem wp_append_S (w : World) {o : Oper} {a : Act} {K : Act → World → Prop} {Q : Exit → Act → World → Prop} (s x : Operand)
    (ho : o.op = .call { callee := .builtin .append, args := #[s, x], argTypes := #[50, 50] })
    (base : Nat) (v : Value) (zs : List ByteArray) (hs : a.eval s = v) (hown : OwnS w base v zs) (u : Value) (ys : List ByteArray) (hx : a.eval x = u) (hr : Strs w u ys)
    (hl : zs.length + ys.length ≤ 16777216) (hbase : base ≤ w.heap.size)
    (h : ∀ v' w', OwnS w' base v' (zs ++ ys) → w.grownBy w' v.ownBlock → K (a.put o.dst v') w') : o.wp Try.prog a w K Q := by
  obtain ⟨i0, hi, hz0, hz1, hz2⟩ := info_parts info_str
  refine wp_append_seq w s x 50 ho base 9 i0 _ 1 16 Try.underlying50 hi hz0 hz1 hz2 rfl (by omega) v zs.length _ hs hown.1 u ys.length _ hx hr.1 (by simp) ?_ (by unfold maxLen; omega) (by omega) hbase (fun v' w' q1 q2 => h v' w' ?_ q2)
  · intro y hy
    obtain ⟨_, _, rfl⟩ := List.mem_map.1 hy; rfl
  · refine ⟨?_, ?_⟩
    · rw [List.length_append, List.map_append]
      exact q1
    · intro e he
      rcases List.mem_append.1 he with he | he
      · exact hown.2 e he
      · exact hr.2 e he
theorem wpList_append_S (w : World) {ops : Array Oper} {rest : List Oper} {o : Oper} {a : Act} {Q : Exit → Act → World → Prop} (hgd : o.guard = none) (s x : Operand)
    (ho : o.op = .call { callee := .builtin .append, args := #[s, x], argTypes := #[50, 50] })
    (base : Nat) (v : Value) (zs : List ByteArray) (hs : a.eval s = v) (hown : OwnS w base v zs) (u : Value) (ys : List ByteArray) (hx : a.eval x = u) (hr : Strs w u ys)
    (hl : zs.length + ys.length ≤ 16777216) (hbase : base ≤ w.heap.size)
    (h : ∀ v' w', OwnS w' base v' (zs ++ ys) → w.grownBy w' v.ownBlock → wpList Try.prog ops Q rest (a.put o.dst v') w') : wpList Try.prog ops Q (o :: rest) a w :=
  wpList_plain hgd fun _ hK => wp_append_S w s x ho base v zs hs hown u ys hx hr hl hbase fun v' w' h2 h3 => hK _ _ (h v' w' h2 h3)
theorem step_append_S (w : World) {ops : Array Oper} {o : Oper} {a : Act} {K : Act → World → Prop} {Q : Exit → Act → World → Prop} {E : Prop} (hgd : o.guard = none) (s x : Operand)
    (ho : o.op = .call { callee := .builtin .append, args := #[s, x], argTypes := #[50, 50] })
    (base : Nat) (v : Value) (zs : List ByteArray) (hs : a.eval s = v) (hown : OwnS w base v zs) (u : Value) (ys : List ByteArray) (hx : a.eval x = u) (hr : Strs w u ys)
    (hl : zs.length + ys.length ≤ 16777216) (hbase : base ≤ w.heap.size)
    (h : ∀ v' w', OwnS w' base v' (zs ++ ys) → w.grownBy w' v.ownBlock → K (a.put o.dst v') w') :
    if Region.wanted o (yielded ops a.tmps) = true then Oper.wp Try.prog o a w K Q else E := by
  have hw : Region.wanted o (yielded ops a.tmps) = true := by simp [Region.wanted, hgd]
  rw [if_pos hw]
  exact wp_append_S w s x ho base v zs hs hown u ys hx hr hl hbase h
end Go.Proofs.Ytlmaiblfgbobnaa

/- Rows of elements of several cells: what copy, clear and the library's Delete and Insert do to a block that is known whole. -/
namespace Go.Proofs.Ytlmaiblfgbobnaa
set_option linter.unusedVariables false
set_option linter.unusedSimpArgs false
open Go.RowKit

/-- cells written one after the other -/
def sets : Array Value → Nat → List Value → Array Value
  | cs, _, [] => cs
  | cs, o, v :: r => sets (cs.setIfInBounds o v) (o + 1) r
theorem Box.sets {b : Nat} {t : TypeId} : ∀ (vs : List Value) (o : Nat) (w : World) (cs : Array Value), Box w b t cs → Box (w.setCells b o vs) b t (sets cs o vs)
  | [], _, _, _, h => h
  | v :: r, o, w, cs, h => Box.sets r (o + 1) _ _ (h.set o v)
theorem only_sets (b : Nat) : ∀ (vs : List Value) (o : Nat) (w : World), Only [b] w (w.setCells b o vs)
  | [], _, w => Only.refl _ w
  | v :: r, o, w => (Only.setCell (Only.refl [b] w) (p := ⟨b, o, none⟩) (by simp) v).trans (only_sets b r (o + 1) _)
theorem sets_size : ∀ (vs : List Value) (o : Nat) (cs : Array Value), (sets cs o vs).size = cs.size
  | [], _, _ => rfl
  | v :: r, o, cs => by rw [sets, sets_size r]; simp
theorem sets_toList : ∀ (vs : List Value) (o : Nat) (cs : Array Value), o + vs.length ≤ cs.size → (sets cs o vs).toList = cs.toList.take o ++ vs ++ cs.toList.drop (o + vs.length)
  | [], o, cs, h => by simp [sets]
  | v :: r, o, cs, h => by
    have hlt : o < cs.toList.length := by simp at h ⊢; omega
    rw [sets, sets_toList r (o + 1) _ (by simp at h ⊢; omega)]
    simp only [Array.toList_setIfInBounds]
    rw [List.take_set, List.take_succ_eq_append_getElem hlt, List.set_append_right _ _ (by rw [List.length_take]; omega), List.length_take_of_le (by omega), Nat.sub_self]
    rw [List.drop_set_of_lt (by omega)]
    simp only [List.set_cons_zero, List.append_assoc, List.cons_append, List.nil_append, List.length_cons]
    rw [show o + 1 + r.length = o + (r.length + 1) from by omega]
theorem sets_take {cs : Array Value} {o m : Nat} {vs : List Value} (h : o + vs.length ≤ cs.size) (hm : m ≤ o) : (sets cs o vs).toList.take m = cs.toList.take m := by
  have hl : cs.toList.length = cs.size := by simp
  rw [sets_toList _ _ _ h, List.append_assoc, List.take_append_of_le_length (by rw [List.length_take]; omega), List.take_take, Nat.min_eq_left hm]
theorem sets_full {cs : Array Value} {o m : Nat} {vs : List Value} (h : o + vs.length ≤ cs.size) (hm : m = o + vs.length) : (sets cs o vs).toList.take m = cs.toList.take o ++ vs := by
  have hl : cs.toList.length = cs.size := by simp
  rw [sets_toList _ _ _ h, List.take_left' (by rw [List.length_append, List.length_take]; omega)]
theorem sets_drop {cs : Array Value} {o : Nat} {vs : List Value} (h : o + vs.length ≤ cs.size) : (sets cs o vs).toList.drop o = vs ++ cs.toList.drop (o + vs.length) := by
  have hl : cs.toList.length = cs.size := by simp
  rw [sets_toList _ _ _ h, List.append_assoc, List.drop_left' (by rw [List.length_take]; omega)]
theorem only_drew_sets (b : Nat) (vs : List Value) (o : Nat) (w : World) : Only [b] w (w.drew.setCells b o vs) := (Only.drewN (Only.refl [b] w) 1).trans (only_sets b vs o w.drew)
theorem own_box {w : World} {base : Nat} {e : TypeId} {size n cap g : Nat} {xs : List Value} (h : w.ownsRow base e size (.slice (some ⟨g, 0, none⟩) n cap) n xs) :
    ∃ cur, Box w g e cur ∧ n ≤ cap ∧ cap ≤ maxLen ∧ cur.size = cap * size ∧ cur.toList.take (n * size) = xs := by
  rcases h.2 with ⟨h, _⟩ | ⟨g', cap', cur, e1, _, hb, h1, h2, h3, h4⟩
  · cases h
  · injection e1 with e1 e2 e3
    injection e1 with e1
    injection e1 with e1
    subst e1 e3
    exact ⟨cur, hb, h1, h2, h3, h4⟩
theorem own_of_box {w : World} {base : Nat} {e : TypeId} {size n cap g : Nat} {xs : List Value} {cur : Array Value} (hb : Box w g e cur) (hg : base ≤ g) (h1 : n ≤ cap) (h2 : cap ≤ maxLen) (h3 : cur.size = cap * size) (h4 : cur.toList.take (n * size) = xs) :
    w.ownsRow base e size (.slice (some ⟨g, 0, none⟩) n cap) n xs := by
  refine ⟨?_, .inr ⟨g, cap, cur, rfl, hg, hb, h1, h2, h3, h4⟩⟩
  rw [← h4, List.length_take]
  have : cur.toList.length = cap * size := by simpa using h3
  rw [this, Nat.min_eq_left (Nat.mul_le_mul_right _ h1)]
theorem Box.some {w : World} {b : Nat} {t : TypeId} {cs : Array Value} (h : Box w b t cs) {j : Nat} (hj : j < cs.size) : (w.cell? ⟨b, j, none⟩).isSome = true := by
  rw [h.cell j, Array.getElem?_eq_getElem hj]
  rfl
theorem Box.at_ {w : World} {b : Nat} {t : TypeId} {cs : Array Value} (h : Box w b t cs) {j : Nat} {v : Value} (hj : cs.toList[j]? = Option.some v) : w.cell? ⟨b, j, none⟩ = Option.some v := by
  rw [h.cell j, ← Array.getElem?_toList]
  exact hj
theorem add_lit (b o j : Nat) : (⟨b, o, none⟩ : Addr).add j = ⟨b, o + j, none⟩ := by unfold Addr.add; split <;> simp_all

/-- copy(d, s), elements of several cells -/
theorem run_copyN {P : Program} (w : World) (dT sT ty elem : TypeId) (size : Nat) (b o dLen dCap : Nat) (a : Addr) (sLen sCap m : Nat) (cs : List Value)
    (hu : P.underlying dT = some (.slice elem)) (hs : (P.info? elem).map (·.size) = some size) (hm : Nat.min sLen dLen = m) (hn : cs.length = m * size)
    (hsrc : ∀ j v, cs[j]? = some v → w.cell? (a.add j) = some v) (hc : ∀ j, j < cs.length → (w.cell? ⟨b, o + j, none⟩).isSome = true) (hf : ∀ j, j < cs.length → w.frozen? ⟨b, o + j, none⟩ = false) (h1 : ∀ v ∈ cs, v.oneCell' = true) :
    (Builtin.copy_ #[dT, sT] ty #[.slice (some ⟨b, o, none⟩) dLen dCap, .slice (some a) sLen sCap]).run P w = .ok (goInt m) (w.setCells b o cs) := by
  have hl := run_loadCells_list (P := P) w a cs hsrc
  have hst := run_storeCells_cells (P := P) b o cs 0 w (by simpa using hc) (by simpa using hf) h1
  cases hq : P.info? elem with
  | none => simp [hq] at hs
  | some i =>
    have hi : i.size = size := by simpa [hq] using hs
    simp [Builtin.copy_, run_underlying hu, Builtin.lenOf, Builtin.firstCells, sizeOf, typeInfo, hq, hi, hm, ← hn, hl, hst]
theorem wp_copy_run {P : Program} (w : World) {o : Oper} {a : Act} {K : Act → World → Prop} {Q : Exit → Act → World → Prop} (d s : Operand) (t t' : TypeId)
    (ho : o.op = .call { callee := .builtin .copy, args := #[d, s], argTypes := #[t, t'] }) (v u : Value) (hd : a.eval d = v) (hs : a.eval s = u) {v' : Value} {w' : World}
    (hr : (Builtin.copy_ #[t, t'] o.type #[v, u]).run P w = .ok v' w') (h : K (a.put o.dst v') w') : o.wp P a w K Q := by
  unfold Oper.wp execOp
  simp only [ho, resolve, invoke, builtin, Sem.run_bind, Sem.run_pure, Result.andThen_ok, List.map_toArray, List.map_cons, List.map_nil, hd, hs, hr]
  exact h
theorem wpList_copy_run {P : Program} (w : World) {ops : Array Oper} {rest : List Oper} {o : Oper} {a : Act} {Q : Exit → Act → World → Prop} (hgd : o.guard = none) (d s : Operand) (t t' : TypeId)
    (ho : o.op = .call { callee := .builtin .copy, args := #[d, s], argTypes := #[t, t'] }) (v u : Value) (hd : a.eval d = v) (hs : a.eval s = u) {v' : Value} {w' : World}
    (hr : (Builtin.copy_ #[t, t'] o.type #[v, u]).run P w = .ok v' w') (h : wpList P ops Q rest (a.put o.dst v') w') : wpList P ops Q (o :: rest) a w :=
  wpList_plain hgd fun _ hK => wp_copy_run w d s t t' ho v u hd hs hr (hK _ _ h)
theorem step_copy_run {P : Program} {ops : Array Oper} {o : Oper} {a : Act} {w : World} {K : Act → World → Prop} {Q : Exit → Act → World → Prop} {E : Prop}
    (hg : o.guard = none) (d x : Operand) (dT sT : TypeId) (hop : o.op = Op.call { callee := Callee.builtin Builtin.copy, args := #[d, x], argTypes := #[dT, sT] })
    (v u : Value) (hd : a.eval d = v) (hx : a.eval x = u) {v' : Value} {w' : World} (hr : (Builtin.copy_ #[dT, sT] o.type #[v, u]).run P w = .ok v' w') (hK : K (a.put o.dst v') w') :
    if Region.wanted o (yielded ops a.tmps) = true then Oper.wp P o a w K Q else E := by
  have hw : Region.wanted o (yielded ops a.tmps) = true := by simp [Region.wanted, hg]
  rw [if_pos hw]
  exact wp_copy_run w d x dT sT hop v u hd hx hr hK
/-- clear(s), one element of several cells -/
theorem run_clear1 {P : Program} (w : World) (t e ty : TypeId) (z : Value) (ht : P.underlying t = some (.slice e)) (hv : ∀ w, (zeroValue e).run P w = .ok z w) (b o c : Nat) (hz : (Builtin.zeroCells z.cells 1).toList = z.cells.toList) (h1 : ∀ v ∈ z.cells.toList, v.oneCell' = true)
    (hc : ∀ j, j < z.cells.toList.length → (w.cell? ⟨b, o + j, none⟩).isSome = true) (hf : ∀ j, j < z.cells.toList.length → w.frozen? ⟨b, o + j, none⟩ = false) :
    (Builtin.clear_ #[t] ty #[.slice (some ⟨b, o, none⟩) 1 c]).run P w = .ok (.tuple #[]) (w.setCells b o z.cells.toList) := by
  have hst := run_storeCells_cells (P := P) b o z.cells.toList 0 w (by simpa using hc) (by simpa using hf) h1
  simp only [Nat.add_zero] at hst
  simp [Builtin.clear_, run_underlying ht, hv, hz, hst]
end Go.Proofs.Ytlmaiblfgbobnaa

/- Rows of numbers and of strings: the words for 'append(append(append([]T{}, l[:k]...), x), l[k:]...)'. -/
namespace Go.Proofs.Ytlmaiblfgbobnaa
set_option linter.unusedVariables false
set_option linter.unusedSimpArgs false
open Go.RowKit

theorem seq_to {w : World} {A : Option Addr} {n c : Nat} {xs : List Value} (h : Seq w (.slice A n c) n xs) {i : Nat} (hi : i ≤ n) : Seq w (.slice A i c) i (xs.take i) := by
  obtain ⟨A', c', e, h1, h2, h3, h4⟩ := h
  injection e with e1 e2 e3
  subst e1 e3
  refine ⟨A, c, rfl, by omega, h2, h3, fun hp => ?_⟩
  obtain ⟨b, o, e1, hb, hc⟩ := h4 (by omega)
  refine ⟨b, o, e1, hb, fun j u hu => hc j u ?_⟩
  rw [List.getElem?_take] at hu
  split at hu
  · exact hu
  · cases hu
theorem seq_from {w : World} {b o n c : Nat} {xs : List Value} (h : Seq w (.slice (some ⟨b, o, none⟩) n c) n xs) {k : Nat} (hk : k ≤ n) : Seq w (.slice (some ⟨b, o + k, none⟩) (n - k) (c - k)) (n - k) (xs.drop k) := by
  obtain ⟨A', c', e, h1, h2, h3, h4⟩ := h
  injection e with e1 e2 e3
  subst e1 e3
  refine ⟨_, c - k, rfl, by omega, by unfold maxLen at *; omega, (fun h => by cases h), fun hp => ?_⟩
  obtain ⟨b', o', e1, hb, hc⟩ := h4 (by omega)
  injection e1 with e1
  injection e1 with e1 e2
  subst e1 e2
  refine ⟨b, o + k, rfl, hb, fun j u hu => ?_⟩
  rw [List.getElem?_drop] at hu
  rw [Nat.add_assoc]
  exact hc _ u hu
theorem seq_none {w : World} {A : Option Addr} {xs : List Value} {k : Nat} (hk : xs.length ≤ k) : Seq w (.slice A 0 0) 0 (xs.drop k) := by
  rw [List.drop_of_length_le hk]
  exact ⟨A, 0, rfl, Nat.le_refl _, Nat.zero_le _, fun _ => rfl, fun h => absurd h (by simp)⟩
theorem seq_one {w : World} {g : Nat} {t : TypeId} {u : Value} (h : Box w g t #[u]) : Seq w (.slice (some ⟨g, 0, none⟩) 1 1) 1 [u] := by
  refine ⟨_, 1, rfl, Nat.le_refl _, by unfold maxLen; omega, (fun h => by cases h), fun _ => ⟨g, 0, rfl, h.lt, fun j v hv => ?_⟩⟩
  cases j with
  | zero =>
    have e : v = u := by simpa using hv.symm
    subst e
    exact h.cell 0
  | succ j => simp at hv
theorem ints_to {w : World} {A : Option Addr} {n c : Nat} {zs : List Int} (h : Ints w (.slice A n c) zs) (hn : zs.length = n) {i : Nat} (hi : i ≤ n) : Ints w (.slice A i c) (zs.take i) := by
  unfold Ints
  rw [List.length_take, hn, Nat.min_eq_left hi, List.map_take]
  unfold Ints at h
  rw [hn] at h
  exact seq_to h hi
theorem ints_from {w : World} {b o n c : Nat} {zs : List Int} (h : Ints w (.slice (some ⟨b, o, none⟩) n c) zs) (hn : zs.length = n) {k : Nat} (hk : k ≤ n) : Ints w (.slice (some ⟨b, o + k, none⟩) (n - k) (c - k)) (zs.drop k) := by
  unfold Ints
  rw [List.length_drop, hn, List.map_drop]
  unfold Ints at h
  rw [hn] at h
  exact seq_from h hk
theorem ints_none {w : World} {A : Option Addr} {zs : List Int} {k : Nat} (hk : zs.length ≤ k) : Ints w (.slice A 0 0) (zs.drop k) := by
  unfold Ints
  rw [List.length_drop, Nat.sub_eq_zero_of_le hk, List.map_drop]
  exact seq_none (by simpa using hk)
theorem ints_box1 {w : World} {g : Nat} {z : Int} (h : Box w g 3 #[.int .i64 z]) : Ints w (.slice (some ⟨g, 0, none⟩) 1 1) [z] := seq_one h
theorem step_put_I (a0 w : World) {ops : Array Oper} {o : Oper} {a : Act} {K : Act → World → Prop} {Q : Exit → Act → World → Prop} {E : Prop} (hgd : o.guard = none) (s x : Operand)
    (ho : o.op = .call { callee := .builtin .append, args := #[s, x], argTypes := #[24, 24] })
    (v : Value) (zs : List Int) (hs : a.eval s = v) (hown : OwnI w a0.heap.size v zs) (hk : Kept a0 w) (u : Value) (ys : List Int) (hx : a.eval x = u) (hr : Ints w u ys)
    (hl : zs.length + ys.length ≤ 16777216)
    (h : ∀ v' w', OwnI w' a0.heap.size v' (zs ++ ys) → Kept a0 w' → Only (fp v) w w' → K (a.put o.dst v') w') :
    if Region.wanted o (yielded ops a.tmps) = true then Oper.wp Try.prog o a w K Q else E :=
  step_append_I w hgd s x ho a0.heap.size v zs hs hown u ys hx hr hl hk.size fun v' w' h2 h3 =>
    h v' w' h2 ((only_of_grown h3).above hk (fun b hb => (own_fp hown b hb).1)) (only_of_grown h3)
theorem own0_I {w : World} {base g : Nat} (hg : base ≤ g) (h : Box w g 3 #[]) : OwnI w base (.slice (some ⟨g, 0, none⟩) 0 0) [] := own_made _ _ _ hg h
theorem strs_to {w : World} {A : Option Addr} {n c : Nat} {zs : List ByteArray} (h : Strs w (.slice A n c) zs) (hn : zs.length = n) {i : Nat} (hi : i ≤ n) : Strs w (.slice A i c) (zs.take i) := by
  refine ⟨?_, fun z hz => h.2 z (List.mem_of_mem_take hz)⟩
  rw [List.length_take, hn, Nat.min_eq_left hi, List.map_take]
  have h1 := h.1
  rw [hn] at h1
  exact seq_to h1 hi
theorem strs_from {w : World} {b o n c : Nat} {zs : List ByteArray} (h : Strs w (.slice (some ⟨b, o, none⟩) n c) zs) (hn : zs.length = n) {k : Nat} (hk : k ≤ n) : Strs w (.slice (some ⟨b, o + k, none⟩) (n - k) (c - k)) (zs.drop k) := by
  refine ⟨?_, fun z hz => h.2 z (List.mem_of_mem_drop hz)⟩
  rw [List.length_drop, hn, List.map_drop]
  have h1 := h.1
  rw [hn] at h1
  exact seq_from h1 hk
theorem strs_none {w : World} {A : Option Addr} {zs : List ByteArray} {k : Nat} (hk : zs.length ≤ k) : Strs w (.slice A 0 0) (zs.drop k) := by
  refine ⟨?_, fun z hz => by rw [List.drop_of_length_le hk] at hz; cases hz⟩
  rw [List.length_drop, Nat.sub_eq_zero_of_le hk, List.map_drop]
  exact seq_none (by simpa using hk)
theorem strs_box1 {w : World} {g : Nat} {z : ByteArray} (h : Box w g 9 #[.string z]) (hz : z.size ≤ maxLen) : Strs w (.slice (some ⟨g, 0, none⟩) 1 1) [z] := ⟨seq_one h, fun y hy => by rw [List.mem_singleton] at hy; subst hy; exact hz⟩
theorem step_put_S (a0 w : World) {ops : Array Oper} {o : Oper} {a : Act} {K : Act → World → Prop} {Q : Exit → Act → World → Prop} {E : Prop} (hgd : o.guard = none) (s x : Operand)
    (ho : o.op = .call { callee := .builtin .append, args := #[s, x], argTypes := #[50, 50] })
    (v : Value) (zs : List ByteArray) (hs : a.eval s = v) (hown : OwnS w a0.heap.size v zs) (hk : Kept a0 w) (u : Value) (ys : List ByteArray) (hx : a.eval x = u) (hr : Strs w u ys)
    (hl : zs.length + ys.length ≤ 16777216)
    (h : ∀ v' w', OwnS w' a0.heap.size v' (zs ++ ys) → Kept a0 w' → Only (fp v) w w' → K (a.put o.dst v') w') :
    if Region.wanted o (yielded ops a.tmps) = true then Oper.wp Try.prog o a w K Q else E :=
  step_append_S w hgd s x ho a0.heap.size v zs hs hown u ys hx hr hl hk.size fun v' w' h2 h3 =>
    h v' w' h2 ((only_of_grown h3).above hk (fun b hb => (own_fp hown.1 b hb).1)) (only_of_grown h3)
theorem own0_S {w : World} {base g : Nat} (hg : base ≤ g) (h : Box w g 9 #[]) : OwnS w base (.slice (some ⟨g, 0, none⟩) 0 0) [] := ⟨own_made _ _ _ hg h, fun _ h => by cases h⟩
end Go.Proofs.Ytlmaiblfgbobnaa
