/- Codes: ScaleCode. -/
import Derived.Test.YteebkplldggoiaaV10
import Derived.Test.YteebkplldggoiaaY
namespace Go.Proofs.Yteebkplldggoiaa
open Go.RowKit

def scaleE (p : Int) (y : ElemD) : ElemD := { y with base := max (y.base * p / 100) 1 }
def scaleC (x : CodeD) (p : Int) : CodeD := { x with elems := x.elems.map (scaleE p) }
def scOk (x : CodeD) (p : Int) : Bool := codeB x && inB p 1 200
def scB (x : CodeD) (p : Int) : Bool := scOk x p && codeB (scaleC x p)
def scV (x : CodeD) (p : Int) : CodeD := if scOk x p then ifC (scaleC x p) else zeroC
theorem scV_no {x : CodeD} {p : Int} (h : scOk x p = false) : scV x p = zeroC := by unfold scV; rw [h]; rfl
theorem scV_yes {x : CodeD} {p : Int} (h : scOk x p = true) : scV x p = ifC (scaleC x p) := if_pos h
theorem scB_no {x : CodeD} {p : Int} (h : scOk x p = false) : scB x p = false := by unfold scB; rw [h]; rfl
theorem scB_yes {x : CodeD} {p : Int} (h : scOk x p = true) : scB x p = codeB (scaleC x p) := by unfold scB; rw [h, Bool.true_and]
theorem sc_code {x : CodeD} {p : Int} (h : scOk x p = true) : codeB x = true := by unfold scOk at h; rw [Bool.and_eq_true] at h; exact h.1
theorem sc_in {x : CodeD} {p : Int} (h : scOk x p = true) : inB p 1 200 = true := by unfold scOk at h; rw [Bool.and_eq_true] at h; exact h.2
theorem ifC_len (x : CodeD) : (ifC x).elems.length ≤ 24 ∧ (ifC x).limits.length ≤ 5 := by
  by_cases h : codeB x = true
  · rw [ifC_yes h]
    have := codeB_heads h
    omega
  · simp only [Bool.not_eq_true] at h
    rw [ifC_no h]
    exact ⟨by simp [zeroC], by simp [zeroC]⟩
theorem scV_len (x : CodeD) (p : Int) : (scV x p).elems.length ≤ 24 ∧ (scV x p).limits.length ≤ 5 := by
  by_cases h : scOk x p = true
  · rw [scV_yes h]; exact ifC_len _
  · simp only [Bool.not_eq_true] at h
    rw [scV_no h]
    exact ⟨by simp [zeroC], by simp [zeroC]⟩
theorem elems_one {w : World} {g : Nat} {t : TypeId} (y : ElemD) (h : Box w g t #[.string y.name, .int .i64 y.family, .int .i64 y.level, .int .i64 y.base]) (hs : y.name.size ≤ maxLen) : Elems w (.slice (some ⟨g, 0, none⟩) 1 1) [y] := by
  refine ⟨⟨_, 1, rfl, Nat.le_refl _, by unfold maxLen; simp, (fun h => by cases h), fun _ => ⟨g, 0, rfl, h.lt, ?_⟩⟩, ?_⟩
  · intro j u hu
    rw [Nat.zero_add, h.cell j]
    simp only [List.flatMap_cons, List.flatMap_nil, List.append_nil, cells4] at hu
    rw [← hu]
    rw [← Array.getElem?_toList]
  · intro e he
    simp at he
    subst he
    exact hs
theorem OwnE.base {w : World} {base base' : Nat} {v : Value} {es : List ElemD} (h : OwnE w base v es) (hb : base' ≤ base) : OwnE w base' v es := ⟨own_base h.1 hb, h.2⟩
theorem mul_bds {a b A B : Int} (h1 : 0 ≤ a) (h2 : a ≤ A) (h3 : 0 ≤ b) (h4 : b ≤ B) : 0 ≤ a * b ∧ a * b ≤ A * B :=
  ⟨Int.mul_nonneg h1 h3, Int.mul_le_mul h2 h4 h3 (by omega)⟩
set_option maxRecDepth 100000 in
set_option maxHeartbeats 4000000 in
theorem scaleCode_any (v : Value) (x : CodeD) (p : Int) (w : World) (h : CodeAt w v x) :
    Calls Try.prog 33 #[v, .int .i64 p] w fun e w' => ∃ v', e = .returned (.tuple #[v', .bool (scB x p)]) ∧ OwnK w' w.heap.size v' (scV x p) ∧ Kept w w' := by
  have h0 := h
  obtain ⟨nv, mv, rfl, q1, q2⟩ := h
  obtain ⟨A, c, rfl, hnc, hcm, hl⟩ := q1.1.out
  obtain ⟨A2, c2, rfl, _, _, _⟩ := q2.out
  unfold maxLen at hcm
  have HL := Lib.hid hl
  have HS := Lib.hid q1.2
  have H0 := Lib.hid h0
  clear h0 q1 q2 hl
  go_enter Try.func33, Try.ntmps33
  go_wp2_with fail
  have B0 := (Box.new w w.heap.size 30 #[.slice A x.elems.length c, .slice A2 x.limits.length c2, .int .i64 x.repeats, .int .i64 x.bonus, .int .i64 x.keeps, .int .i64 x.fall] rfl).alloc (.cells #[.slice none 0 0, .slice none 0 0, .int .i64 0, .int .i64 0, .int .i64 0, .int .i64 0] 30)
  have B1 := Box.new (w.alloc (.cells #[.slice A x.elems.length c, .slice A2 x.limits.length c2, .int .i64 x.repeats, .int .i64 x.bonus, .int .i64 x.keeps, .int .i64 x.fall] 30)) (w.heap.size + 1) 30 #[.slice none 0 0, .slice none 0 0, .int .i64 0, .int .i64 0, .int .i64 0, .int .i64 0] (by simp)
  have K0 : Kept w ((w.alloc (.cells #[.slice A x.elems.length c, .slice A2 x.limits.length c2, .int .i64 x.repeats, .int .i64 x.bonus, .int .i64 x.keeps, .int .i64 x.fall] 30)).alloc (.cells #[.slice none 0 0, .slice none 0 0, .int .i64 0, .int .i64 0, .int .i64 0, .int .i64 0] 30)) := ((Kept.refl w).alloc _).alloc _
  generalize (w.alloc (.cells #[.slice A x.elems.length c, .slice A2 x.limits.length c2, .int .i64 x.repeats, .int .i64 x.bonus, .int .i64 x.keeps, .int .i64 x.fall] 30)).alloc (.cells #[.slice none 0 0, .slice none 0 0, .int .i64 0, .int .i64 0, .int .i64 0, .int .i64 0] 30) = w0 at *
  have hzw : w.heap.size + 1 < w0.heap.size := B1.lt
  refine (isCode_any _ x _ (H0.out.kept K0)).mono ?_
  rintro e w1 ⟨rfl, k1⟩
  replace B0 := B0.kept k1
  replace B1 := B1.kept k1
  have K1 := K0.trans k1
  have hz1 := k1.size
  clear K0 k1
  by_cases hb : scOk x p = true
  case neg =>
    simp only [Bool.not_eq_true] at hb
    have HB := Lib.hid hb
    by_cases hc : codeB x = true
    · rw [hc]
      unfold scOk at hb
      rw [hc, Bool.true_and] at hb
      go_upto_region 2 with (go_at_call 55; refine (within_any _ _ _ _).mono ?_; rintro e w' ⟨rfl, rfl⟩)
      obtain ⟨x1, y1⟩ := B1.six
      go_wp2_with fail
      clear x1 y1
      obtain ⟨w3, hw3, B3, Q3⟩ := set6 B1 (.slice none 0 0) (.slice none 0 0) (.int .i64 0) (.int .i64 0) (.int .i64 0) (.int .i64 0)
      rw [← hw3]
      clear hw3
      obtain ⟨cc, ff⟩ := B3.six
      exact bodyPost_ret (v := .tuple #[.agg #[.slice none 0 0, .slice none 0 0, .int .i64 0, .int .i64 0, .int .i64 0, .int .i64 0], .bool false]) (by simp [results, Try.results33, go_sem, cc, ff]) rfl ⟨_, by rw [scB_no HB.out], by rw [scV_no HB.out]; exact zeroC_own _ _, Q3.above K1 (by simp)⟩
    · simp only [Bool.not_eq_true] at hc
      rw [hc]
      clear hb
      go_upto_region 2 with (fail)
      obtain ⟨x1, y1⟩ := B1.six
      go_wp2_with fail
      clear x1 y1
      obtain ⟨w3, hw3, B3, Q3⟩ := set6 B1 (.slice none 0 0) (.slice none 0 0) (.int .i64 0) (.int .i64 0) (.int .i64 0) (.int .i64 0)
      rw [← hw3]
      clear hw3
      obtain ⟨cc, ff⟩ := B3.six
      exact bodyPost_ret (v := .tuple #[.agg #[.slice none 0 0, .slice none 0 0, .int .i64 0, .int .i64 0, .int .i64 0, .int .i64 0], .bool false]) (by simp [results, Try.results33, go_sem, cc, ff]) rfl ⟨_, by rw [scB_no HB.out], by rw [scV_no HB.out]; exact zeroC_own _ _, Q3.above K1 (by simp)⟩
  have hc : codeB x = true := sc_code hb
  have hd : inB p 1 200 = true := sc_in hb
  have hp := inB_true hd
  have hl24 := (codeB_heads hc).1.2
  have hl5 : x.limits.length ≤ 5 := Nat.le_of_eq (codeB_heads hc).2
  have HB := Lib.hid hb
  clear hb
  rw [hc]
  clear hc
  have hzb : w.heap.size < w1.heap.size := B0.lt
  obtain ⟨x0, y0⟩ := B0.six
  go_wp2_with (go_at_call 55; refine (within_any _ _ _ _).mono ?_; rintro e w' ⟨rfl, rfl⟩)
  clear x0 y0 hd
  go_loopw [6, 22] (fun q i wr => ∃ k : Nat, k ≤ x.elems.length ∧ i = .int .i64 k ∧ OwnE wr w1.heap.size q ((x.elems.take k).map (scaleE p)) ∧ Kept w1 wr) (fun _ i _ => x.elems.length - (intOf i).toNat)
  case atStart => exact ⟨0, Nat.zero_le _, rfl, ⟨own_made _ _ 4 (Nat.le_refl _) (Box.new _ _ _ _ rfl), (fun _ h => by cases h)⟩, (Kept.refl _).alloc _⟩
  case round =>
    obtain ⟨k, hk, rfl, ho, hkept⟩ := hrel
    have HO := Lib.hid ho
    have hsz := hkept.size
    clear ho
    by_cases hlt : k < x.elems.length
    · obtain ⟨b, o, y, rfl, hb', h2, q0, q1, q2, q3⟩ := elems_at (HL.out.kept (K1.trans hkept)) hlt
      have hys := HS.out y (List.mem_of_getElem? h2)
      obtain ⟨_, _, hy1, hy2⟩ := elemB_parts (codeB_elem (sc_code HB.out) h2)
      obtain ⟨m1, m2⟩ := mul_bds (a := y.base) (b := p) (A := 2000) (B := 200) (by omega) hy2 (by omega) hp.2
      replace m2 : y.base * p ≤ 400000 := m2
      have HT := Lib.hid (take_snoc h2)
      have hlt3 : ((x.elems.take k).map (scaleE p)).length ≤ x.elems.length := by rw [List.length_map, List.length_take]; omega
      clear h2
      by_cases hm : y.base * p / 100 < 1
      · have HE : Hid (scaleE p y = { y with base := 1 }) := by unfold scaleE; rw [show max (y.base * p / 100) 1 = 1 from by omega]; rfl
        go_wp2_with (at_builtin; refine wpList_append_E _ rfl _ _ rfl w1.heap.size _ ((x.elems.take k).map (scaleE p)) rfl ((HO.out.kept ((Kept.refl _).alloc _)).kept ((Kept.refl _).alloc _)) _ [{ y with base := 1 }] rfl (elems_one { y with base := 1 } (Box.new _ _ _ _ (by simp)) hys) (by simp; omega) (by simp; omega) ?_; intro v' w' ho' hg)
        have kg := ((hkept.alloc _).alloc _).grew ((HO.out.kept ((Kept.refl _).alloc _)).kept ((Kept.refl _).alloc _)).1 hg (Nat.le_refl _)
        have HO' := Lib.hid ho'
        clear ho' hg
        go_wp2_with fail
        go_roundw
        case rel => exact ⟨k + 1, by omega, by go_num, by rw [HT.out, List.map_append, List.map_cons, List.map_nil, HE.out]; exact HO'.out, kg⟩
        case measure => simp [intOf]; omega
      · have HE : Hid (scaleE p y = { y with base := y.base * p / 100 }) := by unfold scaleE; rw [show max (y.base * p / 100) 1 = y.base * p / 100 from by omega]; rfl
        go_wp2_with (at_builtin; refine wpList_append_E _ rfl _ _ rfl w1.heap.size _ ((x.elems.take k).map (scaleE p)) rfl ((HO.out.kept ((Kept.refl _).alloc _)).kept ((Kept.refl _).alloc _)) _ [{ y with base := y.base * p / 100 }] rfl (elems_one { y with base := y.base * p / 100 } (Box.new _ _ _ _ (by simp)) hys) (by simp; omega) (by simp; omega) ?_; intro v' w' ho' hg)
        have kg := ((hkept.alloc _).alloc _).grew ((HO.out.kept ((Kept.refl _).alloc _)).kept ((Kept.refl _).alloc _)).1 hg (Nat.le_refl _)
        have HO' := Lib.hid ho'
        clear ho' hg
        go_wp2_with fail
        go_roundw
        case rel => exact ⟨k + 1, by omega, by go_num, by rw [HT.out, List.map_append, List.map_cons, List.map_nil, HE.out]; exact HO'.out, kg⟩
        case measure => simp [intOf]; omega
    · obtain rfl : k = x.elems.length := by omega
      have K2 := K1.trans hkept
      replace B0 := B0.kept hkept
      replace B1 := B1.kept hkept
      have ho2 := HO.out
      rw [List.take_length] at ho2
      have HO2 := Lib.hid (ho2.base (base' := w1.heap.size) (Nat.le_refl _))
      clear ho2
      obtain ⟨x0, y0⟩ := B0.six
      go_wp2_with fail
      clear x0 y0
      obtain ⟨X, hX⟩ : ∃ X, ifC (scaleC x p) = X := ⟨_, rfl⟩
      obtain ⟨bb, hbb⟩ : ∃ bb, codeB (scaleC x p) = bb := ⟨_, rfl⟩
      have HX := Lib.hid hX
      have HBB := Lib.hid hbb
      clear hX hbb
      refine (asCode_is X bb _ _ x (x.elems.map (scaleE p)) _ w1.heap.size HX.out HBB.out (H0.out.kept K2) HO2.out hsz (by omega)).mono ?_
      rintro e w4 ⟨v4, rfl, o4, k4⟩
      replace B1 := B1.kept k4
      have K4 := K2.trans k4
      have HNE : Hid (∀ b ∈ fpA v4, b ≠ w.heap.size + 1) := fun b hb e => by have := o4.fps b hb; omega
      replace o4 := o4.base (base' := w.heap.size) (by omega)
      clear HO HO2
      have FR := Lib.hid (o4.fps)
      obtain ⟨na, ma, rfl, pa, qa, nda⟩ := o4
      obtain ⟨Aa, ca, rfl, _⟩ := own_form pa.1
      obtain ⟨Da, da, rfl, _⟩ := own_form qa
      have OR : Hid (OwnK w4 w.heap.size (.agg #[.slice Aa X.elems.length ca, .slice Da X.limits.length da, .int .i64 X.repeats, .int .i64 X.bonus, .int .i64 X.keeps, .int .i64 X.fall]) (X)) := ⟨_, _, rfl, pa, qa, nda⟩
      clear pa qa nda
      obtain ⟨x1, y1⟩ := B1.six
      go_wp2_with fail
      clear x1 y1
      obtain ⟨w9, hw9, B9, Q9⟩ := set6 B1 (.slice Aa X.elems.length ca) (.slice Da X.limits.length da) (.int .i64 X.repeats) (.int .i64 X.bonus) (.int .i64 X.keeps) (.int .i64 X.fall)
      rw [← hw9]
      clear hw9
      obtain ⟨cc, ff⟩ := B9.six
      refine bodyPost_ret (v := .tuple #[.agg #[.slice Aa X.elems.length ca, .slice Da X.limits.length da, .int .i64 X.repeats, .int .i64 X.bonus, .int .i64 X.keeps, .int .i64 X.fall], .bool bb]) (by simp [results, Try.results33, go_sem, cc, ff]) rfl ⟨_, by rw [scB_yes HB.out, HBB.out], ?_, Q9.above K4 (by simp)⟩
      rw [scV_yes HB.out, HX.out]
      exact OR.out.only Q9 (fun b hb hs => HNE.out b hb (by simpa using hs))
theorem flat_set3 : ∀ (l : List ElemD) (k : Nat) (y : ElemD) (b : Int), l[k]? = some y → (l.flatMap cells4).set (k * 4 + 3) (.int .i64 b) = (l.set k { y with base := b }).flatMap cells4
  | [], _, _, _, h => by simp at h
  | x :: l, 0, y, b, h => by
    simp at h
    subst h
    simp [cells4]
  | x :: l, k + 1, y, b, h => by
    simp only [List.getElem?_cons_succ] at h
    rw [List.flatMap_cons, List.set_cons_succ, List.flatMap_cons, List.set_append_right _ _ (by simp [cells4]; omega), ← flat_set3 l k y b h]
    congr 2
    simp [cells4]
    omega
def scTo (es : List ElemD) (p : Int) (k : Nat) : List ElemD := (es.take k).map (scaleE p) ++ es.drop k
theorem scTo_len (es : List ElemD) (p : Int) (k : Nat) : (scTo es p k).length = es.length := by
  unfold scTo
  rw [List.length_append, List.length_map, List.length_take, List.length_drop]
  omega
theorem scTo_get {es : List ElemD} {p : Int} {k : Nat} {y : ElemD} (h : es[k]? = some y) : (scTo es p k)[k]? = some y := by
  have hk := (List.getElem?_eq_some_iff.1 h).1
  unfold scTo
  rw [List.getElem?_append_right (by rw [List.length_map, List.length_take]; omega), List.length_map, List.length_take, List.getElem?_drop, ← h]
  congr 1
  omega
theorem scTo_succ {es : List ElemD} {p : Int} {k : Nat} {y : ElemD} (h : es[k]? = some y) : scTo es p (k + 1) = (scTo es p k).set k (scaleE p y) := by
  have hk := (List.getElem?_eq_some_iff.1 h).1
  unfold scTo
  rw [take_snoc h, List.map_append, List.set_append_right _ _ (by rw [List.length_map, List.length_take]; omega), List.length_map, List.length_take]
  rw [show k - min k es.length = 0 from by omega, List.drop_eq_getElem_cons hk, List.set_cons_zero, List.map_cons, List.map_nil, List.append_assoc]
  rfl
theorem scTo_zero (es : List ElemD) (p : Int) : scTo es p 0 = es := by simp [scTo]
theorem scTo_full (es : List ElemD) (p : Int) : scTo es p es.length = es.map (scaleE p) := by simp [scTo]
set_option maxRecDepth 100000 in
set_option maxHeartbeats 4000000 in
theorem specScaleCode_any (v : Value) (x : CodeD) (p : Int) (w : World) (h : CodeAt w v x) :
    Calls Try.prog 32 #[v, .int .i64 p] w fun e w' => ∃ v', e = .returned (.tuple #[v', .bool (scB x p)]) ∧ OwnK w' w.heap.size v' (scV x p) ∧ Kept w w' := by
  have h0 := h
  obtain ⟨nv, mv, rfl, q1, q2⟩ := h
  obtain ⟨A, c, rfl, hnc, hcm, hl⟩ := q1.1.out
  obtain ⟨A2, c2, rfl, _, _, _⟩ := q2.out
  unfold maxLen at hcm
  have HL := Lib.hid hl
  have HS := Lib.hid q1.2
  have H0 := Lib.hid h0
  clear h0 q1 q2 hl
  go_enter Try.func32, Try.ntmps32
  go_wp2_with fail
  have B0 := (Box.new w w.heap.size 30 #[.slice A x.elems.length c, .slice A2 x.limits.length c2, .int .i64 x.repeats, .int .i64 x.bonus, .int .i64 x.keeps, .int .i64 x.fall] rfl).alloc (.cells #[.slice none 0 0, .slice none 0 0, .int .i64 0, .int .i64 0, .int .i64 0, .int .i64 0] 30)
  have B1 := Box.new (w.alloc (.cells #[.slice A x.elems.length c, .slice A2 x.limits.length c2, .int .i64 x.repeats, .int .i64 x.bonus, .int .i64 x.keeps, .int .i64 x.fall] 30)) (w.heap.size + 1) 30 #[.slice none 0 0, .slice none 0 0, .int .i64 0, .int .i64 0, .int .i64 0, .int .i64 0] (by simp)
  have K0 : Kept w ((w.alloc (.cells #[.slice A x.elems.length c, .slice A2 x.limits.length c2, .int .i64 x.repeats, .int .i64 x.bonus, .int .i64 x.keeps, .int .i64 x.fall] 30)).alloc (.cells #[.slice none 0 0, .slice none 0 0, .int .i64 0, .int .i64 0, .int .i64 0, .int .i64 0] 30)) := ((Kept.refl w).alloc _).alloc _
  generalize (w.alloc (.cells #[.slice A x.elems.length c, .slice A2 x.limits.length c2, .int .i64 x.repeats, .int .i64 x.bonus, .int .i64 x.keeps, .int .i64 x.fall] 30)).alloc (.cells #[.slice none 0 0, .slice none 0 0, .int .i64 0, .int .i64 0, .int .i64 0, .int .i64 0] 30) = w0 at *
  have hzw : w.heap.size + 1 < w0.heap.size := B1.lt
  refine (cdGood_any _ x _ (H0.out.kept K0)).mono ?_
  rintro e w1 ⟨rfl, k1⟩
  replace B0 := B0.kept k1
  replace B1 := B1.kept k1
  have K1 := K0.trans k1
  have hz1 := k1.size
  clear K0 k1
  by_cases hb : scOk x p = true
  case neg =>
    simp only [Bool.not_eq_true] at hb
    have HB := Lib.hid hb
    by_cases hc : codeB x = true
    · rw [hc]
      unfold scOk at hb
      rw [hc, Bool.true_and] at hb
      go_upto_region 2 with (go_at_call 63; refine (l1In_any _ _ _ _).mono ?_; rintro e w' ⟨rfl, rfl⟩)
      obtain ⟨x1, y1⟩ := B1.six
      go_wp2_with fail
      clear x1 y1
      obtain ⟨w3, hw3, B3, Q3⟩ := set6 B1 (.slice none 0 0) (.slice none 0 0) (.int .i64 0) (.int .i64 0) (.int .i64 0) (.int .i64 0)
      rw [← hw3]
      clear hw3
      obtain ⟨cc, ff⟩ := B3.six
      exact bodyPost_ret (v := .tuple #[.agg #[.slice none 0 0, .slice none 0 0, .int .i64 0, .int .i64 0, .int .i64 0, .int .i64 0], .bool false]) (by simp [results, Try.results32, go_sem, cc, ff]) rfl ⟨_, by rw [scB_no HB.out], by rw [scV_no HB.out]; exact zeroC_own _ _, Q3.above K1 (by simp)⟩
    · simp only [Bool.not_eq_true] at hc
      rw [hc]
      clear hb
      go_upto_region 2 with (fail)
      obtain ⟨x1, y1⟩ := B1.six
      go_wp2_with fail
      clear x1 y1
      obtain ⟨w3, hw3, B3, Q3⟩ := set6 B1 (.slice none 0 0) (.slice none 0 0) (.int .i64 0) (.int .i64 0) (.int .i64 0) (.int .i64 0)
      rw [← hw3]
      clear hw3
      obtain ⟨cc, ff⟩ := B3.six
      exact bodyPost_ret (v := .tuple #[.agg #[.slice none 0 0, .slice none 0 0, .int .i64 0, .int .i64 0, .int .i64 0, .int .i64 0], .bool false]) (by simp [results, Try.results32, go_sem, cc, ff]) rfl ⟨_, by rw [scB_no HB.out], by rw [scV_no HB.out]; exact zeroC_own _ _, Q3.above K1 (by simp)⟩
  have hc : codeB x = true := sc_code hb
  have hd : inB p 1 200 = true := sc_in hb
  have hp := inB_true hd
  have hl24 := (codeB_heads hc).1.2
  have hl1 := (codeB_heads hc).1.1
  have hl5 : x.limits.length ≤ 5 := Nat.le_of_eq (codeB_heads hc).2
  have HB := Lib.hid hb
  clear hb
  rw [hc]
  clear hc
  have hzb : w.heap.size < w1.heap.size := B0.lt
  obtain ⟨x0, y0⟩ := B0.six
  go_wp2_with (first | (go_at_call 63; refine (l1In_any _ _ _ _).mono ?_; rintro e w' ⟨rfl, rfl⟩) | fail)
  clear x0 y0 hd
  refine (cdOwn_any _ x _ (H0.out.kept K1) (by omega) (by omega)).mono ?_
  rintro e w2 ⟨v2, rfl, o2, k2⟩
  have F2 := Lib.hid o2.fps
  obtain ⟨n2, m2, rfl, p2, q2, nd2⟩ := o2
  obtain ⟨A3, c3, rfl, _, _, hA3⟩ := own_form p2.1
  obtain ⟨A4, c4, rfl, _⟩ := own_form q2
  obtain ⟨g, rfl⟩ := hA3 (by omega)
  have P2 := Lib.hid p2
  have Q2 := Lib.hid q2
  have ND := Lib.hid nd2
  clear p2 q2 nd2
  replace B0 := B0.kept k2
  replace B1 := B1.kept k2
  have K2 := K1.trans k2
  have hz2 := k2.size
  have hzb2 : w.heap.size < w2.heap.size := B0.lt
  obtain ⟨x0, y0⟩ := B0.six
  go_wp2_with fail
  clear x0 y0
  obtain ⟨w3, hw3⟩ : ∃ w' : World, w' = w2.alloc (.cells #[.slice (some ⟨g, 0, none⟩) x.elems.length c3, .slice A4 x.limits.length c4, .int .i64 x.repeats, .int .i64 x.bonus, .int .i64 x.keeps, .int .i64 x.fall] 30) := ⟨_, rfl⟩
  rw [← hw3]
  have k3 : Kept w2 w3 := hw3 ▸ (Kept.refl w2).alloc _
  have B6 : Box w3 w2.heap.size 30 #[.slice (some ⟨g, 0, none⟩) x.elems.length c3, .slice A4 x.limits.length c4, .int .i64 x.repeats, .int .i64 x.bonus, .int .i64 x.keeps, .int .i64 x.fall] := hw3 ▸ Box.new w2 w2.heap.size 30 _ rfl
  clear hw3
  replace B0 := B0.kept k3
  replace B1 := B1.kept k3
  replace P2 := Lib.hid (P2.out.kept k3)
  replace Q2 := Lib.hid (Q2.out.kept k3)
  have K3 := K2.trans k3
  have hg : w1.heap.size ≤ g ∧ g < w2.heap.size := F2.out g (by rw [fpA_code]; simp [fp_some])
  go_loopw [23] (fun i wr => ∃ k : Nat, k ≤ x.elems.length ∧ i = .int .i64 k ∧ OwnE wr w1.heap.size (.slice (some ⟨g, 0, none⟩) x.elems.length c3) (scTo x.elems p k) ∧ Only [g] w3 wr) (fun i _ => x.elems.length - (intOf i).toNat)
  case atStart => exact ⟨0, Nat.zero_le _, rfl, by rw [scTo_zero]; exact P2.out, Only.refl _ _⟩
  case round =>
    obtain ⟨k, hk, rfl, ho, hon⟩ := hrel
    have hsz := hon.size
    have hsz3 := k3.size
    have HO := Lib.hid ho
    have B0r := B0.only hon (by simp; omega)
    have B1r := B1.only hon (by simp; omega)
    have B6r := B6.only hon (by simp; omega)
    have kw : Kept w1 wr := hon.above (k2.trans k3) (by simp; omega)
    clear ho
    by_cases hlt : k < x.elems.length
    · obtain ⟨b, o, y, eA, hb', h2, q0, q1, q2, q3⟩ := elems_at (HL.out.kept (K1.trans kw)) hlt
      subst eA
      have hys := HS.out y (List.mem_of_getElem? h2)
      obtain ⟨_, _, hy1, hy2⟩ := elemB_parts (codeB_elem (sc_code HB.out) h2)
      obtain ⟨m1, m2⟩ := mul_bds (a := y.base) (b := p) (A := 2000) (B := 200) (by omega) hy2 (by omega) hp.2
      replace m2 : y.base * p ≤ 400000 := m2
      have HT := Lib.hid (scTo_succ (p := p) h2)
      have HG := Lib.hid (scTo_get (p := p) h2)
      have hlt' : (k : Int) < (x.elems.length : Int) := by omega
      clear h2
      have hroww := HO.out.1
      rw [scTo_len] at hroww
      obtain ⟨u0, _, cu, fu⟩ := own_at hroww (j := k * 4 + 3) (by omega)
      have HR := Lib.hid (hroww.stored (k * 4 + 3) (.int .i64 (max 1 (y.base * p / 100)))).1
      clear hroww
      have KE : Kept wr (wr.alloc (.cells #[.string y.name, .int .i64 y.family, .int .i64 y.level, .int .i64 y.base] 53)) := (Kept.refl wr).alloc _
      go_wp2_with fail
      have B6a := B6r.kept KE
      have B8 : Box (wr.alloc (.cells #[.string y.name, .int .i64 y.family, .int .i64 y.level, .int .i64 y.base] 53)) wr.heap.size 53 #[.string y.name, .int .i64 y.family, .int .i64 y.level, .int .i64 y.base] := Box.new wr wr.heap.size _ _ rfl
      have cua := (KE.cell (p := ⟨g, k * 4 + 3, none⟩) (by simp; omega)).trans cu
      have fua : (wr.alloc (.cells #[.string y.name, .int .i64 y.family, .int .i64 y.level, .int .i64 y.base] 53)).frozen? ⟨g, k * 4 + 3, none⟩ = false := (Below.frozen KE (p := ⟨g, k * 4 + 3, none⟩) (by simp; omega)).trans fu
      have hga : g ≠ wr.heap.size := by omega
      have onE : Only [g] w3 (wr.alloc (.cells #[.string y.name, .int .i64 y.family, .int .i64 y.level, .int .i64 y.base] 53)) := hon.trans (KE.only _)
      have HRE := Lib.hid (show (wr.alloc (.cells #[.string y.name, .int .i64 y.family, .int .i64 y.level, .int .i64 y.base] 53)).ownsRow w1.heap.size 53 4 (.slice (some ⟨g, 0, none⟩) x.elems.length c3) x.elems.length ((scTo x.elems p k).flatMap cells4) from by have := (HO.out.kept KE).1; rw [scTo_len] at this; exact this)
      clear HR
      generalize wr.alloc (.cells #[.string y.name, .int .i64 y.family, .int .i64 y.level, .int .i64 y.base] 53) = wa at *
      have d6 : wa.drew.cell? ⟨w2.heap.size, 0, none⟩ = some (.slice (some ⟨g, 0, none⟩) x.elems.length c3) := B6a.cell 0
      have d8 : wa.drew.cell? ⟨wr.heap.size, 3, none⟩ = some (.int .i64 y.base) := B8.cell 3
      have du : wa.drew.cell? ⟨g, k * 4 + 3, none⟩ = some u0 := cua
      have df : wa.drew.frozen? ⟨g, k * 4 + 3, none⟩ = false := fua
      have hs6 : ∀ u, (wa.setCell ⟨g, k * 4 + 3, none⟩ u).drew.cell? ⟨w2.heap.size, 0, none⟩ = some (.slice (some ⟨g, 0, none⟩) x.elems.length c3) := fun u => (World.cell?_setCell_other wa ⟨g, k * 4 + 3, none⟩ ⟨w2.heap.size, 0, none⟩ u (by intro e; injection e; omega)).trans (B6a.cell 0)
      have hs8 : ∀ u, (wa.setCell ⟨g, k * 4 + 3, none⟩ u).drew.cell? ⟨wr.heap.size, 3, none⟩ = some (.int .i64 y.base) := fun u => (World.cell?_setCell_other wa ⟨g, k * 4 + 3, none⟩ ⟨wr.heap.size, 3, none⟩ u (by intro e; injection e; omega)).trans (B8.cell 3)
      have HS6 := Lib.hid hs6
      have HS8 := Lib.hid hs8
      clear hs6 hs8
      go_region_held3 (fun w' => w'.cell? ⟨w2.heap.size, 0, none⟩ = some (.slice (some ⟨g, 0, none⟩) x.elems.length c3) ∧ w'.cell? ⟨wr.heap.size, 3, none⟩ = some (.int .i64 y.base)) (first | (with_reducible exact ⟨d6, d8⟩) | (with_reducible exact ⟨HS6.out _, HS8.out _⟩)) (first | (go_at_call 60; refine (l1Most2_any _ _ _).mono ?_; rintro e w' ⟨rfl, rfl⟩))
      rename_i hheld
      clear hheld
      go_wp2_with fail
      go_roundw
      case rel =>
        refine ⟨k + 1, by omega, by go_num, ⟨?_, ?_⟩, ?_⟩
        · have := (HRE.out.stored (k * 4 + 3) (.int .i64 (max 1 (y.base * p / 100)))).1
          rw [flat_set3 _ _ _ _ HG.out] at this
          rw [scTo_len, HT.out]
          have e2 : scaleE p y = { y with base := max 1 (y.base * p / 100) } := by unfold scaleE; rw [show max (y.base * p / 100) 1 = max 1 (y.base * p / 100) from by omega]
          rw [e2]
          exact this
        · intro e he
          rw [HT.out] at he
          rcases List.mem_or_eq_of_mem_set he with he | he
          · exact HO.out.2 e he
          · rw [he]; exact hys
        · exact (onE.setCell (by simp) _).drewN 1
      case measure => simp [intOf]; omega
    · obtain rfl : k = x.elems.length := by omega
      have HOF : Hid (OwnE wr w1.heap.size (.slice (some ⟨g, 0, none⟩) x.elems.length c3) (x.elems.map (scaleE p))) := by
        have := HO.out
        rw [scTo_full] at this
        exact this
      have Q2r := Q2.out.only hon (fun b hb hs => by
        have h1 := ND.out
        rw [fpA_code] at h1
        have := (List.nodup_append.1 h1).2.2 g (by simp [fp_some]) b hb
        simp at hs
        omega)
      have HKK : Hid (OwnK wr w1.heap.size (.agg #[.slice (some ⟨g, 0, none⟩) x.elems.length c3, .slice A4 x.limits.length c4, .int .i64 x.repeats, .int .i64 x.bonus, .int .i64 x.keeps, .int .i64 x.fall]) (scaleC x p)) := ⟨_, _, rfl, HOF.out, Q2r, ND.out⟩
      have Kr := K1.trans kw
      have hzr := kw.size
      clear HO HOF Q2r hon Q2
      obtain ⟨x0, y0⟩ := B6r.six
      go_wp2_with fail
      clear x0 y0
      obtain ⟨X, hX⟩ : ∃ X, ifC (scaleC x p) = X := ⟨_, rfl⟩
      obtain ⟨bb, hbb⟩ : ∃ bb, codeB (scaleC x p) = bb := ⟨_, rfl⟩
      have HX := Lib.hid hX
      have HBB := Lib.hid hbb
      clear hX hbb
      refine (cdIf_is X bb _ (scaleC x p) _ w1.heap.size HX.out HBB.out HKK.out hzr).mono ?_
      rintro e w4 ⟨v4, rfl, o4, k4⟩
      replace B1 := B1r.kept k4
      have K4 := Kr.trans k4
      have HNE : Hid (∀ b ∈ fpA v4, b ≠ w.heap.size + 1) := fun b hb e => by have := o4.fps b hb; omega
      replace o4 := o4.base (base' := w.heap.size) (by omega)
      have FR := Lib.hid (o4.fps)
      obtain ⟨na, ma, rfl, pa, qa, nda⟩ := o4
      obtain ⟨Aa, ca, rfl, _⟩ := own_form pa.1
      obtain ⟨Da, da, rfl, _⟩ := own_form qa
      have OR : Hid (OwnK w4 w.heap.size (.agg #[.slice Aa X.elems.length ca, .slice Da X.limits.length da, .int .i64 X.repeats, .int .i64 X.bonus, .int .i64 X.keeps, .int .i64 X.fall]) (X)) := ⟨_, _, rfl, pa, qa, nda⟩
      clear pa qa nda
      obtain ⟨x1, y1⟩ := B1.six
      go_wp2_with fail
      clear x1 y1
      obtain ⟨w9, hw9, B9, Q9⟩ := set6 B1 (.slice Aa X.elems.length ca) (.slice Da X.limits.length da) (.int .i64 X.repeats) (.int .i64 X.bonus) (.int .i64 X.keeps) (.int .i64 X.fall)
      rw [← hw9]
      clear hw9
      obtain ⟨cc, ff⟩ := B9.six
      refine bodyPost_ret (v := .tuple #[.agg #[.slice Aa X.elems.length ca, .slice Da X.limits.length da, .int .i64 X.repeats, .int .i64 X.bonus, .int .i64 X.keeps, .int .i64 X.fall], .bool bb]) (by simp [results, Try.results32, go_sem, cc, ff]) rfl ⟨_, by rw [scB_yes HB.out, HBB.out], ?_, Q9.above K4 (by simp)⟩
      rw [scV_yes HB.out, HX.out]
      exact OR.out.only Q9 (fun b hb hs => HNE.out b hb (by simpa using hs))
set_option maxHeartbeats 4000000 in
theorem lawScaleCode_any {w : World} {v0 : Value} (z0 : CodeD) (a1 : Int) (h0 : CodeAt w v0 z0) (_ : (Lit.int .i64 a1).wf = true) :
    Calls Try.prog 9 #[v0, .int .i64 a1] w fun e w' => e = .returned (.bool true) ∧ Kept w w' := by
  have H0 := Lib.hid h0
  obtain ⟨n0, m0, rfl, p0, q0⟩ := h0
  obtain ⟨A0, c0, rfl, _⟩ := p0.1.out
  obtain ⟨D0, d0, rfl, _⟩ := q0.out
  clear p0 q0
  go_enter Try.func9, Try.ntmps9
  have K0 := Kept.refl w
  go_wp2_with fail
  obtain ⟨wb1, hwb1⟩ : ∃ w' : World, w' = w.alloc (.cells #[.slice A0 z0.elems.length c0, .slice D0 z0.limits.length d0, .int .i64 z0.repeats, .int .i64 z0.bonus, .int .i64 z0.keeps, .int .i64 z0.fall] 25) := ⟨_, rfl⟩
  rw [← hwb1]
  have KB0 : Kept w wb1 := hwb1 ▸ (Kept.refl w).alloc _
  have B0 : Box wb1 w.heap.size 25 #[.slice A0 z0.elems.length c0, .slice D0 z0.limits.length d0, .int .i64 z0.repeats, .int .i64 z0.bonus, .int .i64 z0.keeps, .int .i64 z0.fall] := hwb1 ▸ Box.new w w.heap.size 25 #[.slice A0 z0.elems.length c0, .slice D0 z0.limits.length d0, .int .i64 z0.repeats, .int .i64 z0.bonus, .int .i64 z0.keeps, .int .i64 z0.fall] rfl
  have szwb1 : wb1.heap.size = w.heap.size + 1 := by rw [hwb1]; simp
  clear hwb1
  have Kwb1 := K0.trans KB0
  refine (szCode_any _ z0 _ _ (H0.out.kept Kwb1) (by omega) (by omega)).mono ?_
  rintro e w1 ⟨rfl, k1⟩
  replace B0 := B0.kept k1
  have sz1 := k1.size
  have K1 := Kwb1.trans k1
  by_cases hbig0 : ((z0.size : Nat) : Int) ≤ 1048576
  case neg =>
    have e1 : lessOr 1048576 (z0.size) = -1 := by unfold lessOr; exact if_neg (by omega)
    rw [e1]
    go_wp2_with fail
    go_ret
    exact ⟨rfl, K1⟩
  have e1 : lessOr 1048576 (z0.size) = 1048576 - (z0.size : Int) := by unfold lessOr; exact if_pos (by omega)
  rw [e1]
  clear e1
  have hparts0 := code_parts z0
  have hX := scV_len z0 a1
  obtain ⟨x0, y0⟩ := B0.six
  go_wp2_with fail
  clear x0 y0
  refine (toCode_any _ z0 _ (H0.out.kept K1) (by omega) (by omega)).mono ?_
  rintro e w2 ⟨u2, rfl, o2, k2⟩
  replace B0 := B0.kept k2
  have sz2 := k2.size
  have K2 := K1.trans k2
  have R2 := Lib.hid o2.code
  clear o2
  obtain ⟨x0, y0⟩ := B0.six
  go_wp2_with fail
  clear x0 y0
  refine (specScaleCode_any _ z0 _ _ R2.out).mono ?_
  rintro e w3 ⟨u3, rfl, o3, k3⟩
  replace B0 := B0.kept k3
  replace R2 := Lib.hid (R2.out.kept k3)
  have sz3 := k3.size
  have K3 := K2.trans k3
  clear R2
  obtain ⟨n3, m3, rfl, p3, q3, nd3⟩ := o3
  obtain ⟨A3, c3, rfl, _⟩ := own_form p3.1
  obtain ⟨D3, d3, rfl, _⟩ := own_form q3
  have o3 : OwnK w3 _ (.agg #[.slice A3 (scV z0 a1).elems.length c3, .slice D3 (scV z0 a1).limits.length d3, .int .i64 (scV z0 a1).repeats, .int .i64 (scV z0 a1).bonus, .int .i64 (scV z0 a1).keeps, .int .i64 (scV z0 a1).fall]) (scV z0 a1) := ⟨_, _, rfl, p3, q3, nd3⟩
  clear p3 q3 nd3
  have RS := Lib.hid o3.code
  clear o3
  have KS := Kept.refl w3
  obtain ⟨x0, y0⟩ := B0.six
  have l0 := B0.lt
  go_wp2_with fail
  clear x0 y0 l0
  obtain ⟨wb2, hwb2⟩ : ∃ w' : World, w' = w3.alloc (.cells #[.slice A3 (scV z0 a1).elems.length c3, .slice D3 (scV z0 a1).limits.length d3, .int .i64 (scV z0 a1).repeats, .int .i64 (scV z0 a1).bonus, .int .i64 (scV z0 a1).keeps, .int .i64 (scV z0 a1).fall] 30) := ⟨_, rfl⟩
  rw [← hwb2]
  have KB3 : Kept w3 wb2 := hwb2 ▸ (Kept.refl w3).alloc _
  have B3 : Box wb2 w3.heap.size 30 #[.slice A3 (scV z0 a1).elems.length c3, .slice D3 (scV z0 a1).limits.length d3, .int .i64 (scV z0 a1).repeats, .int .i64 (scV z0 a1).bonus, .int .i64 (scV z0 a1).keeps, .int .i64 (scV z0 a1).fall] := hwb2 ▸ Box.new w3 w3.heap.size 30 #[.slice A3 (scV z0 a1).elems.length c3, .slice D3 (scV z0 a1).limits.length d3, .int .i64 (scV z0 a1).repeats, .int .i64 (scV z0 a1).bonus, .int .i64 (scV z0 a1).keeps, .int .i64 (scV z0 a1).fall] rfl
  have szwb2 : wb2.heap.size = w3.heap.size + 1 := by rw [hwb2]; simp
  clear hwb2
  replace B0 := B0.kept KB3
  replace KS := KS.trans KB3
  have Kwb2 := K3.trans KB3
  refine (toCode_any _ z0 _ (H0.out.kept Kwb2) (by omega) (by omega)).mono ?_
  rintro e w4 ⟨u4, rfl, o4, k4⟩
  replace B0 := B0.kept k4
  replace B3 := B3.kept k4
  replace KS := KS.trans k4
  have sz4 := k4.size
  have K4 := Kwb2.trans k4
  obtain ⟨n4, m4, rfl, p4, q4, nd4⟩ := o4
  obtain ⟨A4, c4, rfl, _⟩ := own_form p4.1
  obtain ⟨D4, d4, rfl, _⟩ := own_form q4
  have o4 : OwnK w4 _ (.agg #[.slice A4 z0.elems.length c4, .slice D4 z0.limits.length d4, .int .i64 z0.repeats, .int .i64 z0.bonus, .int .i64 z0.keeps, .int .i64 z0.fall]) z0 := ⟨_, _, rfl, p4, q4, nd4⟩
  clear p4 q4 nd4
  have F4 := Lib.hid o4.fps
  have O4 := Lib.hid o4
  clear o4
  obtain ⟨x0, y0⟩ := B0.six
  have l0 := B0.lt
  obtain ⟨x3, y3⟩ := B3.six
  have l3 := B3.lt
  go_wp2_with fail
  clear x0 y0 l0 x3 y3 l3
  obtain ⟨wb3, hwb3⟩ : ∃ w' : World, w' = w4.alloc (.cells #[.slice A4 z0.elems.length c4, .slice D4 z0.limits.length d4, .int .i64 z0.repeats, .int .i64 z0.bonus, .int .i64 z0.keeps, .int .i64 z0.fall] 30) := ⟨_, rfl⟩
  rw [← hwb3]
  have KB4 : Kept w4 wb3 := hwb3 ▸ (Kept.refl w4).alloc _
  have B4 : Box wb3 w4.heap.size 30 #[.slice A4 z0.elems.length c4, .slice D4 z0.limits.length d4, .int .i64 z0.repeats, .int .i64 z0.bonus, .int .i64 z0.keeps, .int .i64 z0.fall] := hwb3 ▸ Box.new w4 w4.heap.size 30 #[.slice A4 z0.elems.length c4, .slice D4 z0.limits.length d4, .int .i64 z0.repeats, .int .i64 z0.bonus, .int .i64 z0.keeps, .int .i64 z0.fall] rfl
  have szwb3 : wb3.heap.size = w4.heap.size + 1 := by rw [hwb3]; simp
  clear hwb3
  replace B0 := B0.kept KB4
  replace B3 := B3.kept KB4
  replace O4 := Lib.hid (O4.out.kept KB4)
  replace KS := KS.trans KB4
  have Kwb3 := K4.trans KB4
  refine (scaleCode_any _ z0 _ _ O4.out.code).mono ?_
  rintro e w5 ⟨u5, rfl, o5, k5⟩
  replace B0 := B0.kept k5
  replace B3 := B3.kept k5
  replace B4 := B4.kept k5
  replace O4 := Lib.hid (O4.out.kept k5)
  replace KS := KS.trans k5
  have sz5 := k5.size
  have K5 := Kwb3.trans k5
  obtain ⟨n5, m5, rfl, p5, q5, nd5⟩ := o5
  obtain ⟨A5, c5, rfl, _⟩ := own_form p5.1
  obtain ⟨D5, d5, rfl, _⟩ := own_form q5
  have o5 : OwnK w5 _ (.agg #[.slice A5 (scV z0 a1).elems.length c5, .slice D5 (scV z0 a1).limits.length d5, .int .i64 (scV z0 a1).repeats, .int .i64 (scV z0 a1).bonus, .int .i64 (scV z0 a1).keeps, .int .i64 (scV z0 a1).fall]) (scV z0 a1) := ⟨_, _, rfl, p5, q5, nd5⟩
  clear p5 q5 nd5
  have F5 := Lib.hid o5.fps
  have O5 := Lib.hid o5
  clear o5
  obtain ⟨x0, y0⟩ := B0.six
  have l0 := B0.lt
  obtain ⟨x3, y3⟩ := B3.six
  have l3 := B3.lt
  obtain ⟨x4, y4⟩ := B4.six
  have l4 := B4.lt
  go_wp2_with fail
  clear x0 y0 l0 x3 y3 l3 x4 y4 l4
  obtain ⟨wb4, hwb4⟩ : ∃ w' : World, w' = w5.alloc (.cells #[.slice A5 (scV z0 a1).elems.length c5, .slice D5 (scV z0 a1).limits.length d5, .int .i64 (scV z0 a1).repeats, .int .i64 (scV z0 a1).bonus, .int .i64 (scV z0 a1).keeps, .int .i64 (scV z0 a1).fall] 30) := ⟨_, rfl⟩
  rw [← hwb4]
  have KB5 : Kept w5 wb4 := hwb4 ▸ (Kept.refl w5).alloc _
  have B5 : Box wb4 w5.heap.size 30 #[.slice A5 (scV z0 a1).elems.length c5, .slice D5 (scV z0 a1).limits.length d5, .int .i64 (scV z0 a1).repeats, .int .i64 (scV z0 a1).bonus, .int .i64 (scV z0 a1).keeps, .int .i64 (scV z0 a1).fall] := hwb4 ▸ Box.new w5 w5.heap.size 30 #[.slice A5 (scV z0 a1).elems.length c5, .slice D5 (scV z0 a1).limits.length d5, .int .i64 (scV z0 a1).repeats, .int .i64 (scV z0 a1).bonus, .int .i64 (scV z0 a1).keeps, .int .i64 (scV z0 a1).fall] rfl
  have szwb4 : wb4.heap.size = w5.heap.size + 1 := by rw [hwb4]; simp
  clear hwb4
  replace B0 := B0.kept KB5
  replace B3 := B3.kept KB5
  replace B4 := B4.kept KB5
  replace O4 := Lib.hid (O4.out.kept KB5)
  replace O5 := Lib.hid (O5.out.kept KB5)
  replace KS := KS.trans KB5
  have Kwb4 := K5.trans KB5
  refine (eqCode_any _ _ (scV z0 a1) _ O5.out.code (RS.out.kept KS)).mono ?_
  rintro e w6 ⟨rfl, k6⟩
  replace B0 := B0.kept k6
  replace B3 := B3.kept k6
  replace B4 := B4.kept k6
  replace B5 := B5.kept k6
  replace O4 := Lib.hid (O4.out.kept k6)
  replace O5 := Lib.hid (O5.out.kept k6)
  replace KS := KS.trans k6
  have sz6 := k6.size
  have K6 := Kwb4.trans k6
  obtain ⟨x0, y0⟩ := B0.six
  obtain ⟨x3, y3⟩ := B3.six
  obtain ⟨x4, y4⟩ := B4.six
  obtain ⟨x5, y5⟩ := B5.six
  go_wp2_with fail
  clear x0 y0 x3 y3 x4 y4 x5 y5
  have KDw6 : Kept w6 w6.drew := (Kept.refl _).drew
  replace B0 := B0.kept KDw6
  replace B3 := B3.kept KDw6
  replace B4 := B4.kept KDw6
  replace B5 := B5.kept KDw6
  replace O4 := Lib.hid (O4.out.kept KDw6)
  replace O5 := Lib.hid (O5.out.kept KDw6)
  replace KS := KS.trans KDw6
  have KKw6 := K6.trans KDw6
  have szdw6 : w6.heap.size ≤ w6.drew.heap.size := KDw6.size
  go_region_held3 (fun w' => (w'.cell? ⟨w.heap.size, 0, none⟩ = some (.slice A0 z0.elems.length c0) ∧ w'.cell? ⟨w.heap.size, 1, none⟩ = some (.slice D0 z0.limits.length d0) ∧ w'.cell? ⟨w.heap.size, 2, none⟩ = some (.int .i64 z0.repeats) ∧ w'.cell? ⟨w.heap.size, 3, none⟩ = some (.int .i64 z0.bonus) ∧ w'.cell? ⟨w.heap.size, 4, none⟩ = some (.int .i64 z0.keeps) ∧ w'.cell? ⟨w.heap.size, 5, none⟩ = some (.int .i64 z0.fall)) ∧ (w'.cell? ⟨w4.heap.size, 0, none⟩ = some (.slice A4 z0.elems.length c4) ∧ w'.cell? ⟨w4.heap.size, 1, none⟩ = some (.slice D4 z0.limits.length d4) ∧ w'.cell? ⟨w4.heap.size, 2, none⟩ = some (.int .i64 z0.repeats) ∧ w'.cell? ⟨w4.heap.size, 3, none⟩ = some (.int .i64 z0.bonus) ∧ w'.cell? ⟨w4.heap.size, 4, none⟩ = some (.int .i64 z0.keeps) ∧ w'.cell? ⟨w4.heap.size, 5, none⟩ = some (.int .i64 z0.fall))) (first | exact ⟨B0.six.1, B4.six.1⟩ | exact ⟨(B0.kept (by assumption)).six.1, (B4.kept (by assumption)).six.1⟩)
    (first | (go_at_call 15; refine (toCode_any _ z0 _ (H0.out.kept KKw6) (by omega) (by omega)).mono ?_; rintro e w7 ⟨u7, rfl, o7, k7⟩) | (go_at_call 17; refine (eqCode_any _ _ z0 _ (O4.out.code.kept k7) o7.code).mono ?_; rintro e w8 ⟨rfl, k8⟩; have kk8 := k7.trans k8))
  clear o7
  replace B0 := B0.kept kk8
  replace B3 := B3.kept kk8
  replace B4 := B4.kept kk8
  replace B5 := B5.kept kk8
  replace O4 := Lib.hid (O4.out.kept kk8)
  replace O5 := Lib.hid (O5.out.kept kk8)
  replace KS := KS.trans kk8
  have sz8 := kk8.size
  have K8 := KKw6.trans kk8
  have nb4 : nextC (1) z0 = (1) + 4 * z0.elems.length + z0.limits.length := rfl
  obtain ⟨x0, y0⟩ := B0.six
  obtain ⟨x3, y3⟩ := B3.six
  obtain ⟨x4, y4⟩ := B4.six
  obtain ⟨x5, y5⟩ := B5.six
  go_wp2_with fail
  clear x0 y0 x3 y3 x4 y4 x5 y5
  refine (markCode_any _ z0 _ _ _ O4.out (by omega) (by omega) (by omega) (by omega)).mono ?_
  rintro e w9 ⟨rfl, o9, on9⟩
  have sz9 := on9.size
  replace B0 := B0.only on9 (fun hb => by have := F4.out _ hb; omega)
  replace B3 := B3.only on9 (fun hb => by have := F4.out _ hb; omega)
  replace B4 := B4.only on9 (fun hb => by have := F4.out _ hb; omega)
  replace B5 := B5.only on9 (fun hb => by have := F4.out _ hb; omega)
  replace O5 := Lib.hid (O5.out.only on9 (fun b hb hb' => by have := F5.out b hb; have := F4.out b hb'; omega))
  replace KS := on9.above KS (fun b hb => by have := F4.out b hb; omega)
  have K9 := on9.above K8 (fun b hb => by have := F4.out b hb; omega)
  replace O4 := Lib.hid o9
  clear o9 on9
  obtain ⟨x0, y0⟩ := B0.six
  obtain ⟨x3, y3⟩ := B3.six
  obtain ⟨x4, y4⟩ := B4.six
  obtain ⟨x5, y5⟩ := B5.six
  go_wp2_with fail
  clear x0 y0 x3 y3 x4 y4 x5 y5
  refine (eqCode_any _ _ (scV z0 a1) _ O5.out.code (RS.out.kept KS)).mono ?_
  rintro e w10 ⟨rfl, k10⟩
  replace B0 := B0.kept k10
  replace B3 := B3.kept k10
  replace B4 := B4.kept k10
  replace B5 := B5.kept k10
  replace O4 := Lib.hid (O4.out.kept k10)
  replace O5 := Lib.hid (O5.out.kept k10)
  replace KS := KS.trans k10
  have sz10 := k10.size
  have K10 := K9.trans k10
  have nbR : nextC 1 (scV z0 a1) = 1 + 4 * (scV z0 a1).elems.length + (scV z0 a1).limits.length := rfl
  obtain ⟨x0, y0⟩ := B0.six
  obtain ⟨x3, y3⟩ := B3.six
  obtain ⟨x4, y4⟩ := B4.six
  obtain ⟨x5, y5⟩ := B5.six
  go_wp2_with fail
  clear x0 y0 x3 y3 x4 y4 x5 y5
  refine (markCode_any _ (scV z0 a1) _ _ _ O5.out (by omega) (by omega) (by omega) (by omega)).mono ?_
  rintro e w11 ⟨rfl, o11, on11⟩
  have sz11 := on11.size
  replace B0 := B0.only on11 (fun hb => by have := F5.out _ hb; omega)
  replace B3 := B3.only on11 (fun hb => by have := F5.out _ hb; omega)
  replace B4 := B4.only on11 (fun hb => by have := F5.out _ hb; omega)
  replace B5 := B5.only on11 (fun hb => by have := F5.out _ hb; omega)
  replace O4 := Lib.hid (O4.out.only on11 (fun b hb hb' => by have := F4.out b hb; have := F5.out b hb'; omega))
  replace KS := on11.above KS (fun b hb => by have := F5.out b hb; omega)
  have K11 := on11.above K10 (fun b hb => by have := F5.out b hb; omega)
  replace O5 := Lib.hid o11
  clear o11 on11
  obtain ⟨x0, y0⟩ := B0.six
  obtain ⟨x3, y3⟩ := B3.six
  obtain ⟨x4, y4⟩ := B4.six
  obtain ⟨x5, y5⟩ := B5.six
  go_wp2_with fail
  clear x0 y0 x3 y3 x4 y4 x5 y5
  refine (heldCode_any _ (scV z0 a1) _ _ O5.out.code (by omega) (by omega) (by omega) (by omega)).mono ?_
  rintro e w12 ⟨rfl, k12⟩
  replace B0 := B0.kept k12
  replace B3 := B3.kept k12
  replace B4 := B4.kept k12
  replace B5 := B5.kept k12
  replace O4 := Lib.hid (O4.out.kept k12)
  replace O5 := Lib.hid (O5.out.kept k12)
  replace KS := KS.trans k12
  have sz12 := k12.size
  have K12 := K11.trans k12
  obtain ⟨x0, y0⟩ := B0.six
  obtain ⟨x3, y3⟩ := B3.six
  obtain ⟨x4, y4⟩ := B4.six
  obtain ⟨x5, y5⟩ := B5.six
  go_wp2_with fail
  clear x0 y0 x3 y3 x4 y4 x5 y5
  refine (toCode_any _ z0 _ (H0.out.kept K12) (by omega) (by omega)).mono ?_
  rintro e w13 ⟨u13, rfl, o13, k13⟩
  replace B0 := B0.kept k13
  replace B3 := B3.kept k13
  replace B4 := B4.kept k13
  replace B5 := B5.kept k13
  replace O4 := Lib.hid (O4.out.kept k13)
  replace O5 := Lib.hid (O5.out.kept k13)
  replace KS := KS.trans k13
  have sz13 := k13.size
  have K13 := K12.trans k13
  have R13 := Lib.hid o13.code
  clear o13
  obtain ⟨x0, y0⟩ := B0.six
  obtain ⟨x3, y3⟩ := B3.six
  obtain ⟨x4, y4⟩ := B4.six
  obtain ⟨x5, y5⟩ := B5.six
  go_wp2_with fail
  clear x0 y0 x3 y3 x4 y4 x5 y5
  refine (scaleCode_any _ z0 _ _ R13.out).mono ?_
  rintro e w14 ⟨u14, rfl, o14, k14⟩
  replace B0 := B0.kept k14
  replace B3 := B3.kept k14
  replace B4 := B4.kept k14
  replace B5 := B5.kept k14
  replace R13 := Lib.hid (R13.out.kept k14)
  replace O4 := Lib.hid (O4.out.kept k14)
  replace O5 := Lib.hid (O5.out.kept k14)
  replace KS := KS.trans k14
  have sz14 := k14.size
  have K14 := K13.trans k14
  clear R13
  obtain ⟨n14, m14, rfl, p14, q14, nd14⟩ := o14
  obtain ⟨A14, c14, rfl, _⟩ := own_form p14.1
  obtain ⟨D14, d14, rfl, _⟩ := own_form q14
  have o14 : OwnK w14 _ (.agg #[.slice A14 (scV z0 a1).elems.length c14, .slice D14 (scV z0 a1).limits.length d14, .int .i64 (scV z0 a1).repeats, .int .i64 (scV z0 a1).bonus, .int .i64 (scV z0 a1).keeps, .int .i64 (scV z0 a1).fall]) (scV z0 a1) := ⟨_, _, rfl, p14, q14, nd14⟩
  clear p14 q14 nd14
  have RH := Lib.hid o14.code
  clear o14
  obtain ⟨x0, y0⟩ := B0.six
  have l0 := B0.lt
  obtain ⟨x3, y3⟩ := B3.six
  have l3 := B3.lt
  obtain ⟨x4, y4⟩ := B4.six
  have l4 := B4.lt
  obtain ⟨x5, y5⟩ := B5.six
  have l5 := B5.lt
  go_wp2_with fail
  clear x0 y0 l0 x3 y3 l3 x4 y4 l4 x5 y5 l5
  obtain ⟨wb5, hwb5⟩ : ∃ w' : World, w' = w14.alloc (.cells #[.slice A14 (scV z0 a1).elems.length c14, .slice D14 (scV z0 a1).limits.length d14, .int .i64 (scV z0 a1).repeats, .int .i64 (scV z0 a1).bonus, .int .i64 (scV z0 a1).keeps, .int .i64 (scV z0 a1).fall] 30) := ⟨_, rfl⟩
  rw [← hwb5]
  have KB14 : Kept w14 wb5 := hwb5 ▸ (Kept.refl w14).alloc _
  have B14 : Box wb5 w14.heap.size 30 #[.slice A14 (scV z0 a1).elems.length c14, .slice D14 (scV z0 a1).limits.length d14, .int .i64 (scV z0 a1).repeats, .int .i64 (scV z0 a1).bonus, .int .i64 (scV z0 a1).keeps, .int .i64 (scV z0 a1).fall] := hwb5 ▸ Box.new w14 w14.heap.size 30 #[.slice A14 (scV z0 a1).elems.length c14, .slice D14 (scV z0 a1).limits.length d14, .int .i64 (scV z0 a1).repeats, .int .i64 (scV z0 a1).bonus, .int .i64 (scV z0 a1).keeps, .int .i64 (scV z0 a1).fall] rfl
  have szwb5 : wb5.heap.size = w14.heap.size + 1 := by rw [hwb5]; simp
  clear hwb5
  replace B0 := B0.kept KB14
  replace B3 := B3.kept KB14
  replace B4 := B4.kept KB14
  replace B5 := B5.kept KB14
  replace RH := Lib.hid (RH.out.kept KB14)
  replace O4 := Lib.hid (O4.out.kept KB14)
  replace O5 := Lib.hid (O5.out.kept KB14)
  replace KS := KS.trans KB14
  have Kwb5 := K14.trans KB14
  refine (eqCode_any _ _ (scV z0 a1) _ RH.out (RS.out.kept KS)).mono ?_
  rintro e w15 ⟨rfl, k15⟩
  replace B0 := B0.kept k15
  replace B3 := B3.kept k15
  replace B4 := B4.kept k15
  replace B5 := B5.kept k15
  replace B14 := B14.kept k15
  replace RH := Lib.hid (RH.out.kept k15)
  replace O4 := Lib.hid (O4.out.kept k15)
  replace O5 := Lib.hid (O5.out.kept k15)
  replace KS := KS.trans k15
  have sz15 := k15.size
  have K15 := Kwb5.trans k15
  obtain ⟨x0, y0⟩ := B0.six
  obtain ⟨x3, y3⟩ := B3.six
  obtain ⟨x4, y4⟩ := B4.six
  obtain ⟨x5, y5⟩ := B5.six
  obtain ⟨x14, y14⟩ := B14.six
  go_wp2_with fail
  clear x0 y0 x3 y3 x4 y4 x5 y5 x14 y14
  refine (heldCode_any _ (scV z0 a1) _ _ O5.out.code (by omega) (by omega) (by omega) (by omega)).mono ?_
  rintro e w16 ⟨rfl, k16⟩
  replace B0 := B0.kept k16
  replace B3 := B3.kept k16
  replace B4 := B4.kept k16
  replace B5 := B5.kept k16
  replace B14 := B14.kept k16
  replace RH := Lib.hid (RH.out.kept k16)
  replace O4 := Lib.hid (O4.out.kept k16)
  replace O5 := Lib.hid (O5.out.kept k16)
  replace KS := KS.trans k16
  have sz16 := k16.size
  have K16 := K15.trans k16
  go_wp2_with fail
  go_ret
  exact ⟨rfl, K16⟩
end Go.Proofs.Yteebkplldggoiaa
