/- Codes: a code if it is valid. -/
import Derived.Test.YteebkplldggoiaaV9
import Derived.Deep.DeepCutAuto
namespace Go.Proofs.Yteebkplldggoiaa
open Go.RowKit

def zeroC : CodeD := ⟨[], [], 0, 0, 0, 0⟩
def ifC (x : CodeD) : CodeD := if codeB x then x else zeroC
theorem ifC_yes {x : CodeD} (h : codeB x = true) : ifC x = x := if_pos h
theorem ifC_no {x : CodeD} (h : codeB x = false) : ifC x = zeroC := by unfold ifC; rw [h]; rfl
theorem zeroC_own (w : World) (base : Nat) : OwnK w base (.agg #[.slice none 0 0, .slice none 0 0, .int .i64 0, .int .i64 0, .int .i64 0, .int .i64 0]) zeroC :=
  ⟨_, _, rfl, ⟨World.ownsRow_nil _ _ _ _, fun _ h => (by cases h)⟩, World.ownsRow_nil _ _ _ _, by rw [fpA_code]; simp [fp, Value.ownBlock]⟩
theorem OwnK.base {w : World} {base base' : Nat} {v : Value} {x : CodeD} (h : OwnK w base v x) (hb : base' ≤ base) : OwnK w base' v x := by
  obtain ⟨ev, lv, rfl, h1, h2, h3⟩ := h
  exact ⟨ev, lv, rfl, ⟨own_base h1.1 hb, h1.2⟩, own_base h2 hb, h3⟩
theorem OwnK.far {w w' : World} {base base' : Nat} {v : Value} {x : CodeD} {S : List Nat} (h : OwnK w base v x) (ho : Only S w w') (hS : ∀ b ∈ S, b < base ∨ w.heap.size ≤ b) (hb : base' ≤ base) : OwnK w' base' v x :=
  OwnK.base (h.only ho (fun b hb hs => by have := h.fps b hb; have := hS b hs; omega)) hb
theorem Box.zero6 {w : World} {b : Nat} {t : TypeId} (h : Box w b t #[.slice none 0 0, .slice none 0 0, .int .i64 0, .int .i64 0, .int .i64 0, .int .i64 0]) : True := trivial
set_option maxHeartbeats 4000000 in
theorem cdIf_any (v : Value) (x : CodeD) (w : World) (base : Nat) (h : OwnK w base v x) (hbase : base ≤ w.heap.size) :
    Calls Try.prog 71 #[v] w fun e w' => ∃ v', e = .returned (.tuple #[v', .bool (codeB x)]) ∧ OwnK w' base v' (ifC x) ∧ Kept w w' := by
  have HK := Lib.hid h
  obtain ⟨ev, lv, rfl, h1, h2, _⟩ := h
  obtain ⟨A, c, rfl, _⟩ := own_form h1.1
  obtain ⟨A2, c2, rfl, _⟩ := own_form h2
  clear h1 h2
  go_enter Try.func71, Try.ntmps71
  go_wp2_with fail
  have B0 := (Box.new w w.heap.size 30 #[.slice A x.elems.length c, .slice A2 x.limits.length c2, .int .i64 x.repeats, .int .i64 x.bonus, .int .i64 x.keeps, .int .i64 x.fall] rfl).alloc (.cells #[.slice none 0 0, .slice none 0 0, .int .i64 0, .int .i64 0, .int .i64 0, .int .i64 0] 30)
  have B1 := Box.new (w.alloc (.cells #[.slice A x.elems.length c, .slice A2 x.limits.length c2, .int .i64 x.repeats, .int .i64 x.bonus, .int .i64 x.keeps, .int .i64 x.fall] 30)) (w.heap.size + 1) 30 #[.slice none 0 0, .slice none 0 0, .int .i64 0, .int .i64 0, .int .i64 0, .int .i64 0] (by simp)
  have K0 : Kept w ((w.alloc (.cells #[.slice A x.elems.length c, .slice A2 x.limits.length c2, .int .i64 x.repeats, .int .i64 x.bonus, .int .i64 x.keeps, .int .i64 x.fall] 30)).alloc (.cells #[.slice none 0 0, .slice none 0 0, .int .i64 0, .int .i64 0, .int .i64 0, .int .i64 0] 30)) := ((Kept.refl w).alloc _).alloc _
  generalize (w.alloc (.cells #[.slice A x.elems.length c, .slice A2 x.limits.length c2, .int .i64 x.repeats, .int .i64 x.bonus, .int .i64 x.keeps, .int .i64 x.fall] 30)).alloc (.cells #[.slice none 0 0, .slice none 0 0, .int .i64 0, .int .i64 0, .int .i64 0, .int .i64 0] 30) = w0 at *
  refine (cdGood_any _ x _ (HK.out.kept K0).code).mono ?_
  rintro e w1 ⟨rfl, k1⟩
  replace B0 := B0.kept k1
  replace B1 := B1.kept k1
  have K1 := K0.trans k1
  have O1 := Lib.hid (HK.out.kept K1)
  clear K0 k1
  by_cases hb : codeB x = true
  · have HB := Lib.hid hb
    rw [hb]
    clear hb
    go_upto_region 3 with (fail)
    obtain ⟨x0, y0⟩ := B0.six
    obtain ⟨x1, y1⟩ := B1.six
    go_wp2_with fail
    clear x0 y0 x1 y1
    obtain ⟨w3, hw3, B3, Q3⟩ := set6 B1 (.slice A x.elems.length c) (.slice A2 x.limits.length c2) (.int .i64 x.repeats) (.int .i64 x.bonus) (.int .i64 x.keeps) (.int .i64 x.fall)
    rw [← hw3]
    clear hw3
    obtain ⟨cc, ff⟩ := B3.six
    refine bodyPost_ret (v := .tuple #[.agg #[.slice A x.elems.length c, .slice A2 x.limits.length c2, .int .i64 x.repeats, .int .i64 x.bonus, .int .i64 x.keeps, .int .i64 x.fall], .bool true]) (by simp [results, Try.results71, go_sem, cc, ff]) rfl ⟨_, by rw [HB.out], ?_, Q3.above K1 (by simp)⟩
    rw [ifC_yes HB.out]
    exact O1.out.only Q3 (fun b hb hs => by have := HK.out.fps b hb; simp at hs; omega)
  · simp only [Bool.not_eq_true] at hb
    have HB := Lib.hid hb
    rw [hb]
    clear hb
    go_upto_region 2 with (fail)
    obtain ⟨x0, y0⟩ := B0.six
    obtain ⟨x1, y1⟩ := B1.six
    go_wp2_with fail
    clear x0 y0 x1 y1
    obtain ⟨w3, hw3, B3, Q3⟩ := set6 B1 (.slice none 0 0) (.slice none 0 0) (.int .i64 0) (.int .i64 0) (.int .i64 0) (.int .i64 0)
    rw [← hw3]
    clear hw3
    obtain ⟨cc, ff⟩ := B3.six
    refine bodyPost_ret (v := .tuple #[.agg #[.slice none 0 0, .slice none 0 0, .int .i64 0, .int .i64 0, .int .i64 0, .int .i64 0], .bool false]) (by simp [results, Try.results71, go_sem, cc, ff]) rfl ⟨_, by rw [HB.out], ?_, Q3.above K1 (by simp)⟩
    rw [ifC_no HB.out]
    exact zeroC_own _ _
set_option maxHeartbeats 4000000 in
theorem asCode_any (v ev : Value) (x : CodeD) (es : List ElemD) (w : World) (base : Nat) (h : CodeAt w v x) (he : OwnE w base ev es) (hbase : base ≤ w.heap.size) (hm : x.limits.length ≤ 1048576) :
    Calls Try.prog 72 #[v, ev] w fun e w' => ∃ v', e = .returned (.tuple #[v', .bool (codeB { x with elems := es })]) ∧ OwnK w' base v' (ifC { x with elems := es }) ∧ Kept w w' := by
  obtain ⟨nv, lv, rfl, h1, h2⟩ := h
  obtain ⟨A, c, rfl, _⟩ := own_form he.1
  obtain ⟨A1, c1, rfl, _⟩ := h1.1.out
  obtain ⟨A2, c2, rfl, _⟩ := h2.out
  have HE := Lib.hid he
  have H2 := Lib.hid h2
  clear h1 h2 he
  go_enter Try.func72, Try.ntmps72
  go_wp2_with fail
  have B0 := (Box.new w w.heap.size 30 #[.slice A es.length c, .slice A2 x.limits.length c2, .int .i64 x.repeats, .int .i64 x.bonus, .int .i64 x.keeps, .int .i64 x.fall] rfl).alloc (.cells #[.slice none 0 0, .slice none 0 0, .int .i64 0, .int .i64 0, .int .i64 0, .int .i64 0] 30)
  have B1 := Box.new (w.alloc (.cells #[.slice A es.length c, .slice A2 x.limits.length c2, .int .i64 x.repeats, .int .i64 x.bonus, .int .i64 x.keeps, .int .i64 x.fall] 30)) (w.heap.size + 1) 30 #[.slice none 0 0, .slice none 0 0, .int .i64 0, .int .i64 0, .int .i64 0, .int .i64 0] (by simp)
  have K0 : Kept w ((w.alloc (.cells #[.slice A es.length c, .slice A2 x.limits.length c2, .int .i64 x.repeats, .int .i64 x.bonus, .int .i64 x.keeps, .int .i64 x.fall] 30)).alloc (.cells #[.slice none 0 0, .slice none 0 0, .int .i64 0, .int .i64 0, .int .i64 0, .int .i64 0] 30)) := ((Kept.refl w).alloc _).alloc _
  generalize (w.alloc (.cells #[.slice A es.length c, .slice A2 x.limits.length c2, .int .i64 x.repeats, .int .i64 x.bonus, .int .i64 x.keeps, .int .i64 x.fall] 30)).alloc (.cells #[.slice none 0 0, .slice none 0 0, .int .i64 0, .int .i64 0, .int .i64 0, .int .i64 0] 30) = w0 at *
  have hzw : w.heap.size + 1 < w0.heap.size := B1.lt
  refine (copyInts_any _ x.limits _ (H2.out.kept K0) hm).mono ?_
  rintro e w1 ⟨v1, rfl, o1, k1⟩
  obtain ⟨A3, c3, rfl, _⟩ := own_form o1
  replace B0 := B0.kept k1
  replace B1 := B1.kept k1
  have K1 := K0.trans k1
  have O1 := Lib.hid o1
  have OE := Lib.hid (HE.out.kept K1)
  have hz0 : w.heap.size + 1 < w1.heap.size := B1.lt
  have hz1 := k1.size
  clear K0 k1 o1
  obtain ⟨x0, y0⟩ := B0.six
  go_upto_region 3 with (fail)
  clear x0 y0
  obtain ⟨w2, hw2⟩ : ∃ w2, w2 = w1.setCell ⟨w.heap.size, 1, none⟩ (.slice A3 x.limits.length c3) := ⟨_, rfl⟩
  rw [← hw2]
  have Q2 : Only [w.heap.size] w1 w2 := by rw [hw2]; exact Only.setCell (Only.refl _ _) (by simp) _
  replace B0 : Box w2 w.heap.size 30 #[.slice A es.length c, .slice A3 x.limits.length c3, .int .i64 x.repeats, .int .i64 x.bonus, .int .i64 x.keeps, .int .i64 x.fall] := hw2 ▸ B0.set 1 _
  replace B1 := B1.only Q2 (by simp)
  have F1 := Lib.hid (own_fp HE.out.1)
  have F2 := Lib.hid (own_fp O1.out)
  have OK : OwnK w2 base (.agg #[.slice A es.length c, .slice A3 x.limits.length c3, .int .i64 x.repeats, .int .i64 x.bonus, .int .i64 x.keeps, .int .i64 x.fall]) { x with elems := es } := by
    refine ⟨_, _, rfl, OE.out.only Q2 (fun b hb hs => ?_), OwnI.base (O1.out.only Q2 (fun b hb hs => ?_)) (by omega), ?_⟩
    · have := F1.out b hb; simp at hs; omega
    · have := F2.out b hb; simp at hs; omega
    · rw [fpA_code]
      exact nodup_fp (m := w.heap.size) (fun y hy => (F1.out y hy).2) (fun y hy => by have := F2.out y hy; omega)
  have K2 : Kept w w2 := Q2.above K1 (by simp)
  have HK := Lib.hid OK
  have hz2 := Q2.size
  clear hw2 OE O1 F1 OK
  obtain ⟨x0, y0⟩ := B0.six
  go_wp2_with fail
  clear x0 y0
  refine (isCode_any _ { x with elems := es } _ HK.out.code).mono ?_
  rintro e w4 ⟨rfl, k4⟩
  replace B0 := B0.kept k4
  replace B1 := B1.kept k4
  have K4 := K2.trans k4
  have O4 := Lib.hid (HK.out.kept k4)
  clear k4
  have hz4 := K4.size
  have hne : ∀ b ∈ fpA (.agg #[.slice A es.length c, .slice A3 x.limits.length c3, .int .i64 x.repeats, .int .i64 x.bonus, .int .i64 x.keeps, .int .i64 x.fall]), b ≠ w.heap.size + 1 := by
    intro b hb e
    subst e
    rw [fpA_code] at hb
    rcases List.mem_append.1 hb with hb | hb
    · have := (own_fp HE.out.1 _ hb).2; omega
    · have := F2.out _ hb; omega
  have HNE := Lib.hid hne
  clear hne
  by_cases hb : codeB { x with elems := es } = true
  · have HB := Lib.hid hb
    rw [hb]
    clear hb
    go_upto_region 5 with (fail)
    obtain ⟨x0, y0⟩ := B0.six
    obtain ⟨x1, y1⟩ := B1.six
    go_wp2_with fail
    clear x0 y0 x1 y1
    obtain ⟨w3, hw3, B3, Q3⟩ := set6 B1 (.slice A es.length c) (.slice A3 x.limits.length c3) (.int .i64 x.repeats) (.int .i64 x.bonus) (.int .i64 x.keeps) (.int .i64 x.fall)
    rw [← hw3]
    clear hw3
    obtain ⟨cc, ff⟩ := B3.six
    refine bodyPost_ret (v := .tuple #[.agg #[.slice A es.length c, .slice A3 x.limits.length c3, .int .i64 x.repeats, .int .i64 x.bonus, .int .i64 x.keeps, .int .i64 x.fall], .bool true]) (by simp [results, Try.results72, go_sem, cc, ff]) rfl ⟨_, by rw [HB.out], ?_, Q3.above K4 (by simp)⟩
    rw [ifC_yes HB.out]
    exact O4.out.only Q3 (fun b hb hs => HNE.out b hb (by simpa using hs))
  · simp only [Bool.not_eq_true] at hb
    have HB := Lib.hid hb
    rw [hb]
    clear hb
    go_upto_region 4 with (fail)
    obtain ⟨x0, y0⟩ := B0.six
    obtain ⟨x1, y1⟩ := B1.six
    go_wp2_with fail
    clear x0 y0 x1 y1
    obtain ⟨w3, hw3, B3, Q3⟩ := set6 B1 (.slice none 0 0) (.slice none 0 0) (.int .i64 0) (.int .i64 0) (.int .i64 0) (.int .i64 0)
    rw [← hw3]
    clear hw3
    obtain ⟨cc, ff⟩ := B3.six
    refine bodyPost_ret (v := .tuple #[.agg #[.slice none 0 0, .slice none 0 0, .int .i64 0, .int .i64 0, .int .i64 0, .int .i64 0], .bool false]) (by simp [results, Try.results72, go_sem, cc, ff]) rfl ⟨_, by rw [HB.out], ?_, Q3.above K4 (by simp)⟩
    rw [ifC_no HB.out]
    exact zeroC_own _ _
theorem asCode_is (X : CodeD) (bb : Bool) (v ev : Value) (x : CodeD) (es : List ElemD) (w : World) (base : Nat) (hX : ifC { x with elems := es } = X) (hb : codeB { x with elems := es } = bb) (h : CodeAt w v x) (he : OwnE w base ev es) (hbase : base ≤ w.heap.size) (hm : x.limits.length ≤ 1048576) :
    Calls Try.prog 72 #[v, ev] w fun e w' => ∃ v', e = .returned (.tuple #[v', .bool bb]) ∧ OwnK w' base v' X ∧ Kept w w' := by
  subst hX hb
  exact asCode_any v ev x es w base h he hbase hm
theorem cdIf_is (X : CodeD) (bb : Bool) (v : Value) (x : CodeD) (w : World) (base : Nat) (hX : ifC x = X) (hb : codeB x = bb) (h : OwnK w base v x) (hbase : base ≤ w.heap.size) :
    Calls Try.prog 71 #[v] w fun e w' => ∃ v', e = .returned (.tuple #[v', .bool bb]) ∧ OwnK w' base v' X ∧ Kept w w' := by
  subst hX hb
  exact cdIf_any v x w base h hbase
end Go.Proofs.Yteebkplldggoiaa
