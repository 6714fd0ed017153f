/- Contracts of functions that the proof leans on. No condition. -/
import Derived.Test.YtpkmngkepmoikaaM7be79c75be
/- Codes: AddElement. -/
namespace Go.Proofs.Ytpkmngkepmoikaa
set_option linter.unusedVariables false
set_option linter.unusedSimpArgs false
open Go.RowKit

def lessB (y e : ElemD) : Bool := Op.bytesLess e.name.toList y.name.toList
def insAt (es : List ElemD) (y : ElemD) : Nat := (es.takeWhile (lessB y)).length
theorem insAt_is : ∀ {es : List ElemD} {y : ElemD} {k : Nat}, (∀ j z, j < k → es[j]? = some z → lessB y z = true) → k ≤ es.length → (∀ z, es[k]? = some z → lessB y z = false) → insAt es y = k
  | [], y, k, _, hk, _ => by simp at hk; subst hk; rfl
  | e :: es, y, 0, _, _, h2 => by
    have := h2 e rfl
    simp [insAt, List.takeWhile_cons, this]
  | e :: es, y, k + 1, h1, hk, h2 => by
    have h0 := h1 0 e (by omega) rfl
    have := insAt_is (es := es) (y := y) (k := k) (fun j z hj hz => h1 (j + 1) z (by omega) (by simpa using hz)) (by simpa using hk) (fun z hz => h2 z (by simpa using hz))
    unfold insAt at *
    rw [List.takeWhile_cons, h0, if_pos rfl, List.length_cons, this]
theorem less_snoc {es : List ElemD} {y e : ElemD} {k : Nat} (h : es[k]? = some e) (he : lessB y e = true) (ha : ∀ j z, j < k → es[j]? = some z → lessB y z = true) : ∀ j z, j < k + 1 → es[j]? = some z → lessB y z = true := by
  intro j z hj hz
  rcases Nat.lt_or_eq_of_le (Nat.le_of_lt_succ hj) with h1 | rfl
  · exact ha j z h1 hz
  · rw [h] at hz
    injection hz with hz
    subst hz
    exact he
def addC (x : CodeD) (y : ElemD) (k : Nat) : CodeD := { x with elems := x.elems.take k ++ y :: x.elems.drop k }
def adB (x : CodeD) (y : ElemD) : Bool := codeB x && codeB (addC x y (insAt x.elems y))
def adV (x : CodeD) (y : ElemD) : CodeD := if codeB x then ifC (addC x y (insAt x.elems y)) else zeroC
theorem adV_no {x : CodeD} {y : ElemD} (h : codeB x = false) : adV x y = zeroC := by unfold adV; rw [h]; rfl
theorem adB_no {x : CodeD} {y : ElemD} (h : codeB x = false) : adB x y = false := by unfold adB; rw [h]; rfl
theorem adV_yes {x : CodeD} {y : ElemD} {k : Nat} (h : codeB x = true) (hk : insAt x.elems y = k) : adV x y = ifC (addC x y k) := by unfold adV; rw [h, hk]; rfl
theorem adB_yes {x : CodeD} {y : ElemD} {k : Nat} (h : codeB x = true) (hk : insAt x.elems y = k) : adB x y = codeB (addC x y k) := by unfold adB; rw [h, hk, Bool.true_and]
theorem adV_len (x : CodeD) (y : ElemD) : (adV x y).elems.length ≤ 24 ∧ (adV x y).limits.length ≤ 5 := by
  by_cases h : codeB x = true
  · unfold adV; rw [h]; exact ifC_len _
  · simp only [Bool.not_eq_true] at h
    rw [adV_no h]
    exact ⟨by simp [zeroC], by simp [zeroC]⟩
set_option maxRecDepth 100000 in
set_option maxHeartbeats 8000000 in
theorem addElement_any (v ve : Value) (x : CodeD) (y : ElemD) (w : World) (h : CodeAt w v x) (he : ElemAt w ve y) :
    Calls Try.prog 13 #[v, ve] w fun e w' => ∃ v', e = .returned (.tuple #[v', .bool (adB x y)]) ∧ OwnK w' w.heap.size v' (adV x y) ∧ Kept w w' := by
  have h0 := h
  obtain ⟨nv, mv, rfl, q1, q2⟩ := h
  obtain ⟨A, c, rfl, hnc, hcm, hl⟩ := q1.1.out
  obtain ⟨A2, c2, rfl, _, _, _⟩ := q2.out
  unfold maxLen at hcm
  have HL := Lib.hid hl
  have HS := Lib.hid q1.2
  have H0 := Lib.hid h0
  have HE := Lib.hid q1
  clear h0 q1 q2 hl
  obtain ⟨rfl, hys⟩ := he
  go_enter Try.func13, Try.ntmps13
  go_wp2_with fail
  have B0 := ((Box.new w w.heap.size 32 #[.slice A x.elems.length c, .slice A2 x.limits.length c2, .int .i64 x.repeats, .int .i64 x.bonus, .int .i64 x.keeps, .int .i64 x.fall] rfl).alloc (.cells #[.string y.name, .int .i64 y.family, .int .i64 y.level, .int .i64 y.base] 36)).alloc (.cells #[.slice none 0 0, .slice none 0 0, .int .i64 0, .int .i64 0, .int .i64 0, .int .i64 0] 32)
  have BE := (Box.new (w.alloc (.cells #[.slice A x.elems.length c, .slice A2 x.limits.length c2, .int .i64 x.repeats, .int .i64 x.bonus, .int .i64 x.keeps, .int .i64 x.fall] 32)) (w.heap.size + 1) 36 #[.string y.name, .int .i64 y.family, .int .i64 y.level, .int .i64 y.base] (by simp)).alloc (.cells #[.slice none 0 0, .slice none 0 0, .int .i64 0, .int .i64 0, .int .i64 0, .int .i64 0] 32)
  have B1 := Box.new ((w.alloc (.cells #[.slice A x.elems.length c, .slice A2 x.limits.length c2, .int .i64 x.repeats, .int .i64 x.bonus, .int .i64 x.keeps, .int .i64 x.fall] 32)).alloc (.cells #[.string y.name, .int .i64 y.family, .int .i64 y.level, .int .i64 y.base] 36)) (w.heap.size + 1 + 1) 32 #[.slice none 0 0, .slice none 0 0, .int .i64 0, .int .i64 0, .int .i64 0, .int .i64 0] (by simp)
  have K0 : Kept w (((w.alloc (.cells #[.slice A x.elems.length c, .slice A2 x.limits.length c2, .int .i64 x.repeats, .int .i64 x.bonus, .int .i64 x.keeps, .int .i64 x.fall] 32)).alloc (.cells #[.string y.name, .int .i64 y.family, .int .i64 y.level, .int .i64 y.base] 36)).alloc (.cells #[.slice none 0 0, .slice none 0 0, .int .i64 0, .int .i64 0, .int .i64 0, .int .i64 0] 32)) := (((Kept.refl w).alloc _).alloc _).alloc _
  generalize ((w.alloc (.cells #[.slice A x.elems.length c, .slice A2 x.limits.length c2, .int .i64 x.repeats, .int .i64 x.bonus, .int .i64 x.keeps, .int .i64 x.fall] 32)).alloc (.cells #[.string y.name, .int .i64 y.family, .int .i64 y.level, .int .i64 y.base] 36)).alloc (.cells #[.slice none 0 0, .slice none 0 0, .int .i64 0, .int .i64 0, .int .i64 0, .int .i64 0] 32) = w0 at *
  have hzw : w.heap.size + 1 + 1 < w0.heap.size := B1.lt
  refine (isCode_any _ x _ (H0.out.kept K0)).mono ?_
  rintro e w1 ⟨rfl, k1⟩
  replace B0 := B0.kept k1
  replace BE := BE.kept k1
  replace B1 := B1.kept k1
  have K1 := K0.trans k1
  have hz1 := k1.size
  clear K0 k1
  by_cases hb : codeB x = true
  case neg =>
    simp only [Bool.not_eq_true] at hb
    have HB := Lib.hid hb
    rw [hb]
    clear hb
    go_upto_region 2 with (fail)
    obtain ⟨x1, y1⟩ := B1.six
    go_wp2_with fail
    clear x1 y1
    obtain ⟨w3, hw3, B3, Q3⟩ := set6 B1 (.slice none 0 0) (.slice none 0 0) (.int .i64 0) (.int .i64 0) (.int .i64 0) (.int .i64 0)
    rw [← hw3]
    clear hw3
    obtain ⟨cc, ff⟩ := B3.six
    exact bodyPost_ret (v := .tuple #[.agg #[.slice none 0 0, .slice none 0 0, .int .i64 0, .int .i64 0, .int .i64 0, .int .i64 0], .bool false]) (by simp [results, Try.results13, go_sem, cc, ff]) rfl ⟨_, by rw [adB_no HB.out], by rw [adV_no HB.out]; exact zeroC_own _ _, Q3.above K1 (by simp <;> omega)⟩
  have HB := Lib.hid hb
  have hl24 := (codeB_heads hb).1.2
  have hl1 := (codeB_heads hb).1.1
  have hl5 : x.limits.length ≤ 5 := Nat.le_of_eq (codeB_heads hb).2
  rw [hb]
  clear hb
  go_wp2_with fail
  go_loopw [6] (fun i wr => ∃ k : Nat, k ≤ x.elems.length ∧ i = .int .i64 k ∧ (∀ j z, j < k → x.elems[j]? = some z → lessB y z = true) ∧ Kept w1 wr) (fun i _ => x.elems.length - (intOf i).toNat)
  case atStart => exact ⟨0, Nat.zero_le _, rfl, (fun j _ hj => absurd hj (Nat.not_lt_zero j)), Kept.refl _⟩
  case round =>
    obtain ⟨k, hk, rfl, ha, hkept⟩ := hrel
    have HA := Lib.hid ha
    clear ha
    have B0r := B0.kept hkept
    have BEr := BE.kept hkept
    obtain ⟨x0, y0⟩ := B0r.six
    obtain ⟨xe, ye⟩ := BEr.four
    by_cases hP : ∃ e, x.elems[k]? = some e ∧ lessB y e = true
    · obtain ⟨e, h2, he⟩ := hP
      have hlt : k < x.elems.length := (List.getElem?_eq_some_iff.1 h2).1
      obtain ⟨b, o, e', rfl, hb', h2', q0, q1, q2, q3⟩ := elems_at (HL.out.kept (K1.trans hkept)) hlt
      rw [h2] at h2'
      injection h2' with h2'
      subst h2'
      have HE2 := Lib.hid h2
      have HEE := Lib.hid he
      have hd : decide ((k : Int) < (x.elems.length : Int)) = true := by simp; omega
      have hlt' : (k : Int) < (x.elems.length : Int) := by omega
      unfold lessB at he
      clear h2
      go_wp2_with fail
      go_quiet (fail)
      go_wp2_with fail
      go_roundw
      case rel => exact ⟨k + 1, by omega, by go_num, less_snoc HE2.out HEE.out HA.out, hkept.drewN _⟩
      case measure => simp [intOf]; omega
    · have HAT : Hid (insAt x.elems y = k) := insAt_is HA.out hk (fun z hz => by
        cases hq : lessB y z with
        | false => rfl
        | true => exact absurd ⟨z, hz, hq⟩ hP)
      have hdis : k < x.elems.length ∨ ¬ k < x.elems.length := Nat.lt_or_ge k x.elems.length |>.imp id Nat.not_lt.2
      have HSTOP : Hid (∀ hlt : k < x.elems.length, ∀ e, x.elems[k]? = some e → lessB y e = false) := fun _ e he => by
        cases hq : lessB y e with
        | false => rfl
        | true => exact absurd ⟨e, he, hq⟩ hP
      clear hP
      have FINISH : ∀ wr2, Kept wr wr2 → True := fun _ _ => trivial
      clear FINISH
      rcases hdis with hlt | hge
      · obtain ⟨b, o, e, rfl, hb', h2, q0, q1, q2, q3⟩ := elems_at (HL.out.kept (K1.trans hkept)) hlt
        have he := HSTOP.out hlt e h2
        have hd : decide ((k : Int) < (x.elems.length : Int)) = true := by simp; omega
        have hlt' : (k : Int) < (x.elems.length : Int) := by omega
        unfold lessB at he
        clear h2
        go_wp2_with fail
        go_quiet (fail)
        rename_i nq
        clear x0 y0 xe ye q0 q1 q2 q3 he hd
        go_upto_region 6 with (fail)
        have kq : Kept w1 (wr.drewN nq) := hkept.drewN nq
        have B0q : Box (wr.drewN nq) w.heap.size 32 #[.slice (some ⟨b, o, none⟩) x.elems.length c, .slice A2 x.limits.length c2, .int .i64 x.repeats, .int .i64 x.bonus, .int .i64 x.keeps, .int .i64 x.fall] := B0r
        have BEq : Box (wr.drewN nq) (w.heap.size + 1) 36 #[.string y.name, .int .i64 y.family, .int .i64 y.level, .int .i64 y.base] := BEr
        have B1q : Box (wr.drewN nq) (w.heap.size + 1 + 1) 32 #[.slice none 0 0, .slice none 0 0, .int .i64 0, .int .i64 0, .int .i64 0, .int .i64 0] := B1.kept kq
        clear B0r BEr hkept
        generalize wr.drewN nq = wq at *
        have K1q : Kept w wq := K1.trans kq
        have hzq : w.heap.size + 1 + 1 < wq.heap.size := B1q.lt
        have HEQ := Lib.hid (HE.out.kept K1q)
        have h0e : 0 < x.elems.length := by omega
        have hne : x.elems.length ≤ 1000000 := by omega
        have HSK : Hid (∀ w' : World, Kept wq w' → (w'.cell? ⟨w.heap.size, 0, none⟩ = some (.slice (some ⟨b, o, none⟩) x.elems.length c) ∧ w'.cell? ⟨w.heap.size, 1, none⟩ = some (.slice A2 x.limits.length c2) ∧ w'.cell? ⟨w.heap.size, 2, none⟩ = some (.int .i64 x.repeats) ∧ w'.cell? ⟨w.heap.size, 3, none⟩ = some (.int .i64 x.bonus) ∧ w'.cell? ⟨w.heap.size, 4, none⟩ = some (.int .i64 x.keeps) ∧ w'.cell? ⟨w.heap.size, 5, none⟩ = some (.int .i64 x.fall)) ∧ (w'.cell? ⟨w.heap.size + 1, 0, none⟩ = some (.string y.name) ∧ w'.cell? ⟨w.heap.size + 1, 1, none⟩ = some (.int .i64 y.family) ∧ w'.cell? ⟨w.heap.size + 1, 2, none⟩ = some (.int .i64 y.level) ∧ w'.cell? ⟨w.heap.size + 1, 3, none⟩ = some (.int .i64 y.base))) := fun w' hk => ⟨(B0q.kept hk).six.1, (BEq.kept hk).four.1⟩
        have HSK6 : Hid (∀ W : World, Kept wq W → ∀ u0 u1 u2 u3 u4 u5, (((((((W.setCell ⟨w.heap.size + 1 + 1, 0, none⟩ u0).setCell ⟨w.heap.size + 1 + 1, 1, none⟩ u1).setCell ⟨w.heap.size + 1 + 1, 2, none⟩ u2).setCell ⟨w.heap.size + 1 + 1, 3, none⟩ u3).setCell ⟨w.heap.size + 1 + 1, 4, none⟩ u4).setCell ⟨w.heap.size + 1 + 1, 5, none⟩ u5).cell? ⟨w.heap.size, 0, none⟩ = some (.slice (some ⟨b, o, none⟩) x.elems.length c) ∧ ((((((W.setCell ⟨w.heap.size + 1 + 1, 0, none⟩ u0).setCell ⟨w.heap.size + 1 + 1, 1, none⟩ u1).setCell ⟨w.heap.size + 1 + 1, 2, none⟩ u2).setCell ⟨w.heap.size + 1 + 1, 3, none⟩ u3).setCell ⟨w.heap.size + 1 + 1, 4, none⟩ u4).setCell ⟨w.heap.size + 1 + 1, 5, none⟩ u5).cell? ⟨w.heap.size, 1, none⟩ = some (.slice A2 x.limits.length c2) ∧ ((((((W.setCell ⟨w.heap.size + 1 + 1, 0, none⟩ u0).setCell ⟨w.heap.size + 1 + 1, 1, none⟩ u1).setCell ⟨w.heap.size + 1 + 1, 2, none⟩ u2).setCell ⟨w.heap.size + 1 + 1, 3, none⟩ u3).setCell ⟨w.heap.size + 1 + 1, 4, none⟩ u4).setCell ⟨w.heap.size + 1 + 1, 5, none⟩ u5).cell? ⟨w.heap.size, 2, none⟩ = some (.int .i64 x.repeats) ∧ ((((((W.setCell ⟨w.heap.size + 1 + 1, 0, none⟩ u0).setCell ⟨w.heap.size + 1 + 1, 1, none⟩ u1).setCell ⟨w.heap.size + 1 + 1, 2, none⟩ u2).setCell ⟨w.heap.size + 1 + 1, 3, none⟩ u3).setCell ⟨w.heap.size + 1 + 1, 4, none⟩ u4).setCell ⟨w.heap.size + 1 + 1, 5, none⟩ u5).cell? ⟨w.heap.size, 3, none⟩ = some (.int .i64 x.bonus) ∧ ((((((W.setCell ⟨w.heap.size + 1 + 1, 0, none⟩ u0).setCell ⟨w.heap.size + 1 + 1, 1, none⟩ u1).setCell ⟨w.heap.size + 1 + 1, 2, none⟩ u2).setCell ⟨w.heap.size + 1 + 1, 3, none⟩ u3).setCell ⟨w.heap.size + 1 + 1, 4, none⟩ u4).setCell ⟨w.heap.size + 1 + 1, 5, none⟩ u5).cell? ⟨w.heap.size, 4, none⟩ = some (.int .i64 x.keeps) ∧ ((((((W.setCell ⟨w.heap.size + 1 + 1, 0, none⟩ u0).setCell ⟨w.heap.size + 1 + 1, 1, none⟩ u1).setCell ⟨w.heap.size + 1 + 1, 2, none⟩ u2).setCell ⟨w.heap.size + 1 + 1, 3, none⟩ u3).setCell ⟨w.heap.size + 1 + 1, 4, none⟩ u4).setCell ⟨w.heap.size + 1 + 1, 5, none⟩ u5).cell? ⟨w.heap.size, 5, none⟩ = some (.int .i64 x.fall)) ∧ (((((((W.setCell ⟨w.heap.size + 1 + 1, 0, none⟩ u0).setCell ⟨w.heap.size + 1 + 1, 1, none⟩ u1).setCell ⟨w.heap.size + 1 + 1, 2, none⟩ u2).setCell ⟨w.heap.size + 1 + 1, 3, none⟩ u3).setCell ⟨w.heap.size + 1 + 1, 4, none⟩ u4).setCell ⟨w.heap.size + 1 + 1, 5, none⟩ u5).cell? ⟨w.heap.size + 1, 0, none⟩ = some (.string y.name) ∧ ((((((W.setCell ⟨w.heap.size + 1 + 1, 0, none⟩ u0).setCell ⟨w.heap.size + 1 + 1, 1, none⟩ u1).setCell ⟨w.heap.size + 1 + 1, 2, none⟩ u2).setCell ⟨w.heap.size + 1 + 1, 3, none⟩ u3).setCell ⟨w.heap.size + 1 + 1, 4, none⟩ u4).setCell ⟨w.heap.size + 1 + 1, 5, none⟩ u5).cell? ⟨w.heap.size + 1, 1, none⟩ = some (.int .i64 y.family) ∧ ((((((W.setCell ⟨w.heap.size + 1 + 1, 0, none⟩ u0).setCell ⟨w.heap.size + 1 + 1, 1, none⟩ u1).setCell ⟨w.heap.size + 1 + 1, 2, none⟩ u2).setCell ⟨w.heap.size + 1 + 1, 3, none⟩ u3).setCell ⟨w.heap.size + 1 + 1, 4, none⟩ u4).setCell ⟨w.heap.size + 1 + 1, 5, none⟩ u5).cell? ⟨w.heap.size + 1, 2, none⟩ = some (.int .i64 y.level) ∧ ((((((W.setCell ⟨w.heap.size + 1 + 1, 0, none⟩ u0).setCell ⟨w.heap.size + 1 + 1, 1, none⟩ u1).setCell ⟨w.heap.size + 1 + 1, 2, none⟩ u2).setCell ⟨w.heap.size + 1 + 1, 3, none⟩ u3).setCell ⟨w.heap.size + 1 + 1, 4, none⟩ u4).setCell ⟨w.heap.size + 1 + 1, 5, none⟩ u5).cell? ⟨w.heap.size + 1, 3, none⟩ = some (.int .i64 y.base))) := fun W hk u0 u1 u2 u3 u4 u5 => ⟨(Box.far6 (B0q.kept hk) (by omega) u0 u1 u2 u3 u4 u5).six.1, (Box.far6 (BEq.kept hk) (by omega) u0 u1 u2 u3 u4 u5).four.1⟩
        have bA : Box (wq.alloc (.cells #[] 36)).drew wq.heap.size 36 #[] := Box.new wq _ _ _ rfl
        have bB : Box ((wq.alloc (.cells #[] 36)).alloc (.cells #[.string y.name, .int .i64 y.family, .int .i64 y.level, .int .i64 y.base] 36)).drew wq.heap.size 36 #[] := (Box.new wq wq.heap.size _ _ rfl).alloc _
        have bC : Box ((wq.alloc (.cells #[.string y.name, .int .i64 y.family, .int .i64 y.level, .int .i64 y.base] 36)).alloc (.cells #[] 36)).drew (wq.heap.size + 1) 36 #[] := Box.new (wq.alloc (.cells #[.string y.name, .int .i64 y.family, .int .i64 y.level, .int .i64 y.base] 36)) _ _ _ (by simp)
        have vB : Box ((wq.alloc (.cells #[] 36)).alloc (.cells #[.string y.name, .int .i64 y.family, .int .i64 y.level, .int .i64 y.base] 36)).drew (wq.heap.size + 1) 36 #[.string y.name, .int .i64 y.family, .int .i64 y.level, .int .i64 y.base] := Box.new (wq.alloc (.cells #[] 36)) _ _ _ (by simp)
        have vC : Box ((wq.alloc (.cells #[.string y.name, .int .i64 y.family, .int .i64 y.level, .int .i64 y.base] 36)).alloc (.cells #[] 36)).drew wq.heap.size 36 #[.string y.name, .int .i64 y.family, .int .i64 y.level, .int .i64 y.base] := (Box.new wq wq.heap.size _ _ rfl).alloc _
        obtain ⟨X, hX⟩ : ∃ X, ifC (addC x y k) = X := ⟨_, rfl⟩
        obtain ⟨bb, hbb⟩ : ∃ bb, codeB (addC x y k) = bb := ⟨_, rfl⟩
        have HX := Lib.hid hX
        have HBB := Lib.hid hbb
        clear hX hbb
        go_region_held3 (fun w' => (w'.cell? ⟨w.heap.size, 0, none⟩ = some (.slice (some ⟨b, o, none⟩) x.elems.length c) ∧ w'.cell? ⟨w.heap.size, 1, none⟩ = some (.slice A2 x.limits.length c2) ∧ w'.cell? ⟨w.heap.size, 2, none⟩ = some (.int .i64 x.repeats) ∧ w'.cell? ⟨w.heap.size, 3, none⟩ = some (.int .i64 x.bonus) ∧ w'.cell? ⟨w.heap.size, 4, none⟩ = some (.int .i64 x.keeps) ∧ w'.cell? ⟨w.heap.size, 5, none⟩ = some (.int .i64 x.fall)) ∧ (w'.cell? ⟨w.heap.size + 1, 0, none⟩ = some (.string y.name) ∧ w'.cell? ⟨w.heap.size + 1, 1, none⟩ = some (.int .i64 y.family) ∧ w'.cell? ⟨w.heap.size + 1, 2, none⟩ = some (.int .i64 y.level) ∧ w'.cell? ⟨w.heap.size + 1, 3, none⟩ = some (.int .i64 y.base))) (first | (with_reducible exact hS6 _ _ _ _ _ _) | (with_reducible exact HSK.out _ (Kept.refl wq).drew) | (with_reducible exact HSK.out _ ((Kept.refl wq).alloc _).drew) | (with_reducible exact HSK.out _ (((Kept.refl wq).alloc _).alloc _).drew) | (with_reducible exact HSK.out _ (by assumption)) | (with_reducible exact HSK.out _ (Kept.alloc (by assumption) _)) | (with_reducible exact HSK6.out _ (by assumption) _ _ _ _ _ _)) (first | (refine step_append_E0 wq _ rfl (.tmp 30) (.tmp 32) rfl _ rfl (by first | with_reducible exact bA | with_reducible exact bB | with_reducible exact bC) (by first | with_reducible exact ((Kept.refl wq).alloc _).drew | with_reducible exact (((Kept.refl wq).alloc _).alloc _).drew) (by first | exact Nat.le_refl _ | omega) _ x.elems rfl HEQ.out (by omega) ?_; intro v2 w2 o2 k2 on2 loc2; have O2 := Lib.hid o2; have L2 := Lib.hid loc2; clear o2 loc2) | (go_at_call 41; have oA := O2.out.kept ((Kept.refl w2).alloc (.cells #[.string y.name, .int .i64 y.family, .int .i64 y.level, .int .i64 y.base] 36)); have sA := (k2.alloc (.cells #[.string y.name, .int .i64 y.family, .int .i64 y.level, .int .i64 y.base] 36)).size; have bbA := Box.new w2 w2.heap.size 36 #[.string y.name, .int .i64 y.family, .int .i64 y.level, .int .i64 y.base] rfl; have nA : ∀ b ∈ fp v2, w2.heap.size ≠ b := (fun b hb => by have := own_fp O2.out.1 b hb; omega); (with_reducible refine (insE_any _ x.elems y k _ _ _ oA h0e hk hne sA bbA hys nA).mono ?_); rintro e w3 ⟨v3, rfl, o3, on3⟩; have k3 := on3.above (k2.alloc _) (fun b hb => (own_fp O2.out.1 b hb).1); have O3 := Lib.hid o3; clear o3 on3 oA sA bbA nA) | (go_at_call 41; have oA := O2.out; have sA := k2.size; have bbA := vB.only on2 (by simp); have nA : ∀ b ∈ fp v2, wq.heap.size + 1 ≠ b := (fun b hb => by have := L2.out b hb; simp at this; omega); (with_reducible refine (insE_any _ x.elems y k _ _ _ oA h0e hk hne sA bbA hys nA).mono ?_); rintro e w3 ⟨v3, rfl, o3, on3⟩; have k3 := on3.above k2 (fun b hb => (own_fp O2.out.1 b hb).1); have O3 := Lib.hid o3; clear o3 on3 oA sA bbA nA) | (go_at_call 41; have oA := O2.out; have sA := k2.size; have bbA := vC.only on2 (by simp); have nA : ∀ b ∈ fp v2, wq.heap.size ≠ b := (fun b hb => by have := L2.out b hb; simp at this; omega); (with_reducible refine (insE_any _ x.elems y k _ _ _ oA h0e hk hne sA bbA hys nA).mono ?_); rintro e w3 ⟨v3, rfl, o3, on3⟩; have k3 := on3.above k2 (fun b hb => (own_fp O2.out.1 b hb).1); have O3 := Lib.hid o3; clear o3 on3 oA sA bbA nA) | (go_at_call 40; refine (asCode_is X bb _ _ x _ _ wq.heap.size HX.out HBB.out (H0.out.kept (K1q.trans k3)) O3.out k3.size (by omega)).mono ?_; rintro e w4 ⟨v4, rfl, o4, k4⟩; have k14 := k3.trans k4; obtain ⟨na, ma, rfl, pa, qa, nda⟩ := o4; obtain ⟨Aa, ca, rfl, _⟩ := own_form pa.1; obtain ⟨Da, da, rfl, _⟩ := own_form qa; have OR : Hid (OwnK w4 wq.heap.size (.agg #[.slice Aa X.elems.length ca, .slice Da X.limits.length da, .int .i64 X.repeats, .int .i64 X.bonus, .int .i64 X.keeps, .int .i64 X.fall]) X) := (⟨_, _, rfl, pa, qa, nda⟩ : OwnK w4 wq.heap.size _ X); clear pa qa nda; have hS6 := HSK6.out _ k14; obtain ⟨cc, ff⟩ := (B1q.kept k14).six))
        all_goals
          rename_i hheld
          clear hheld cc ff hS6
          obtain ⟨w9, hw9, B9, Q9⟩ := set6 (B1q.kept k14) (.slice Aa X.elems.length ca) (.slice Da X.limits.length da) (.int .i64 X.repeats) (.int .i64 X.bonus) (.int .i64 X.keeps) (.int .i64 X.fall)
          rw [← hw9]
          clear hw9
          obtain ⟨cc, ff⟩ := B9.six
          go_wp2_with fail
          refine bodyPost_ret (v := .tuple #[.agg #[.slice Aa X.elems.length ca, .slice Da X.limits.length da, .int .i64 X.repeats, .int .i64 X.bonus, .int .i64 X.keeps, .int .i64 X.fall], .bool bb]) (by simp [results, Try.results13, go_sem, cc, ff]) rfl ⟨_, by rw [adB_yes HB.out HAT.out, HBB.out], ?_, Q9.above (K1q.trans k14) (by simp; omega)⟩
          rw [adV_yes HB.out HAT.out, HX.out]
          exact OwnK.far OR.out Q9 (by simp; omega) (by omega)
      · have hd : decide ((k : Int) < (x.elems.length : Int)) = false := by simp; omega
        have hd2 : decide (k < x.elems.length) = false := by simp; omega
        go_wp2_with fail
        go_quiet (fail)
        rename_i nq
        clear x0 y0 xe ye hd hd2
        go_upto_region 6 with (fail)
        have kq : Kept w1 (wr.drewN nq) := hkept.drewN nq
        have B0q : Box (wr.drewN nq) w.heap.size 32 #[.slice A x.elems.length c, .slice A2 x.limits.length c2, .int .i64 x.repeats, .int .i64 x.bonus, .int .i64 x.keeps, .int .i64 x.fall] := B0r
        have BEq : Box (wr.drewN nq) (w.heap.size + 1) 36 #[.string y.name, .int .i64 y.family, .int .i64 y.level, .int .i64 y.base] := BEr
        have B1q : Box (wr.drewN nq) (w.heap.size + 1 + 1) 32 #[.slice none 0 0, .slice none 0 0, .int .i64 0, .int .i64 0, .int .i64 0, .int .i64 0] := B1.kept kq
        clear B0r BEr hkept
        generalize wr.drewN nq = wq at *
        have K1q : Kept w wq := K1.trans kq
        have hzq : w.heap.size + 1 + 1 < wq.heap.size := B1q.lt
        have HEQ := Lib.hid (HE.out.kept K1q)
        have h0e : 0 < x.elems.length := by omega
        have hne : x.elems.length ≤ 1000000 := by omega
        have HSK : Hid (∀ w' : World, Kept wq w' → (w'.cell? ⟨w.heap.size, 0, none⟩ = some (.slice A x.elems.length c) ∧ w'.cell? ⟨w.heap.size, 1, none⟩ = some (.slice A2 x.limits.length c2) ∧ w'.cell? ⟨w.heap.size, 2, none⟩ = some (.int .i64 x.repeats) ∧ w'.cell? ⟨w.heap.size, 3, none⟩ = some (.int .i64 x.bonus) ∧ w'.cell? ⟨w.heap.size, 4, none⟩ = some (.int .i64 x.keeps) ∧ w'.cell? ⟨w.heap.size, 5, none⟩ = some (.int .i64 x.fall)) ∧ (w'.cell? ⟨w.heap.size + 1, 0, none⟩ = some (.string y.name) ∧ w'.cell? ⟨w.heap.size + 1, 1, none⟩ = some (.int .i64 y.family) ∧ w'.cell? ⟨w.heap.size + 1, 2, none⟩ = some (.int .i64 y.level) ∧ w'.cell? ⟨w.heap.size + 1, 3, none⟩ = some (.int .i64 y.base))) := fun w' hk => ⟨(B0q.kept hk).six.1, (BEq.kept hk).four.1⟩
        have HSK6 : Hid (∀ W : World, Kept wq W → ∀ u0 u1 u2 u3 u4 u5, (((((((W.setCell ⟨w.heap.size + 1 + 1, 0, none⟩ u0).setCell ⟨w.heap.size + 1 + 1, 1, none⟩ u1).setCell ⟨w.heap.size + 1 + 1, 2, none⟩ u2).setCell ⟨w.heap.size + 1 + 1, 3, none⟩ u3).setCell ⟨w.heap.size + 1 + 1, 4, none⟩ u4).setCell ⟨w.heap.size + 1 + 1, 5, none⟩ u5).cell? ⟨w.heap.size, 0, none⟩ = some (.slice A x.elems.length c) ∧ ((((((W.setCell ⟨w.heap.size + 1 + 1, 0, none⟩ u0).setCell ⟨w.heap.size + 1 + 1, 1, none⟩ u1).setCell ⟨w.heap.size + 1 + 1, 2, none⟩ u2).setCell ⟨w.heap.size + 1 + 1, 3, none⟩ u3).setCell ⟨w.heap.size + 1 + 1, 4, none⟩ u4).setCell ⟨w.heap.size + 1 + 1, 5, none⟩ u5).cell? ⟨w.heap.size, 1, none⟩ = some (.slice A2 x.limits.length c2) ∧ ((((((W.setCell ⟨w.heap.size + 1 + 1, 0, none⟩ u0).setCell ⟨w.heap.size + 1 + 1, 1, none⟩ u1).setCell ⟨w.heap.size + 1 + 1, 2, none⟩ u2).setCell ⟨w.heap.size + 1 + 1, 3, none⟩ u3).setCell ⟨w.heap.size + 1 + 1, 4, none⟩ u4).setCell ⟨w.heap.size + 1 + 1, 5, none⟩ u5).cell? ⟨w.heap.size, 2, none⟩ = some (.int .i64 x.repeats) ∧ ((((((W.setCell ⟨w.heap.size + 1 + 1, 0, none⟩ u0).setCell ⟨w.heap.size + 1 + 1, 1, none⟩ u1).setCell ⟨w.heap.size + 1 + 1, 2, none⟩ u2).setCell ⟨w.heap.size + 1 + 1, 3, none⟩ u3).setCell ⟨w.heap.size + 1 + 1, 4, none⟩ u4).setCell ⟨w.heap.size + 1 + 1, 5, none⟩ u5).cell? ⟨w.heap.size, 3, none⟩ = some (.int .i64 x.bonus) ∧ ((((((W.setCell ⟨w.heap.size + 1 + 1, 0, none⟩ u0).setCell ⟨w.heap.size + 1 + 1, 1, none⟩ u1).setCell ⟨w.heap.size + 1 + 1, 2, none⟩ u2).setCell ⟨w.heap.size + 1 + 1, 3, none⟩ u3).setCell ⟨w.heap.size + 1 + 1, 4, none⟩ u4).setCell ⟨w.heap.size + 1 + 1, 5, none⟩ u5).cell? ⟨w.heap.size, 4, none⟩ = some (.int .i64 x.keeps) ∧ ((((((W.setCell ⟨w.heap.size + 1 + 1, 0, none⟩ u0).setCell ⟨w.heap.size + 1 + 1, 1, none⟩ u1).setCell ⟨w.heap.size + 1 + 1, 2, none⟩ u2).setCell ⟨w.heap.size + 1 + 1, 3, none⟩ u3).setCell ⟨w.heap.size + 1 + 1, 4, none⟩ u4).setCell ⟨w.heap.size + 1 + 1, 5, none⟩ u5).cell? ⟨w.heap.size, 5, none⟩ = some (.int .i64 x.fall)) ∧ (((((((W.setCell ⟨w.heap.size + 1 + 1, 0, none⟩ u0).setCell ⟨w.heap.size + 1 + 1, 1, none⟩ u1).setCell ⟨w.heap.size + 1 + 1, 2, none⟩ u2).setCell ⟨w.heap.size + 1 + 1, 3, none⟩ u3).setCell ⟨w.heap.size + 1 + 1, 4, none⟩ u4).setCell ⟨w.heap.size + 1 + 1, 5, none⟩ u5).cell? ⟨w.heap.size + 1, 0, none⟩ = some (.string y.name) ∧ ((((((W.setCell ⟨w.heap.size + 1 + 1, 0, none⟩ u0).setCell ⟨w.heap.size + 1 + 1, 1, none⟩ u1).setCell ⟨w.heap.size + 1 + 1, 2, none⟩ u2).setCell ⟨w.heap.size + 1 + 1, 3, none⟩ u3).setCell ⟨w.heap.size + 1 + 1, 4, none⟩ u4).setCell ⟨w.heap.size + 1 + 1, 5, none⟩ u5).cell? ⟨w.heap.size + 1, 1, none⟩ = some (.int .i64 y.family) ∧ ((((((W.setCell ⟨w.heap.size + 1 + 1, 0, none⟩ u0).setCell ⟨w.heap.size + 1 + 1, 1, none⟩ u1).setCell ⟨w.heap.size + 1 + 1, 2, none⟩ u2).setCell ⟨w.heap.size + 1 + 1, 3, none⟩ u3).setCell ⟨w.heap.size + 1 + 1, 4, none⟩ u4).setCell ⟨w.heap.size + 1 + 1, 5, none⟩ u5).cell? ⟨w.heap.size + 1, 2, none⟩ = some (.int .i64 y.level) ∧ ((((((W.setCell ⟨w.heap.size + 1 + 1, 0, none⟩ u0).setCell ⟨w.heap.size + 1 + 1, 1, none⟩ u1).setCell ⟨w.heap.size + 1 + 1, 2, none⟩ u2).setCell ⟨w.heap.size + 1 + 1, 3, none⟩ u3).setCell ⟨w.heap.size + 1 + 1, 4, none⟩ u4).setCell ⟨w.heap.size + 1 + 1, 5, none⟩ u5).cell? ⟨w.heap.size + 1, 3, none⟩ = some (.int .i64 y.base))) := fun W hk u0 u1 u2 u3 u4 u5 => ⟨(Box.far6 (B0q.kept hk) (by omega) u0 u1 u2 u3 u4 u5).six.1, (Box.far6 (BEq.kept hk) (by omega) u0 u1 u2 u3 u4 u5).four.1⟩
        have bA : Box (wq.alloc (.cells #[] 36)).drew wq.heap.size 36 #[] := Box.new wq _ _ _ rfl
        have bB : Box ((wq.alloc (.cells #[] 36)).alloc (.cells #[.string y.name, .int .i64 y.family, .int .i64 y.level, .int .i64 y.base] 36)).drew wq.heap.size 36 #[] := (Box.new wq wq.heap.size _ _ rfl).alloc _
        have bC : Box ((wq.alloc (.cells #[.string y.name, .int .i64 y.family, .int .i64 y.level, .int .i64 y.base] 36)).alloc (.cells #[] 36)).drew (wq.heap.size + 1) 36 #[] := Box.new (wq.alloc (.cells #[.string y.name, .int .i64 y.family, .int .i64 y.level, .int .i64 y.base] 36)) _ _ _ (by simp)
        have vB : Box ((wq.alloc (.cells #[] 36)).alloc (.cells #[.string y.name, .int .i64 y.family, .int .i64 y.level, .int .i64 y.base] 36)).drew (wq.heap.size + 1) 36 #[.string y.name, .int .i64 y.family, .int .i64 y.level, .int .i64 y.base] := Box.new (wq.alloc (.cells #[] 36)) _ _ _ (by simp)
        have vC : Box ((wq.alloc (.cells #[.string y.name, .int .i64 y.family, .int .i64 y.level, .int .i64 y.base] 36)).alloc (.cells #[] 36)).drew wq.heap.size 36 #[.string y.name, .int .i64 y.family, .int .i64 y.level, .int .i64 y.base] := (Box.new wq wq.heap.size _ _ rfl).alloc _
        obtain ⟨X, hX⟩ : ∃ X, ifC (addC x y k) = X := ⟨_, rfl⟩
        obtain ⟨bb, hbb⟩ : ∃ bb, codeB (addC x y k) = bb := ⟨_, rfl⟩
        have HX := Lib.hid hX
        have HBB := Lib.hid hbb
        clear hX hbb
        go_region_held3 (fun w' => (w'.cell? ⟨w.heap.size, 0, none⟩ = some (.slice A x.elems.length c) ∧ w'.cell? ⟨w.heap.size, 1, none⟩ = some (.slice A2 x.limits.length c2) ∧ w'.cell? ⟨w.heap.size, 2, none⟩ = some (.int .i64 x.repeats) ∧ w'.cell? ⟨w.heap.size, 3, none⟩ = some (.int .i64 x.bonus) ∧ w'.cell? ⟨w.heap.size, 4, none⟩ = some (.int .i64 x.keeps) ∧ w'.cell? ⟨w.heap.size, 5, none⟩ = some (.int .i64 x.fall)) ∧ (w'.cell? ⟨w.heap.size + 1, 0, none⟩ = some (.string y.name) ∧ w'.cell? ⟨w.heap.size + 1, 1, none⟩ = some (.int .i64 y.family) ∧ w'.cell? ⟨w.heap.size + 1, 2, none⟩ = some (.int .i64 y.level) ∧ w'.cell? ⟨w.heap.size + 1, 3, none⟩ = some (.int .i64 y.base))) (first | (with_reducible exact hS6 _ _ _ _ _ _) | (with_reducible exact HSK.out _ (Kept.refl wq).drew) | (with_reducible exact HSK.out _ ((Kept.refl wq).alloc _).drew) | (with_reducible exact HSK.out _ (((Kept.refl wq).alloc _).alloc _).drew) | (with_reducible exact HSK.out _ (by assumption)) | (with_reducible exact HSK.out _ (Kept.alloc (by assumption) _)) | (with_reducible exact HSK6.out _ (by assumption) _ _ _ _ _ _)) (first | (refine step_append_E0 wq _ rfl (.tmp 30) (.tmp 32) rfl _ rfl (by first | with_reducible exact bA | with_reducible exact bB | with_reducible exact bC) (by first | with_reducible exact ((Kept.refl wq).alloc _).drew | with_reducible exact (((Kept.refl wq).alloc _).alloc _).drew) (by first | exact Nat.le_refl _ | omega) _ x.elems rfl HEQ.out (by omega) ?_; intro v2 w2 o2 k2 on2 loc2; have O2 := Lib.hid o2; have L2 := Lib.hid loc2; clear o2 loc2) | (go_at_call 41; have oA := O2.out.kept ((Kept.refl w2).alloc (.cells #[.string y.name, .int .i64 y.family, .int .i64 y.level, .int .i64 y.base] 36)); have sA := (k2.alloc (.cells #[.string y.name, .int .i64 y.family, .int .i64 y.level, .int .i64 y.base] 36)).size; have bbA := Box.new w2 w2.heap.size 36 #[.string y.name, .int .i64 y.family, .int .i64 y.level, .int .i64 y.base] rfl; have nA : ∀ b ∈ fp v2, w2.heap.size ≠ b := (fun b hb => by have := own_fp O2.out.1 b hb; omega); (with_reducible refine (insE_any _ x.elems y k _ _ _ oA h0e hk hne sA bbA hys nA).mono ?_); rintro e w3 ⟨v3, rfl, o3, on3⟩; have k3 := on3.above (k2.alloc _) (fun b hb => (own_fp O2.out.1 b hb).1); have O3 := Lib.hid o3; clear o3 on3 oA sA bbA nA) | (go_at_call 41; have oA := O2.out; have sA := k2.size; have bbA := vB.only on2 (by simp); have nA : ∀ b ∈ fp v2, wq.heap.size + 1 ≠ b := (fun b hb => by have := L2.out b hb; simp at this; omega); (with_reducible refine (insE_any _ x.elems y k _ _ _ oA h0e hk hne sA bbA hys nA).mono ?_); rintro e w3 ⟨v3, rfl, o3, on3⟩; have k3 := on3.above k2 (fun b hb => (own_fp O2.out.1 b hb).1); have O3 := Lib.hid o3; clear o3 on3 oA sA bbA nA) | (go_at_call 41; have oA := O2.out; have sA := k2.size; have bbA := vC.only on2 (by simp); have nA : ∀ b ∈ fp v2, wq.heap.size ≠ b := (fun b hb => by have := L2.out b hb; simp at this; omega); (with_reducible refine (insE_any _ x.elems y k _ _ _ oA h0e hk hne sA bbA hys nA).mono ?_); rintro e w3 ⟨v3, rfl, o3, on3⟩; have k3 := on3.above k2 (fun b hb => (own_fp O2.out.1 b hb).1); have O3 := Lib.hid o3; clear o3 on3 oA sA bbA nA) | (go_at_call 40; refine (asCode_is X bb _ _ x _ _ wq.heap.size HX.out HBB.out (H0.out.kept (K1q.trans k3)) O3.out k3.size (by omega)).mono ?_; rintro e w4 ⟨v4, rfl, o4, k4⟩; have k14 := k3.trans k4; obtain ⟨na, ma, rfl, pa, qa, nda⟩ := o4; obtain ⟨Aa, ca, rfl, _⟩ := own_form pa.1; obtain ⟨Da, da, rfl, _⟩ := own_form qa; have OR : Hid (OwnK w4 wq.heap.size (.agg #[.slice Aa X.elems.length ca, .slice Da X.limits.length da, .int .i64 X.repeats, .int .i64 X.bonus, .int .i64 X.keeps, .int .i64 X.fall]) X) := (⟨_, _, rfl, pa, qa, nda⟩ : OwnK w4 wq.heap.size _ X); clear pa qa nda; have hS6 := HSK6.out _ k14; obtain ⟨cc, ff⟩ := (B1q.kept k14).six))
        all_goals
          rename_i hheld
          clear hheld cc ff hS6
          obtain ⟨w9, hw9, B9, Q9⟩ := set6 (B1q.kept k14) (.slice Aa X.elems.length ca) (.slice Da X.limits.length da) (.int .i64 X.repeats) (.int .i64 X.bonus) (.int .i64 X.keeps) (.int .i64 X.fall)
          rw [← hw9]
          clear hw9
          obtain ⟨cc, ff⟩ := B9.six
          go_wp2_with fail
          refine bodyPost_ret (v := .tuple #[.agg #[.slice Aa X.elems.length ca, .slice Da X.limits.length da, .int .i64 X.repeats, .int .i64 X.bonus, .int .i64 X.keeps, .int .i64 X.fall], .bool bb]) (by simp [results, Try.results13, go_sem, cc, ff]) rfl ⟨_, by rw [adB_yes HB.out HAT.out, HBB.out], ?_, Q9.above (K1q.trans k14) (by simp; omega)⟩
          rw [adV_yes HB.out HAT.out, HX.out]
          exact OwnK.far OR.out Q9 (by simp; omega) (by omega)
end Go.Proofs.Ytpkmngkepmoikaa
