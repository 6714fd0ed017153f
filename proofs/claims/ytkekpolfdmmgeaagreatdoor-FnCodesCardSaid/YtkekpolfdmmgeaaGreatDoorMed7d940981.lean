/- Contracts of functions that the proof leans on. No condition. -/
import Derived.Test.YtkekpolfdmmgeaaGreatDoorM9b27dd7ec8
import Derived.Sort.Walk0
import Derived.Lib.SlicesCompact
import Derived.Lib.Strings
import Derived.Below
/- Codes: AddElement. -/
namespace Go.Proofs.YtkekpolfdmmgeaaGreatDoor
set_option linter.unusedVariables false
set_option linter.unusedSimpArgs false
open Go.RowKit

def lessB (y e : ElemD) : Bool := Op.bytesLess e.name.toList y.name.toList
def insAt (es : List ElemD) (y : ElemD) : Nat := (es.takeWhile (lessB y)).length
theorem insAt_is : ∀ {es : List ElemD} {y : ElemD} {k : Nat}, (∀ j z, j < k → es[j]? = some z → lessB y z = true) → k ≤ es.length → (∀ z, es[k]? = some z → lessB y z = false) → insAt es y = k
  | [], y, k, _, hk, _ => by simp at hk; subst hk; rfl
  | e :: es, y, 0, _, _, h2 => by
    have := h2 e rfl
    simp [insAt, List.takeWhile_cons, this]
  | e :: es, y, k + 1, h1, hk, h2 => by
    have h0 := h1 0 e (by omega) rfl
    have := insAt_is (es := es) (y := y) (k := k) (fun j z hj hz => h1 (j + 1) z (by omega) (by simpa using hz)) (by simpa using hk) (fun z hz => h2 z (by simpa using hz))
    unfold insAt at *
    rw [List.takeWhile_cons, h0, if_pos rfl, List.length_cons, this]
theorem less_snoc {es : List ElemD} {y e : ElemD} {k : Nat} (h : es[k]? = some e) (he : lessB y e = true) (ha : ∀ j z, j < k → es[j]? = some z → lessB y z = true) : ∀ j z, j < k + 1 → es[j]? = some z → lessB y z = true := by
  intro j z hj hz
  rcases Nat.lt_or_eq_of_le (Nat.le_of_lt_succ hj) with h1 | rfl
  · exact ha j z h1 hz
  · rw [h] at hz
    injection hz with hz
    subst hz
    exact he
def addC (x : CodeD) (y : ElemD) (k : Nat) : CodeD := { x with elems := x.elems.take k ++ y :: x.elems.drop k }
def adB (x : CodeD) (y : ElemD) : Bool := codeB x && codeB (addC x y (insAt x.elems y))
def adV (x : CodeD) (y : ElemD) : CodeD := if codeB x then ifC (addC x y (insAt x.elems y)) else zeroC
theorem adV_no {x : CodeD} {y : ElemD} (h : codeB x = false) : adV x y = zeroC := by unfold adV; rw [h]; rfl
theorem adB_no {x : CodeD} {y : ElemD} (h : codeB x = false) : adB x y = false := by unfold adB; rw [h]; rfl
theorem adV_yes {x : CodeD} {y : ElemD} {k : Nat} (h : codeB x = true) (hk : insAt x.elems y = k) : adV x y = ifC (addC x y k) := by unfold adV; rw [h, hk]; rfl
theorem adB_yes {x : CodeD} {y : ElemD} {k : Nat} (h : codeB x = true) (hk : insAt x.elems y = k) : adB x y = codeB (addC x y k) := by unfold adB; rw [h, hk, Bool.true_and]
theorem adV_len (x : CodeD) (y : ElemD) : (adV x y).elems.length ≤ 24 ∧ (adV x y).limits.length ≤ 5 := by
  by_cases h : codeB x = true
  · unfold adV; rw [h]; exact ifC_len _
  · simp only [Bool.not_eq_true] at h
    rw [adV_no h]
    exact ⟨by simp [zeroC], by simp [zeroC]⟩
set_option maxRecDepth 100000 in
set_option maxHeartbeats 8000000 in
theorem addElement_any (v ve : Value) (x : CodeD) (y : ElemD) (w : World) (h : CodeAt w v x) (he : ElemAt w ve y) :
    Calls Tryz.prog 9 #[v, ve] w fun e w' => ∃ v', e = .returned (.tuple #[v', .bool (adB x y)]) ∧ OwnK w' w.heap.size v' (adV x y) ∧ Kept w w' := by
  have h0 := h
  obtain ⟨nv, mv, rfl, q1, q2⟩ := h
  obtain ⟨A, c, rfl, hnc, hcm, hl⟩ := q1.1.out
  obtain ⟨A2, c2, rfl, _, _, _⟩ := q2.out
  unfold maxLen at hcm
  have HL := Lib.hid hl
  have HS := Lib.hid q1.2
  have H0 := Lib.hid h0
  have HE := Lib.hid q1
  clear h0 q1 q2 hl
  obtain ⟨rfl, hys⟩ := he
  go_enter Tryz.func9, Tryz.ntmps9
  go_wp2_with fail
  have B0 := ((Box.new w w.heap.size 26 #[.slice A x.elems.length c, .slice A2 x.limits.length c2, .int .i64 x.repeats, .int .i64 x.bonus, .int .i64 x.keeps, .int .i64 x.fall] rfl).alloc (.cells #[.string y.name, .int .i64 y.family, .int .i64 y.level, .int .i64 y.base] 31)).alloc (.cells #[.slice none 0 0, .slice none 0 0, .int .i64 0, .int .i64 0, .int .i64 0, .int .i64 0] 26)
  have BE := (Box.new (w.alloc (.cells #[.slice A x.elems.length c, .slice A2 x.limits.length c2, .int .i64 x.repeats, .int .i64 x.bonus, .int .i64 x.keeps, .int .i64 x.fall] 26)) (w.heap.size + 1) 31 #[.string y.name, .int .i64 y.family, .int .i64 y.level, .int .i64 y.base] (by simp)).alloc (.cells #[.slice none 0 0, .slice none 0 0, .int .i64 0, .int .i64 0, .int .i64 0, .int .i64 0] 26)
  have B1 := Box.new ((w.alloc (.cells #[.slice A x.elems.length c, .slice A2 x.limits.length c2, .int .i64 x.repeats, .int .i64 x.bonus, .int .i64 x.keeps, .int .i64 x.fall] 26)).alloc (.cells #[.string y.name, .int .i64 y.family, .int .i64 y.level, .int .i64 y.base] 31)) (w.heap.size + 1 + 1) 26 #[.slice none 0 0, .slice none 0 0, .int .i64 0, .int .i64 0, .int .i64 0, .int .i64 0] (by simp)
  have K0 : Kept w (((w.alloc (.cells #[.slice A x.elems.length c, .slice A2 x.limits.length c2, .int .i64 x.repeats, .int .i64 x.bonus, .int .i64 x.keeps, .int .i64 x.fall] 26)).alloc (.cells #[.string y.name, .int .i64 y.family, .int .i64 y.level, .int .i64 y.base] 31)).alloc (.cells #[.slice none 0 0, .slice none 0 0, .int .i64 0, .int .i64 0, .int .i64 0, .int .i64 0] 26)) := (((Kept.refl w).alloc _).alloc _).alloc _
  generalize ((w.alloc (.cells #[.slice A x.elems.length c, .slice A2 x.limits.length c2, .int .i64 x.repeats, .int .i64 x.bonus, .int .i64 x.keeps, .int .i64 x.fall] 26)).alloc (.cells #[.string y.name, .int .i64 y.family, .int .i64 y.level, .int .i64 y.base] 31)).alloc (.cells #[.slice none 0 0, .slice none 0 0, .int .i64 0, .int .i64 0, .int .i64 0, .int .i64 0] 26) = w0 at *
  have hzw : w.heap.size + 1 + 1 < w0.heap.size := B1.lt
  refine (isCode_any _ x _ (H0.out.kept K0)).mono ?_
  rintro e w1 ⟨rfl, k1⟩
  replace B0 := B0.kept k1
  replace BE := BE.kept k1
  replace B1 := B1.kept k1
  have K1 := K0.trans k1
  have hz1 := k1.size
  clear K0 k1
  by_cases hb : codeB x = true
  case neg =>
    simp only [Bool.not_eq_true] at hb
    have HB := Lib.hid hb
    rw [hb]
    clear hb
    go_upto_region 2 with (fail)
    obtain ⟨x1, y1⟩ := B1.six
    go_wp2_with fail
    clear x1 y1
    obtain ⟨w3, hw3, B3, Q3⟩ := set6 B1 (.slice none 0 0) (.slice none 0 0) (.int .i64 0) (.int .i64 0) (.int .i64 0) (.int .i64 0)
    rw [← hw3]
    clear hw3
    obtain ⟨cc, ff⟩ := B3.six
    exact bodyPost_ret (v := .tuple #[.agg #[.slice none 0 0, .slice none 0 0, .int .i64 0, .int .i64 0, .int .i64 0, .int .i64 0], .bool false]) (by simp [results, Tryz.results9, go_sem, cc, ff]) rfl ⟨_, by rw [adB_no HB.out], by rw [adV_no HB.out]; exact zeroC_own _ _, Q3.above K1 (by simp <;> omega)⟩
  have HB := Lib.hid hb
  have hl24 := (codeB_heads hb).1.2
  have hl1 := (codeB_heads hb).1.1
  have hl5 : x.limits.length ≤ 5 := Nat.le_of_eq (codeB_heads hb).2
  rw [hb]
  clear hb
  go_wp2_with fail
  go_loopw [6] (fun i wr => ∃ k : Nat, k ≤ x.elems.length ∧ i = .int .i64 k ∧ (∀ j z, j < k → x.elems[j]? = some z → lessB y z = true) ∧ Kept w1 wr) (fun i _ => x.elems.length - (intOf i).toNat)
  case atStart => exact ⟨0, Nat.zero_le _, rfl, (fun j _ hj => absurd hj (Nat.not_lt_zero j)), Kept.refl _⟩
  case round =>
    obtain ⟨k, hk, rfl, ha, hkept⟩ := hrel
    have HA := Lib.hid ha
    clear ha
    have B0r := B0.kept hkept
    have BEr := BE.kept hkept
    obtain ⟨x0, y0⟩ := B0r.six
    obtain ⟨xe, ye⟩ := BEr.four
    by_cases hP : ∃ e, x.elems[k]? = some e ∧ lessB y e = true
    · obtain ⟨e, h2, he⟩ := hP
      have hlt : k < x.elems.length := (List.getElem?_eq_some_iff.1 h2).1
      obtain ⟨b, o, e', rfl, hb', h2', q0, q1, q2, q3⟩ := elems_at (HL.out.kept (K1.trans hkept)) hlt
      rw [h2] at h2'
      injection h2' with h2'
      subst h2'
      have HE2 := Lib.hid h2
      have HEE := Lib.hid he
      have hd : decide ((k : Int) < (x.elems.length : Int)) = true := by simp; omega
      have hlt' : (k : Int) < (x.elems.length : Int) := by omega
      unfold lessB at he
      clear h2
      go_wp2_with fail
      go_quiet (fail)
      go_wp2_with fail
      go_roundw
      case rel => exact ⟨k + 1, by omega, by go_num, less_snoc HE2.out HEE.out HA.out, hkept.drewN _⟩
      case measure => simp [intOf]; omega
    · have HAT : Hid (insAt x.elems y = k) := insAt_is HA.out hk (fun z hz => by
        cases hq : lessB y z with
        | false => rfl
        | true => exact absurd ⟨z, hz, hq⟩ hP)
      have hdis : k < x.elems.length ∨ ¬ k < x.elems.length := Nat.lt_or_ge k x.elems.length |>.imp id Nat.not_lt.2
      have HSTOP : Hid (∀ hlt : k < x.elems.length, ∀ e, x.elems[k]? = some e → lessB y e = false) := fun _ e he => by
        cases hq : lessB y e with
        | false => rfl
        | true => exact absurd ⟨e, he, hq⟩ hP
      clear hP
      have FINISH : ∀ wr2, Kept wr wr2 → True := fun _ _ => trivial
      clear FINISH
      rcases hdis with hlt | hge
      · obtain ⟨b, o, e, rfl, hb', h2, q0, q1, q2, q3⟩ := elems_at (HL.out.kept (K1.trans hkept)) hlt
        have he := HSTOP.out hlt e h2
        have hd : decide ((k : Int) < (x.elems.length : Int)) = true := by simp; omega
        have hlt' : (k : Int) < (x.elems.length : Int) := by omega
        unfold lessB at he
        clear h2
        go_wp2_with fail
        go_quiet (fail)
        rename_i nq
        clear x0 y0 xe ye q0 q1 q2 q3 he hd
        go_upto_region 6 with (fail)
        have kq : Kept w1 (wr.drewN nq) := hkept.drewN nq
        have B0q : Box (wr.drewN nq) w.heap.size 26 #[.slice (some ⟨b, o, none⟩) x.elems.length c, .slice A2 x.limits.length c2, .int .i64 x.repeats, .int .i64 x.bonus, .int .i64 x.keeps, .int .i64 x.fall] := B0r
        have BEq : Box (wr.drewN nq) (w.heap.size + 1) 31 #[.string y.name, .int .i64 y.family, .int .i64 y.level, .int .i64 y.base] := BEr
        have B1q : Box (wr.drewN nq) (w.heap.size + 1 + 1) 26 #[.slice none 0 0, .slice none 0 0, .int .i64 0, .int .i64 0, .int .i64 0, .int .i64 0] := B1.kept kq
        clear B0r BEr hkept
        generalize wr.drewN nq = wq at *
        have K1q : Kept w wq := K1.trans kq
        have hzq : w.heap.size + 1 + 1 < wq.heap.size := B1q.lt
        have HEQ := Lib.hid (HE.out.kept K1q)
        have h0e : 0 < x.elems.length := by omega
        have hne : x.elems.length ≤ 1000000 := by omega
        have HSK : Hid (∀ w' : World, Kept wq w' → (w'.cell? ⟨w.heap.size, 0, none⟩ = some (.slice (some ⟨b, o, none⟩) x.elems.length c) ∧ w'.cell? ⟨w.heap.size, 1, none⟩ = some (.slice A2 x.limits.length c2) ∧ w'.cell? ⟨w.heap.size, 2, none⟩ = some (.int .i64 x.repeats) ∧ w'.cell? ⟨w.heap.size, 3, none⟩ = some (.int .i64 x.bonus) ∧ w'.cell? ⟨w.heap.size, 4, none⟩ = some (.int .i64 x.keeps) ∧ w'.cell? ⟨w.heap.size, 5, none⟩ = some (.int .i64 x.fall)) ∧ (w'.cell? ⟨w.heap.size + 1, 0, none⟩ = some (.string y.name) ∧ w'.cell? ⟨w.heap.size + 1, 1, none⟩ = some (.int .i64 y.family) ∧ w'.cell? ⟨w.heap.size + 1, 2, none⟩ = some (.int .i64 y.level) ∧ w'.cell? ⟨w.heap.size + 1, 3, none⟩ = some (.int .i64 y.base))) := fun w' hk => ⟨(B0q.kept hk).six.1, (BEq.kept hk).four.1⟩
        have HSK6 : Hid (∀ W : World, Kept wq W → ∀ u0 u1 u2 u3 u4 u5, (((((((W.setCell ⟨w.heap.size + 1 + 1, 0, none⟩ u0).setCell ⟨w.heap.size + 1 + 1, 1, none⟩ u1).setCell ⟨w.heap.size + 1 + 1, 2, none⟩ u2).setCell ⟨w.heap.size + 1 + 1, 3, none⟩ u3).setCell ⟨w.heap.size + 1 + 1, 4, none⟩ u4).setCell ⟨w.heap.size + 1 + 1, 5, none⟩ u5).cell? ⟨w.heap.size, 0, none⟩ = some (.slice (some ⟨b, o, none⟩) x.elems.length c) ∧ ((((((W.setCell ⟨w.heap.size + 1 + 1, 0, none⟩ u0).setCell ⟨w.heap.size + 1 + 1, 1, none⟩ u1).setCell ⟨w.heap.size + 1 + 1, 2, none⟩ u2).setCell ⟨w.heap.size + 1 + 1, 3, none⟩ u3).setCell ⟨w.heap.size + 1 + 1, 4, none⟩ u4).setCell ⟨w.heap.size + 1 + 1, 5, none⟩ u5).cell? ⟨w.heap.size, 1, none⟩ = some (.slice A2 x.limits.length c2) ∧ ((((((W.setCell ⟨w.heap.size + 1 + 1, 0, none⟩ u0).setCell ⟨w.heap.size + 1 + 1, 1, none⟩ u1).setCell ⟨w.heap.size + 1 + 1, 2, none⟩ u2).setCell ⟨w.heap.size + 1 + 1, 3, none⟩ u3).setCell ⟨w.heap.size + 1 + 1, 4, none⟩ u4).setCell ⟨w.heap.size + 1 + 1, 5, none⟩ u5).cell? ⟨w.heap.size, 2, none⟩ = some (.int .i64 x.repeats) ∧ ((((((W.setCell ⟨w.heap.size + 1 + 1, 0, none⟩ u0).setCell ⟨w.heap.size + 1 + 1, 1, none⟩ u1).setCell ⟨w.heap.size + 1 + 1, 2, none⟩ u2).setCell ⟨w.heap.size + 1 + 1, 3, none⟩ u3).setCell ⟨w.heap.size + 1 + 1, 4, none⟩ u4).setCell ⟨w.heap.size + 1 + 1, 5, none⟩ u5).cell? ⟨w.heap.size, 3, none⟩ = some (.int .i64 x.bonus) ∧ ((((((W.setCell ⟨w.heap.size + 1 + 1, 0, none⟩ u0).setCell ⟨w.heap.size + 1 + 1, 1, none⟩ u1).setCell ⟨w.heap.size + 1 + 1, 2, none⟩ u2).setCell ⟨w.heap.size + 1 + 1, 3, none⟩ u3).setCell ⟨w.heap.size + 1 + 1, 4, none⟩ u4).setCell ⟨w.heap.size + 1 + 1, 5, none⟩ u5).cell? ⟨w.heap.size, 4, none⟩ = some (.int .i64 x.keeps) ∧ ((((((W.setCell ⟨w.heap.size + 1 + 1, 0, none⟩ u0).setCell ⟨w.heap.size + 1 + 1, 1, none⟩ u1).setCell ⟨w.heap.size + 1 + 1, 2, none⟩ u2).setCell ⟨w.heap.size + 1 + 1, 3, none⟩ u3).setCell ⟨w.heap.size + 1 + 1, 4, none⟩ u4).setCell ⟨w.heap.size + 1 + 1, 5, none⟩ u5).cell? ⟨w.heap.size, 5, none⟩ = some (.int .i64 x.fall)) ∧ (((((((W.setCell ⟨w.heap.size + 1 + 1, 0, none⟩ u0).setCell ⟨w.heap.size + 1 + 1, 1, none⟩ u1).setCell ⟨w.heap.size + 1 + 1, 2, none⟩ u2).setCell ⟨w.heap.size + 1 + 1, 3, none⟩ u3).setCell ⟨w.heap.size + 1 + 1, 4, none⟩ u4).setCell ⟨w.heap.size + 1 + 1, 5, none⟩ u5).cell? ⟨w.heap.size + 1, 0, none⟩ = some (.string y.name) ∧ ((((((W.setCell ⟨w.heap.size + 1 + 1, 0, none⟩ u0).setCell ⟨w.heap.size + 1 + 1, 1, none⟩ u1).setCell ⟨w.heap.size + 1 + 1, 2, none⟩ u2).setCell ⟨w.heap.size + 1 + 1, 3, none⟩ u3).setCell ⟨w.heap.size + 1 + 1, 4, none⟩ u4).setCell ⟨w.heap.size + 1 + 1, 5, none⟩ u5).cell? ⟨w.heap.size + 1, 1, none⟩ = some (.int .i64 y.family) ∧ ((((((W.setCell ⟨w.heap.size + 1 + 1, 0, none⟩ u0).setCell ⟨w.heap.size + 1 + 1, 1, none⟩ u1).setCell ⟨w.heap.size + 1 + 1, 2, none⟩ u2).setCell ⟨w.heap.size + 1 + 1, 3, none⟩ u3).setCell ⟨w.heap.size + 1 + 1, 4, none⟩ u4).setCell ⟨w.heap.size + 1 + 1, 5, none⟩ u5).cell? ⟨w.heap.size + 1, 2, none⟩ = some (.int .i64 y.level) ∧ ((((((W.setCell ⟨w.heap.size + 1 + 1, 0, none⟩ u0).setCell ⟨w.heap.size + 1 + 1, 1, none⟩ u1).setCell ⟨w.heap.size + 1 + 1, 2, none⟩ u2).setCell ⟨w.heap.size + 1 + 1, 3, none⟩ u3).setCell ⟨w.heap.size + 1 + 1, 4, none⟩ u4).setCell ⟨w.heap.size + 1 + 1, 5, none⟩ u5).cell? ⟨w.heap.size + 1, 3, none⟩ = some (.int .i64 y.base))) := fun W hk u0 u1 u2 u3 u4 u5 => ⟨(Box.far6 (B0q.kept hk) (by omega) u0 u1 u2 u3 u4 u5).six.1, (Box.far6 (BEq.kept hk) (by omega) u0 u1 u2 u3 u4 u5).four.1⟩
        have bA : Box (wq.alloc (.cells #[] 31)).drew wq.heap.size 31 #[] := Box.new wq _ _ _ rfl
        have bB : Box ((wq.alloc (.cells #[] 31)).alloc (.cells #[.string y.name, .int .i64 y.family, .int .i64 y.level, .int .i64 y.base] 31)).drew wq.heap.size 31 #[] := (Box.new wq wq.heap.size _ _ rfl).alloc _
        have bC : Box ((wq.alloc (.cells #[.string y.name, .int .i64 y.family, .int .i64 y.level, .int .i64 y.base] 31)).alloc (.cells #[] 31)).drew (wq.heap.size + 1) 31 #[] := Box.new (wq.alloc (.cells #[.string y.name, .int .i64 y.family, .int .i64 y.level, .int .i64 y.base] 31)) _ _ _ (by simp)
        have vB : Box ((wq.alloc (.cells #[] 31)).alloc (.cells #[.string y.name, .int .i64 y.family, .int .i64 y.level, .int .i64 y.base] 31)).drew (wq.heap.size + 1) 31 #[.string y.name, .int .i64 y.family, .int .i64 y.level, .int .i64 y.base] := Box.new (wq.alloc (.cells #[] 31)) _ _ _ (by simp)
        have vC : Box ((wq.alloc (.cells #[.string y.name, .int .i64 y.family, .int .i64 y.level, .int .i64 y.base] 31)).alloc (.cells #[] 31)).drew wq.heap.size 31 #[.string y.name, .int .i64 y.family, .int .i64 y.level, .int .i64 y.base] := (Box.new wq wq.heap.size _ _ rfl).alloc _
        obtain ⟨X, hX⟩ : ∃ X, ifC (addC x y k) = X := ⟨_, rfl⟩
        obtain ⟨bb, hbb⟩ : ∃ bb, codeB (addC x y k) = bb := ⟨_, rfl⟩
        have HX := Lib.hid hX
        have HBB := Lib.hid hbb
        clear hX hbb
        go_region_held3 (fun w' => (w'.cell? ⟨w.heap.size, 0, none⟩ = some (.slice (some ⟨b, o, none⟩) x.elems.length c) ∧ w'.cell? ⟨w.heap.size, 1, none⟩ = some (.slice A2 x.limits.length c2) ∧ w'.cell? ⟨w.heap.size, 2, none⟩ = some (.int .i64 x.repeats) ∧ w'.cell? ⟨w.heap.size, 3, none⟩ = some (.int .i64 x.bonus) ∧ w'.cell? ⟨w.heap.size, 4, none⟩ = some (.int .i64 x.keeps) ∧ w'.cell? ⟨w.heap.size, 5, none⟩ = some (.int .i64 x.fall)) ∧ (w'.cell? ⟨w.heap.size + 1, 0, none⟩ = some (.string y.name) ∧ w'.cell? ⟨w.heap.size + 1, 1, none⟩ = some (.int .i64 y.family) ∧ w'.cell? ⟨w.heap.size + 1, 2, none⟩ = some (.int .i64 y.level) ∧ w'.cell? ⟨w.heap.size + 1, 3, none⟩ = some (.int .i64 y.base))) (first | (with_reducible exact hS6 _ _ _ _ _ _) | (with_reducible exact HSK.out _ (Kept.refl wq).drew) | (with_reducible exact HSK.out _ ((Kept.refl wq).alloc _).drew) | (with_reducible exact HSK.out _ (((Kept.refl wq).alloc _).alloc _).drew) | (with_reducible exact HSK.out _ (by assumption)) | (with_reducible exact HSK.out _ (Kept.alloc (by assumption) _)) | (with_reducible exact HSK6.out _ (by assumption) _ _ _ _ _ _)) (first | (refine step_append_E0 wq _ rfl (.tmp 30) (.tmp 32) rfl _ rfl (by first | with_reducible exact bA | with_reducible exact bB | with_reducible exact bC) (by first | with_reducible exact ((Kept.refl wq).alloc _).drew | with_reducible exact (((Kept.refl wq).alloc _).alloc _).drew) (by first | exact Nat.le_refl _ | omega) _ x.elems rfl HEQ.out (by omega) ?_; intro v2 w2 o2 k2 on2 loc2; have O2 := Lib.hid o2; have L2 := Lib.hid loc2; clear o2 loc2) | (go_at_call 58; have oA := O2.out.kept ((Kept.refl w2).alloc (.cells #[.string y.name, .int .i64 y.family, .int .i64 y.level, .int .i64 y.base] 31)); have sA := (k2.alloc (.cells #[.string y.name, .int .i64 y.family, .int .i64 y.level, .int .i64 y.base] 31)).size; have bbA := Box.new w2 w2.heap.size 31 #[.string y.name, .int .i64 y.family, .int .i64 y.level, .int .i64 y.base] rfl; have nA : ∀ b ∈ fp v2, w2.heap.size ≠ b := (fun b hb => by have := own_fp O2.out.1 b hb; omega); (with_reducible refine (insE_any _ x.elems y k _ _ _ oA h0e hk hne sA bbA hys nA).mono ?_); rintro e w3 ⟨v3, rfl, o3, on3⟩; have k3 := on3.above (k2.alloc _) (fun b hb => (own_fp O2.out.1 b hb).1); have O3 := Lib.hid o3; clear o3 on3 oA sA bbA nA) | (go_at_call 58; have oA := O2.out; have sA := k2.size; have bbA := vB.only on2 (by simp); have nA : ∀ b ∈ fp v2, wq.heap.size + 1 ≠ b := (fun b hb => by have := L2.out b hb; simp at this; omega); (with_reducible refine (insE_any _ x.elems y k _ _ _ oA h0e hk hne sA bbA hys nA).mono ?_); rintro e w3 ⟨v3, rfl, o3, on3⟩; have k3 := on3.above k2 (fun b hb => (own_fp O2.out.1 b hb).1); have O3 := Lib.hid o3; clear o3 on3 oA sA bbA nA) | (go_at_call 58; have oA := O2.out; have sA := k2.size; have bbA := vC.only on2 (by simp); have nA : ∀ b ∈ fp v2, wq.heap.size ≠ b := (fun b hb => by have := L2.out b hb; simp at this; omega); (with_reducible refine (insE_any _ x.elems y k _ _ _ oA h0e hk hne sA bbA hys nA).mono ?_); rintro e w3 ⟨v3, rfl, o3, on3⟩; have k3 := on3.above k2 (fun b hb => (own_fp O2.out.1 b hb).1); have O3 := Lib.hid o3; clear o3 on3 oA sA bbA nA) | (go_at_call 57; refine (asCode_is X bb _ _ x _ _ wq.heap.size HX.out HBB.out (H0.out.kept (K1q.trans k3)) O3.out k3.size (by omega)).mono ?_; rintro e w4 ⟨v4, rfl, o4, k4⟩; have k14 := k3.trans k4; obtain ⟨na, ma, rfl, pa, qa, nda⟩ := o4; obtain ⟨Aa, ca, rfl, _⟩ := own_form pa.1; obtain ⟨Da, da, rfl, _⟩ := own_form qa; have OR : Hid (OwnK w4 wq.heap.size (.agg #[.slice Aa X.elems.length ca, .slice Da X.limits.length da, .int .i64 X.repeats, .int .i64 X.bonus, .int .i64 X.keeps, .int .i64 X.fall]) X) := (⟨_, _, rfl, pa, qa, nda⟩ : OwnK w4 wq.heap.size _ X); clear pa qa nda; have hS6 := HSK6.out _ k14; obtain ⟨cc, ff⟩ := (B1q.kept k14).six))
        all_goals
          rename_i hheld
          clear hheld cc ff hS6
          obtain ⟨w9, hw9, B9, Q9⟩ := set6 (B1q.kept k14) (.slice Aa X.elems.length ca) (.slice Da X.limits.length da) (.int .i64 X.repeats) (.int .i64 X.bonus) (.int .i64 X.keeps) (.int .i64 X.fall)
          rw [← hw9]
          clear hw9
          obtain ⟨cc, ff⟩ := B9.six
          go_wp2_with fail
          refine bodyPost_ret (v := .tuple #[.agg #[.slice Aa X.elems.length ca, .slice Da X.limits.length da, .int .i64 X.repeats, .int .i64 X.bonus, .int .i64 X.keeps, .int .i64 X.fall], .bool bb]) (by simp [results, Tryz.results9, go_sem, cc, ff]) rfl ⟨_, by rw [adB_yes HB.out HAT.out, HBB.out], ?_, Q9.above (K1q.trans k14) (by simp; omega)⟩
          rw [adV_yes HB.out HAT.out, HX.out]
          exact OwnK.far OR.out Q9 (by simp; omega) (by omega)
      · have hd : decide ((k : Int) < (x.elems.length : Int)) = false := by simp; omega
        have hd2 : decide (k < x.elems.length) = false := by simp; omega
        go_wp2_with fail
        go_quiet (fail)
        rename_i nq
        clear x0 y0 xe ye hd hd2
        go_upto_region 6 with (fail)
        have kq : Kept w1 (wr.drewN nq) := hkept.drewN nq
        have B0q : Box (wr.drewN nq) w.heap.size 26 #[.slice A x.elems.length c, .slice A2 x.limits.length c2, .int .i64 x.repeats, .int .i64 x.bonus, .int .i64 x.keeps, .int .i64 x.fall] := B0r
        have BEq : Box (wr.drewN nq) (w.heap.size + 1) 31 #[.string y.name, .int .i64 y.family, .int .i64 y.level, .int .i64 y.base] := BEr
        have B1q : Box (wr.drewN nq) (w.heap.size + 1 + 1) 26 #[.slice none 0 0, .slice none 0 0, .int .i64 0, .int .i64 0, .int .i64 0, .int .i64 0] := B1.kept kq
        clear B0r BEr hkept
        generalize wr.drewN nq = wq at *
        have K1q : Kept w wq := K1.trans kq
        have hzq : w.heap.size + 1 + 1 < wq.heap.size := B1q.lt
        have HEQ := Lib.hid (HE.out.kept K1q)
        have h0e : 0 < x.elems.length := by omega
        have hne : x.elems.length ≤ 1000000 := by omega
        have HSK : Hid (∀ w' : World, Kept wq w' → (w'.cell? ⟨w.heap.size, 0, none⟩ = some (.slice A x.elems.length c) ∧ w'.cell? ⟨w.heap.size, 1, none⟩ = some (.slice A2 x.limits.length c2) ∧ w'.cell? ⟨w.heap.size, 2, none⟩ = some (.int .i64 x.repeats) ∧ w'.cell? ⟨w.heap.size, 3, none⟩ = some (.int .i64 x.bonus) ∧ w'.cell? ⟨w.heap.size, 4, none⟩ = some (.int .i64 x.keeps) ∧ w'.cell? ⟨w.heap.size, 5, none⟩ = some (.int .i64 x.fall)) ∧ (w'.cell? ⟨w.heap.size + 1, 0, none⟩ = some (.string y.name) ∧ w'.cell? ⟨w.heap.size + 1, 1, none⟩ = some (.int .i64 y.family) ∧ w'.cell? ⟨w.heap.size + 1, 2, none⟩ = some (.int .i64 y.level) ∧ w'.cell? ⟨w.heap.size + 1, 3, none⟩ = some (.int .i64 y.base))) := fun w' hk => ⟨(B0q.kept hk).six.1, (BEq.kept hk).four.1⟩
        have HSK6 : Hid (∀ W : World, Kept wq W → ∀ u0 u1 u2 u3 u4 u5, (((((((W.setCell ⟨w.heap.size + 1 + 1, 0, none⟩ u0).setCell ⟨w.heap.size + 1 + 1, 1, none⟩ u1).setCell ⟨w.heap.size + 1 + 1, 2, none⟩ u2).setCell ⟨w.heap.size + 1 + 1, 3, none⟩ u3).setCell ⟨w.heap.size + 1 + 1, 4, none⟩ u4).setCell ⟨w.heap.size + 1 + 1, 5, none⟩ u5).cell? ⟨w.heap.size, 0, none⟩ = some (.slice A x.elems.length c) ∧ ((((((W.setCell ⟨w.heap.size + 1 + 1, 0, none⟩ u0).setCell ⟨w.heap.size + 1 + 1, 1, none⟩ u1).setCell ⟨w.heap.size + 1 + 1, 2, none⟩ u2).setCell ⟨w.heap.size + 1 + 1, 3, none⟩ u3).setCell ⟨w.heap.size + 1 + 1, 4, none⟩ u4).setCell ⟨w.heap.size + 1 + 1, 5, none⟩ u5).cell? ⟨w.heap.size, 1, none⟩ = some (.slice A2 x.limits.length c2) ∧ ((((((W.setCell ⟨w.heap.size + 1 + 1, 0, none⟩ u0).setCell ⟨w.heap.size + 1 + 1, 1, none⟩ u1).setCell ⟨w.heap.size + 1 + 1, 2, none⟩ u2).setCell ⟨w.heap.size + 1 + 1, 3, none⟩ u3).setCell ⟨w.heap.size + 1 + 1, 4, none⟩ u4).setCell ⟨w.heap.size + 1 + 1, 5, none⟩ u5).cell? ⟨w.heap.size, 2, none⟩ = some (.int .i64 x.repeats) ∧ ((((((W.setCell ⟨w.heap.size + 1 + 1, 0, none⟩ u0).setCell ⟨w.heap.size + 1 + 1, 1, none⟩ u1).setCell ⟨w.heap.size + 1 + 1, 2, none⟩ u2).setCell ⟨w.heap.size + 1 + 1, 3, none⟩ u3).setCell ⟨w.heap.size + 1 + 1, 4, none⟩ u4).setCell ⟨w.heap.size + 1 + 1, 5, none⟩ u5).cell? ⟨w.heap.size, 3, none⟩ = some (.int .i64 x.bonus) ∧ ((((((W.setCell ⟨w.heap.size + 1 + 1, 0, none⟩ u0).setCell ⟨w.heap.size + 1 + 1, 1, none⟩ u1).setCell ⟨w.heap.size + 1 + 1, 2, none⟩ u2).setCell ⟨w.heap.size + 1 + 1, 3, none⟩ u3).setCell ⟨w.heap.size + 1 + 1, 4, none⟩ u4).setCell ⟨w.heap.size + 1 + 1, 5, none⟩ u5).cell? ⟨w.heap.size, 4, none⟩ = some (.int .i64 x.keeps) ∧ ((((((W.setCell ⟨w.heap.size + 1 + 1, 0, none⟩ u0).setCell ⟨w.heap.size + 1 + 1, 1, none⟩ u1).setCell ⟨w.heap.size + 1 + 1, 2, none⟩ u2).setCell ⟨w.heap.size + 1 + 1, 3, none⟩ u3).setCell ⟨w.heap.size + 1 + 1, 4, none⟩ u4).setCell ⟨w.heap.size + 1 + 1, 5, none⟩ u5).cell? ⟨w.heap.size, 5, none⟩ = some (.int .i64 x.fall)) ∧ (((((((W.setCell ⟨w.heap.size + 1 + 1, 0, none⟩ u0).setCell ⟨w.heap.size + 1 + 1, 1, none⟩ u1).setCell ⟨w.heap.size + 1 + 1, 2, none⟩ u2).setCell ⟨w.heap.size + 1 + 1, 3, none⟩ u3).setCell ⟨w.heap.size + 1 + 1, 4, none⟩ u4).setCell ⟨w.heap.size + 1 + 1, 5, none⟩ u5).cell? ⟨w.heap.size + 1, 0, none⟩ = some (.string y.name) ∧ ((((((W.setCell ⟨w.heap.size + 1 + 1, 0, none⟩ u0).setCell ⟨w.heap.size + 1 + 1, 1, none⟩ u1).setCell ⟨w.heap.size + 1 + 1, 2, none⟩ u2).setCell ⟨w.heap.size + 1 + 1, 3, none⟩ u3).setCell ⟨w.heap.size + 1 + 1, 4, none⟩ u4).setCell ⟨w.heap.size + 1 + 1, 5, none⟩ u5).cell? ⟨w.heap.size + 1, 1, none⟩ = some (.int .i64 y.family) ∧ ((((((W.setCell ⟨w.heap.size + 1 + 1, 0, none⟩ u0).setCell ⟨w.heap.size + 1 + 1, 1, none⟩ u1).setCell ⟨w.heap.size + 1 + 1, 2, none⟩ u2).setCell ⟨w.heap.size + 1 + 1, 3, none⟩ u3).setCell ⟨w.heap.size + 1 + 1, 4, none⟩ u4).setCell ⟨w.heap.size + 1 + 1, 5, none⟩ u5).cell? ⟨w.heap.size + 1, 2, none⟩ = some (.int .i64 y.level) ∧ ((((((W.setCell ⟨w.heap.size + 1 + 1, 0, none⟩ u0).setCell ⟨w.heap.size + 1 + 1, 1, none⟩ u1).setCell ⟨w.heap.size + 1 + 1, 2, none⟩ u2).setCell ⟨w.heap.size + 1 + 1, 3, none⟩ u3).setCell ⟨w.heap.size + 1 + 1, 4, none⟩ u4).setCell ⟨w.heap.size + 1 + 1, 5, none⟩ u5).cell? ⟨w.heap.size + 1, 3, none⟩ = some (.int .i64 y.base))) := fun W hk u0 u1 u2 u3 u4 u5 => ⟨(Box.far6 (B0q.kept hk) (by omega) u0 u1 u2 u3 u4 u5).six.1, (Box.far6 (BEq.kept hk) (by omega) u0 u1 u2 u3 u4 u5).four.1⟩
        have bA : Box (wq.alloc (.cells #[] 31)).drew wq.heap.size 31 #[] := Box.new wq _ _ _ rfl
        have bB : Box ((wq.alloc (.cells #[] 31)).alloc (.cells #[.string y.name, .int .i64 y.family, .int .i64 y.level, .int .i64 y.base] 31)).drew wq.heap.size 31 #[] := (Box.new wq wq.heap.size _ _ rfl).alloc _
        have bC : Box ((wq.alloc (.cells #[.string y.name, .int .i64 y.family, .int .i64 y.level, .int .i64 y.base] 31)).alloc (.cells #[] 31)).drew (wq.heap.size + 1) 31 #[] := Box.new (wq.alloc (.cells #[.string y.name, .int .i64 y.family, .int .i64 y.level, .int .i64 y.base] 31)) _ _ _ (by simp)
        have vB : Box ((wq.alloc (.cells #[] 31)).alloc (.cells #[.string y.name, .int .i64 y.family, .int .i64 y.level, .int .i64 y.base] 31)).drew (wq.heap.size + 1) 31 #[.string y.name, .int .i64 y.family, .int .i64 y.level, .int .i64 y.base] := Box.new (wq.alloc (.cells #[] 31)) _ _ _ (by simp)
        have vC : Box ((wq.alloc (.cells #[.string y.name, .int .i64 y.family, .int .i64 y.level, .int .i64 y.base] 31)).alloc (.cells #[] 31)).drew wq.heap.size 31 #[.string y.name, .int .i64 y.family, .int .i64 y.level, .int .i64 y.base] := (Box.new wq wq.heap.size _ _ rfl).alloc _
        obtain ⟨X, hX⟩ : ∃ X, ifC (addC x y k) = X := ⟨_, rfl⟩
        obtain ⟨bb, hbb⟩ : ∃ bb, codeB (addC x y k) = bb := ⟨_, rfl⟩
        have HX := Lib.hid hX
        have HBB := Lib.hid hbb
        clear hX hbb
        go_region_held3 (fun w' => (w'.cell? ⟨w.heap.size, 0, none⟩ = some (.slice A x.elems.length c) ∧ w'.cell? ⟨w.heap.size, 1, none⟩ = some (.slice A2 x.limits.length c2) ∧ w'.cell? ⟨w.heap.size, 2, none⟩ = some (.int .i64 x.repeats) ∧ w'.cell? ⟨w.heap.size, 3, none⟩ = some (.int .i64 x.bonus) ∧ w'.cell? ⟨w.heap.size, 4, none⟩ = some (.int .i64 x.keeps) ∧ w'.cell? ⟨w.heap.size, 5, none⟩ = some (.int .i64 x.fall)) ∧ (w'.cell? ⟨w.heap.size + 1, 0, none⟩ = some (.string y.name) ∧ w'.cell? ⟨w.heap.size + 1, 1, none⟩ = some (.int .i64 y.family) ∧ w'.cell? ⟨w.heap.size + 1, 2, none⟩ = some (.int .i64 y.level) ∧ w'.cell? ⟨w.heap.size + 1, 3, none⟩ = some (.int .i64 y.base))) (first | (with_reducible exact hS6 _ _ _ _ _ _) | (with_reducible exact HSK.out _ (Kept.refl wq).drew) | (with_reducible exact HSK.out _ ((Kept.refl wq).alloc _).drew) | (with_reducible exact HSK.out _ (((Kept.refl wq).alloc _).alloc _).drew) | (with_reducible exact HSK.out _ (by assumption)) | (with_reducible exact HSK.out _ (Kept.alloc (by assumption) _)) | (with_reducible exact HSK6.out _ (by assumption) _ _ _ _ _ _)) (first | (refine step_append_E0 wq _ rfl (.tmp 30) (.tmp 32) rfl _ rfl (by first | with_reducible exact bA | with_reducible exact bB | with_reducible exact bC) (by first | with_reducible exact ((Kept.refl wq).alloc _).drew | with_reducible exact (((Kept.refl wq).alloc _).alloc _).drew) (by first | exact Nat.le_refl _ | omega) _ x.elems rfl HEQ.out (by omega) ?_; intro v2 w2 o2 k2 on2 loc2; have O2 := Lib.hid o2; have L2 := Lib.hid loc2; clear o2 loc2) | (go_at_call 58; have oA := O2.out.kept ((Kept.refl w2).alloc (.cells #[.string y.name, .int .i64 y.family, .int .i64 y.level, .int .i64 y.base] 31)); have sA := (k2.alloc (.cells #[.string y.name, .int .i64 y.family, .int .i64 y.level, .int .i64 y.base] 31)).size; have bbA := Box.new w2 w2.heap.size 31 #[.string y.name, .int .i64 y.family, .int .i64 y.level, .int .i64 y.base] rfl; have nA : ∀ b ∈ fp v2, w2.heap.size ≠ b := (fun b hb => by have := own_fp O2.out.1 b hb; omega); (with_reducible refine (insE_any _ x.elems y k _ _ _ oA h0e hk hne sA bbA hys nA).mono ?_); rintro e w3 ⟨v3, rfl, o3, on3⟩; have k3 := on3.above (k2.alloc _) (fun b hb => (own_fp O2.out.1 b hb).1); have O3 := Lib.hid o3; clear o3 on3 oA sA bbA nA) | (go_at_call 58; have oA := O2.out; have sA := k2.size; have bbA := vB.only on2 (by simp); have nA : ∀ b ∈ fp v2, wq.heap.size + 1 ≠ b := (fun b hb => by have := L2.out b hb; simp at this; omega); (with_reducible refine (insE_any _ x.elems y k _ _ _ oA h0e hk hne sA bbA hys nA).mono ?_); rintro e w3 ⟨v3, rfl, o3, on3⟩; have k3 := on3.above k2 (fun b hb => (own_fp O2.out.1 b hb).1); have O3 := Lib.hid o3; clear o3 on3 oA sA bbA nA) | (go_at_call 58; have oA := O2.out; have sA := k2.size; have bbA := vC.only on2 (by simp); have nA : ∀ b ∈ fp v2, wq.heap.size ≠ b := (fun b hb => by have := L2.out b hb; simp at this; omega); (with_reducible refine (insE_any _ x.elems y k _ _ _ oA h0e hk hne sA bbA hys nA).mono ?_); rintro e w3 ⟨v3, rfl, o3, on3⟩; have k3 := on3.above k2 (fun b hb => (own_fp O2.out.1 b hb).1); have O3 := Lib.hid o3; clear o3 on3 oA sA bbA nA) | (go_at_call 57; refine (asCode_is X bb _ _ x _ _ wq.heap.size HX.out HBB.out (H0.out.kept (K1q.trans k3)) O3.out k3.size (by omega)).mono ?_; rintro e w4 ⟨v4, rfl, o4, k4⟩; have k14 := k3.trans k4; obtain ⟨na, ma, rfl, pa, qa, nda⟩ := o4; obtain ⟨Aa, ca, rfl, _⟩ := own_form pa.1; obtain ⟨Da, da, rfl, _⟩ := own_form qa; have OR : Hid (OwnK w4 wq.heap.size (.agg #[.slice Aa X.elems.length ca, .slice Da X.limits.length da, .int .i64 X.repeats, .int .i64 X.bonus, .int .i64 X.keeps, .int .i64 X.fall]) X) := (⟨_, _, rfl, pa, qa, nda⟩ : OwnK w4 wq.heap.size _ X); clear pa qa nda; have hS6 := HSK6.out _ k14; obtain ⟨cc, ff⟩ := (B1q.kept k14).six))
        all_goals
          rename_i hheld
          clear hheld cc ff hS6
          obtain ⟨w9, hw9, B9, Q9⟩ := set6 (B1q.kept k14) (.slice Aa X.elems.length ca) (.slice Da X.limits.length da) (.int .i64 X.repeats) (.int .i64 X.bonus) (.int .i64 X.keeps) (.int .i64 X.fall)
          rw [← hw9]
          clear hw9
          obtain ⟨cc, ff⟩ := B9.six
          go_wp2_with fail
          refine bodyPost_ret (v := .tuple #[.agg #[.slice Aa X.elems.length ca, .slice Da X.limits.length da, .int .i64 X.repeats, .int .i64 X.bonus, .int .i64 X.keeps, .int .i64 X.fall], .bool bb]) (by simp [results, Tryz.results9, go_sem, cc, ff]) rfl ⟨_, by rw [adB_yes HB.out HAT.out, HBB.out], ?_, Q9.above (K1q.trans k14) (by simp; omega)⟩
          rw [adV_yes HB.out HAT.out, HX.out]
          exact OwnK.far OR.out Q9 (by simp; omega) (by omega)
end Go.Proofs.YtkekpolfdmmgeaaGreatDoor

/- Plain facts on sorted lists of names. -/
namespace Go.Proofs.YtkekpolfdmmgeaaGreatDoor
set_option linter.unusedVariables false
set_option linter.unusedSimpArgs false
open Go.Lib

abbrev LB := List UInt8
theorem lb_irrefl (a : LB) : ¬ a < a := List.lt_irrefl a
theorem lb_trans {a b c : LB} (h1 : a < b) (h2 : b < c) : a < c := List.lt_trans h1 h2
theorem lb_tri {a b : LB} (h1 : ¬ a < b) (h2 : ¬ b < a) : a = b := List.le_antisymm h2 h1
theorem lb_lt_of {a b c : LB} (h1 : ¬ b < a) (h2 : b < c) : a < c := List.lt_of_le_of_lt h1 h2
def SL (l : List LB) : Prop := l.Pairwise (· < ·)
theorem sl_unique : ∀ (l m : List LB), SL l → SL m → (∀ x, x ∈ l ↔ x ∈ m) → l = m
  | [], [], _, _, _ => rfl
  | [], y :: m, _, _, h => absurd ((h y).2 (by simp)) (by simp)
  | x :: l, [], _, _, h => absurd ((h x).1 (by simp)) (by simp)
  | x :: l, y :: m, hl, hm, h => by
    have hl' := List.pairwise_cons.1 hl
    have hm' := List.pairwise_cons.1 hm
    have e : x = y := by
      rcases List.mem_cons.1 ((h x).1 (by simp)) with e | e
      · exact e
      · rcases List.mem_cons.1 ((h y).2 (by simp)) with e2 | e2
        · exact e2.symm
        · exact absurd (lb_trans (hm'.1 x e) (hl'.1 y e2)) (lb_irrefl _)
    subst e
    rw [sl_unique l m hl'.2 hm'.2 (fun z => ⟨fun hz => ?_, fun hz => ?_⟩)]
    · rcases List.mem_cons.1 ((h z).1 (by simp [hz])) with e | e
      · subst e; exact absurd (hl'.1 _ hz) (lb_irrefl _)
      · exact e
    · rcases List.mem_cons.1 ((h z).2 (by simp [hz])) with e | e
      · subst e; exact absurd (hm'.1 _ hz) (lb_irrefl _)
      · exact e
def sortL (zs : List LB) : List LB := zs.mergeSort fun x y => decide (x ≤ y)
theorem sortL_le (zs : List LB) : (sortL zs).Pairwise fun x y => ¬ y < x := by
  have h := List.pairwise_mergeSort (le := fun x y : LB => decide (x ≤ y)) (by intro a b c h1 h2; simp at *; exact List.le_trans h1 h2) (by intro a b; simp; exact List.le_total a b) zs
  exact h.imp (by intro a b h; simpa using h)
theorem compact_upto {d : Array LB} (hd : ∀ i j, i ≤ j → j < d.size → ¬ d[j]! < d[i]!) : ∀ m, m ≤ d.size → SL (compactUpTo d m) ∧ (∀ x, x ∈ compactUpTo d m ↔ ∃ j, j < m ∧ d[j]! = x)
  | 0, _ => ⟨by simp [compactUpTo, SL], fun x => by simp [compactUpTo]⟩
  | m + 1, hm => by
    obtain ⟨h1, h2⟩ := compact_upto hd m (by omega)
    rw [compactUpTo_succ]
    by_cases hk : keeps d m = true
    · rw [if_pos hk]
      refine ⟨?_, fun x => ?_⟩
      · unfold SL
        rw [List.pairwise_append]
        refine ⟨h1, List.pairwise_singleton _ _, fun a ha b hb => ?_⟩
        rw [List.mem_singleton] at hb
        subst hb
        obtain ⟨j, hj, rfl⟩ := (h2 a).1 ha
        have hm0 : m ≠ 0 := by omega
        have hne : d[m]! ≠ d[m - 1]! := by
          have := hk
          unfold keeps at this
          simp only [decide_eq_true_eq] at this
          rcases this with e | e
          · exact absurd e hm0
          · exact e
        have hlt : d[m - 1]! < d[m]! := by
          by_cases hx : d[m - 1]! < d[m]!
          · exact hx
          · exact absurd (lb_tri (hd (m - 1) m (by omega) (by omega)) hx) hne
        exact lb_lt_of (hd j (m - 1) (by omega) (by omega)) hlt
      · rw [List.mem_append, List.mem_singleton, h2]
        refine ⟨fun h => ?_, fun ⟨j, hj, e⟩ => ?_⟩
        · rcases h with ⟨j, hj, e⟩ | e
          · exact ⟨j, by omega, e⟩
          · exact ⟨m, by omega, e.symm⟩
        · rcases Nat.lt_or_eq_of_le (Nat.le_of_lt_succ hj) with h | h
          · exact .inl ⟨j, h, e⟩
          · subst h; exact .inr e.symm
    · rw [if_neg hk, List.append_nil]
      refine ⟨h1, fun x => ?_⟩
      rw [h2]
      refine ⟨fun ⟨j, hj, e⟩ => ⟨j, by omega, e⟩, fun ⟨j, hj, e⟩ => ?_⟩
      rcases Nat.lt_or_eq_of_le (Nat.le_of_lt_succ hj) with h | h
      · exact ⟨j, h, e⟩
      · subst h
        unfold keeps at hk
        simp only [decide_eq_true_eq, not_or] at hk
        exact ⟨j - 1, by omega, (Decidable.not_not.1 hk.2).symm.trans e⟩
theorem compact_sort (zs : List LB) : SL (compact (sortL zs)) ∧ ∀ x, x ∈ compact (sortL zs) ↔ x ∈ zs := by
  have hp := sortL_le zs
  have hd : ∀ i j, i ≤ j → j < (sortL zs).toArray.size → ¬ (sortL zs).toArray[j]! < (sortL zs).toArray[i]! := by
    intro i j hij hj
    have hj' : j < (sortL zs).length := by simpa using hj
    have hi' : i < (sortL zs).length := by omega
    rw [getElem!_pos (sortL zs).toArray j hj, getElem!_pos (sortL zs).toArray i (by simpa using hi')]
    rcases Nat.lt_or_eq_of_le hij with h | h
    · exact List.pairwise_iff_getElem.1 hp i j hi' hj' h
    · subst h; exact lb_irrefl _
  obtain ⟨h1, h2⟩ := compact_upto hd _ (Nat.le_refl _)
  refine ⟨h1, fun x => ?_⟩
  have h3 := h2 x
  have e : compact (sortL zs) = compactUpTo (sortL zs).toArray (sortL zs).toArray.size := rfl
  rw [e, h3]
  have hmem : x ∈ sortL zs ↔ x ∈ zs := (List.mergeSort_perm _ _).mem_iff
  rw [← hmem]
  refine ⟨fun ⟨j, hj, e⟩ => ?_, fun h => ?_⟩
  · have hj' : j < (sortL zs).length := by simpa using hj
    rw [getElem!_pos _ j hj] at e
    subst e
    exact List.getElem_mem hj'
  · obtain ⟨j, hj, e⟩ := List.getElem_of_mem h
    refine ⟨j, by simpa using hj, ?_⟩
    rw [getElem!_pos _ j (by simpa using hj)]
    exact e

/-! ### in the program's own strings -/
def bl (z : ByteArray) : LB := z.data.toList
def bs (l : LB) : ByteArray := ⟨l.toArray⟩
theorem bs_bl (z : ByteArray) : bs (bl z) = z := mk_data z
theorem bl_bs (l : LB) : bl (bs l) = l := rfl
theorem bl_inj {x y : ByteArray} (h : bl x = bl y) : x = y := by rw [← bs_bl x, ← bs_bl y, h]
def namesD (zs : List ByteArray) : List ByteArray := (compact (sortL (zs.map bl))).map bs
/-- strictly increasing, with just the strings of zs -/
def IsNames (os zs : List ByteArray) : Prop := SL (os.map bl) ∧ ∀ x, x ∈ os ↔ x ∈ zs
theorem isNames_eq {os zs : List ByteArray} (h : IsNames os zs) : os = namesD zs := by
  obtain ⟨h1, h2⟩ := h
  obtain ⟨c1, c2⟩ := compact_sort (zs.map bl)
  have e : os.map bl = compact (sortL (zs.map bl)) := by
    refine sl_unique _ _ h1 c1 fun x => ?_
    rw [c2, List.mem_map, List.mem_map]
    exact ⟨fun ⟨y, hy, e⟩ => ⟨y, (h2 y).1 hy, e⟩, fun ⟨y, hy, e⟩ => ⟨y, (h2 y).2 hy, e⟩⟩
  unfold namesD
  rw [← e, List.map_map]
  conv => lhs; rw [← List.map_id os]
  exact List.map_congr_left fun x _ => (bs_bl x).symm
theorem names_mem {zs : List ByteArray} {x : ByteArray} (h : x ∈ namesD zs) : x ∈ zs := by
  unfold namesD at h
  obtain ⟨l, hl, rfl⟩ := List.mem_map.1 h
  obtain ⟨y, hy, e⟩ := List.mem_map.1 (((compact_sort (zs.map bl)).2 l).1 hl)
  subst e
  rw [bs_bl]
  exact hy
def nlt (x y : ByteArray) : Bool := Op.bytesLess x.toList y.toList
theorem nlt_iff (x y : ByteArray) : nlt x y = true ↔ bl x < bl y := by
  unfold nlt
  rw [bytesLess_eq, toList_data, toList_data]
  simp [bl]
theorem isNames_in {os zs : List ByteArray} {n : ByteArray} (h : IsNames os zs) (hn : n ∈ os) : IsNames os (zs ++ [n]) :=
  ⟨h.1, fun x => by rw [h.2, List.mem_append, List.mem_singleton]; exact ⟨.inl, fun e => e.elim id (fun e => e ▸ (h.2 n).1 hn)⟩⟩
theorem isNames_ins {os zs : List ByteArray} {n : ByteArray} {k : Nat} (h : IsNames os zs) (hk : k ≤ os.length) (h1 : ∀ j x, j < k → os[j]? = some x → nlt x n = true) (h2 : ∀ x, os[k]? = some x → nlt x n = false ∧ x ≠ n) : IsNames (os.take k ++ n :: os.drop k) (zs ++ [n]) := by
  obtain ⟨hs, hm⟩ := h
  have hafter : ∀ y ∈ os.drop k, bl n < bl y := by
    intro y hy
    obtain ⟨j, hj⟩ := List.getElem?_of_mem hy
    rw [List.getElem?_drop] at hj
    have hlt := (List.getElem?_eq_some_iff.1 hj).1
    have hk' : k < os.length := by omega
    have hk1 : os[k]? = some os[k] := List.getElem?_eq_getElem hk'
    obtain ⟨ha, hb⟩ := h2 _ hk1
    have hnk : bl n < bl os[k] := by
      by_cases hx : bl n < bl os[k]
      · exact hx
      · have hy : ¬ bl os[k] < bl n := fun hc => by rw [(nlt_iff _ _).2 hc] at ha; cases ha
        exact absurd (bl_inj (lb_tri hy hx)) hb
    cases j with
    | zero =>
      rw [Nat.add_zero, hk1] at hj
      injection hj with hj
      subst hj
      exact hnk
    | succ j =>
      have hp := List.pairwise_iff_getElem.1 hs k (k + (j + 1)) (by simpa using hk') (by simpa using hlt) (by omega)
      have e := (List.getElem?_eq_some_iff.1 hj).2
      simp only [List.getElem_map] at hp
      rw [e] at hp
      exact lb_trans hnk hp
  refine ⟨?_, fun x => ?_⟩
  · rw [List.map_append, List.map_cons]
    unfold SL
    rw [List.pairwise_append]
    refine ⟨?_, ?_, ?_⟩
    · rw [List.map_take]; exact hs.sublist (List.take_sublist _ _)
    · rw [List.pairwise_cons]
      refine ⟨fun y hy => ?_, ?_⟩
      · obtain ⟨z, hz, rfl⟩ := List.mem_map.1 hy
        exact hafter z hz
      · rw [List.map_drop]; exact hs.sublist (List.drop_sublist _ _)
    · intro a ha b hb
      obtain ⟨x, hx, rfl⟩ := List.mem_map.1 ha
      obtain ⟨i, hi⟩ := List.getElem?_of_mem hx
      have hik : i < k := by
        have := (List.getElem?_eq_some_iff.1 hi).1
        rw [List.length_take] at this
        omega
      rw [List.getElem?_take_of_lt hik] at hi
      have hxn := (nlt_iff _ _).1 (h1 i x hik hi)
      rcases List.mem_cons.1 hb with e | e
      · subst e; exact hxn
      · obtain ⟨z, hz, rfl⟩ := List.mem_map.1 e
        exact lb_trans hxn (hafter z hz)
  · have e : x ∈ os.take k ++ n :: os.drop k ↔ x ∈ os ∨ x = n := by
      rw [List.mem_append, List.mem_cons]
      conv => rhs; rw [← List.take_append_drop k os, List.mem_append]
      constructor
      · rintro (h | h | h)
        · exact .inl (.inl h)
        · exact .inr h
        · exact .inl (.inr h)
      · rintro ((h | h) | h)
        · exact .inl h
        · exact .inr (.inr h)
        · exact .inr (.inl h)
    rw [e, hm, List.mem_append, List.mem_singleton]
theorem isNames_nil : IsNames [] [] := ⟨List.Pairwise.nil, fun _ => Iff.rfl⟩
end Go.Proofs.YtkekpolfdmmgeaaGreatDoor

/- Draws of codes, plain: names of elements; what a code under construction is. -/
namespace Go.Proofs.YtkekpolfdmmgeaaGreatDoor
set_option linter.unusedVariables false
set_option linter.unusedSimpArgs false
set_option linter.unnecessarySimpa false
open Go.RowKit Go.Lib

/-- the names of elements -/
def elN : List ByteArray := [⟨#[49, 65]⟩, ⟨#[49, 84]⟩, ⟨#[50, 65]⟩, ⟨#[50, 70]⟩, ⟨#[50, 76, 90]⟩, ⟨#[50, 83]⟩, ⟨#[50, 84]⟩, ⟨#[51, 65]⟩, ⟨#[51, 70]⟩, ⟨#[51, 76, 79]⟩, ⟨#[51, 76, 90]⟩, ⟨#[51, 83]⟩, ⟨#[51, 84]⟩, ⟨#[52, 83]⟩, ⟨#[52, 84]⟩, ⟨#[67, 67, 83, 80]⟩, ⟨#[67, 72, 83, 81]⟩, ⟨#[70, 83, 83, 80]⟩, ⟨#[76, 53]⟩, ⟨#[76, 83, 80]⟩, ⟨#[83, 81]⟩, ⟨#[83, 83, 80]⟩, ⟨#[83, 84, 83, 81]⟩, ⟨#[85, 83, 80]⟩]
theorem elN_len : elN.length = 24 := rfl
theorem elN_sz {z : ByteArray} (h : z ∈ elN) : z.size ≤ 1000 := by
  have := List.all_eq_true.1 (show elN.all (fun z => decide (z.size ≤ 1000)) = true by decide) z h
  simpa using this
theorem elN_SL : SL (elN.map bl) := by unfold SL; decide
/-- numbers and limits are in range -/
def LimOk (c : CodeD) : Prop := restB c = true ∧ c.limits.all (inB · 0 9) = true
/-- so are the elements, whose names are some of the first k -/
def ElOk (k : Nat) (c : CodeD) : Prop := LimOk c ∧ (c.elems.map ElemD.name).Sublist (elN.take k) ∧ c.elems.all elemB = true
theorem elN_name {z : ByteArray} (h : z ∈ elN) : nameB z = true := List.all_eq_true.1 (show elN.all nameB = true by decide) z h
theorem LimOk.nil {c : CodeD} (h1 : 0 ≤ c.repeats - 1 ∧ c.repeats - 1 < 3) (h2 : c.bonus ∈ [(0 : Int), 10, 20]) (h3 : c.keeps ∈ [(50 : Int), 70, 80, 100]) (h4 : c.fall ∈ [(0 : Int), 100, 500]) (h : c.limits = []) : LimOk c := by
  simp only [List.mem_cons, List.not_mem_nil, or_false] at h2 h3 h4
  refine ⟨?_, by rw [h]; rfl⟩
  unfold restB
  rw [inB_of (by omega) (by omega), inB_of (by omega) (by omega), inB_of (by omega) (by omega), inB_of (by omega) (by omega)]
  rfl
theorem LimOk.push {c : CodeD} {x : Int} (h : LimOk c) (hx : x ∈ [(0 : Int), 1, 2, 3, 7, 9]) : LimOk { c with limits := c.limits ++ [x] } := by
  simp only [List.mem_cons, List.not_mem_nil, or_false] at hx
  refine ⟨h.1, ?_⟩
  show (c.limits ++ [x]).all _ = true
  rw [List.all_append, h.2]
  simp [inB_of (n := x) (lo := 0) (hi := 9) (by omega) (by omega)]
theorem ElOk.zero {c : CodeD} (h : LimOk c) (he : c.elems = []) : ElOk 0 c := ⟨h, by rw [he]; simp, by rw [he]; rfl⟩
theorem ElOk.nilE {k : Nat} {c : CodeD} (h : ElOk k c) : ElOk 0 { c with elems := [] } := ⟨h.1, by simp, rfl⟩
theorem ElOk.skip {k : Nat} {c : CodeD} (h : ElOk k c) : ElOk (k + 1) c :=
  ⟨h.1, h.2.1.trans (by rw [List.take_add_one]; exact List.sublist_append_left _ _), h.2.2⟩
theorem ElOk.push {k : Nat} {c : CodeD} {z : ByteArray} {f l b : Int} (h : ElOk k c) (hz : elN[k]? = some z) (hf : 0 ≤ f ∧ f < 5) (hl : 0 ≤ l ∧ l < 5) (hb : 1 ≤ b ∧ b ≤ 2000) : ElOk (k + 1) { c with elems := c.elems ++ [⟨z, f, l, b⟩] } := by
  refine ⟨h.1, ?_, ?_⟩
  · show ((c.elems ++ [(⟨z, f, l, b⟩ : ElemD)]).map ElemD.name).Sublist _
    rw [List.map_append, List.take_add_one, hz]
    exact h.2.1.append (List.Sublist.refl _)
  · show (c.elems ++ [(⟨z, f, l, b⟩ : ElemD)]).all elemB = true
    rw [List.all_append, h.2.2]
    simp only [List.all_cons, List.all_nil, Bool.and_true, Bool.true_and]
    unfold elemB
    rw [elN_name (List.mem_of_getElem? hz), inB_of hf.1 (by omega), inB_of hl.1 (by omega), inB_of hb.1 hb.2]
    rfl
theorem base_lit {b : Int} (h : b ∈ [(1 : Int), 50, 130, 420, 800, 1105, 2000]) : 1 ≤ b ∧ b ≤ 2000 := by
  simp only [List.mem_cons, List.not_mem_nil, or_false] at h
  omega
/-- strictly increasing names -/
theorem elemsB_of {es : List ElemD} (h1 : es.all elemB = true) (h2 : SL ((es.map ElemD.name).map bl)) : elemsB es = true := by
  unfold elemsB
  refine List.all_eq_true.2 fun k hk => ?_
  have hk' : k < es.length := by simpa using hk
  have hx : es[k]? = some es[k] := List.getElem?_eq_getElem hk'
  have he := List.all_eq_true.1 h1 es[k] (List.getElem_mem hk')
  cases k with
  | zero => unfold stepB; rw [hx]; simp [he]
  | succ k =>
    have hp : es[k]? = some es[k] := List.getElem?_eq_getElem (by omega)
    rw [stepB_succ hx hp, he, Bool.true_and]
    have := List.pairwise_iff_getElem.1 h2 k (k + 1) (by simpa using (by omega : k < es.length)) (by simpa using hk') (by omega)
    simp only [List.getElem_map] at this
    exact (nlt_iff _ _).2 this
theorem ElOk.code {c : CodeD} (h : ElOk 24 c) (h1 : 1 ≤ c.elems.length) (h2 : c.elems.length ≤ 24) (h3 : c.limits.length = 5) : codeB c = true := by
  unfold codeB headB
  rw [h.1.1, h.1.2, h3, inB_of (by omega) (by omega), elemsB_of h.2.2 ?_]
  · rfl
  · have hs : (c.elems.map ElemD.name).Sublist elN := by have := h.2.1; rwa [List.take_of_length_le (by rw [elN_len]; omega)] at this
    exact elN_SL.sublist (hs.map bl)
theorem code_SL {c : CodeD} (h : codeB c = true) : SL ((c.elems.map ElemD.name).map bl) := by
  unfold codeB elemsB at h
  simp only [Bool.and_eq_true] at h
  have ha := List.all_eq_true.1 h.2
  have step : ∀ k, (hk : k + 1 < c.elems.length) → bl (c.elems[k]'(by omega)).name < bl c.elems[k + 1].name := by
    intro k hk
    have := ha (k + 1) (by simpa using hk)
    rw [stepB_succ (List.getElem?_eq_getElem hk) (List.getElem?_eq_getElem (by omega)), Bool.and_eq_true] at this
    exact (nlt_iff _ _).1 this.2
  unfold SL
  rw [List.pairwise_iff_getElem]
  have key : ∀ d i, (h2 : i + d + 1 < c.elems.length) → bl (c.elems[i]'(by omega)).name < bl c.elems[i + d + 1].name := by
    intro d
    induction d with
    | zero => intro i h2; exact step i h2
    | succ d ih => intro i h2; exact lb_trans (ih i (by omega)) (step (i + d + 1) (by omega))
  intro i j hi hj hij
  simp only [List.getElem_map]
  obtain ⟨d, rfl⟩ : ∃ d, j = i + d + 1 := ⟨j - i - 1, by omega⟩
  exact key d i (by simpa using hj)
end Go.Proofs.YtkekpolfdmmgeaaGreatDoor

/- FnCodes: plain facts: an added element is found and dropped again; a dropped one is not found. -/
namespace Go.Proofs.YtkekpolfdmmgeaaGreatDoor
set_option linter.unusedVariables false
set_option linter.unusedSimpArgs false
open Go.RowKit Go.Lib

theorem hitB_iff {s : ByteArray} {y : ElemD} : hitB s y = true ↔ y.name = s := by
  unfold hitB
  rw [toList_data, toList_data]
  constructor
  · intro h; exact bl_inj (eq_of_beq h)
  · rintro rfl; exact beq_self_eq_true _
theorem hitB_no {s : ByteArray} {y : ElemD} (h : y.name ≠ s) : hitB s y = false := by
  rw [Bool.eq_false_iff]; exact fun e => h (hitB_iff.1 e)
theorem SL_ne {c : CodeD} (h : codeB c = true) {i j : Nat} {x y : ElemD} (hx : c.elems[i]? = some x) (hy : c.elems[j]? = some y) (hij : i < j) : x.name ≠ y.name := by
  intro e
  obtain ⟨hi, rfl⟩ := List.getElem?_eq_some_iff.1 hx
  obtain ⟨hj, rfl⟩ := List.getElem?_eq_some_iff.1 hy
  have := List.pairwise_iff_getElem.1 (code_SL h) i j (by simpa using hi) (by simpa using hj) hij
  simp only [List.getElem_map] at this
  rw [e] at this
  exact lb_irrefl _ this
theorem findV_at {c : CodeD} (h : codeB c = true) {k : Nat} {y : ElemD} (hy : c.elems[k]? = some y) : findV c.elems y.name = k :=
  findV_hit hy (hitB_iff.2 rfl) (fun j z hj hz => hitB_no (SL_ne h hz hy hj))
theorem ifC_code {c : CodeD} (h : codeB c = true) : ifC c = c := by unfold ifC; rw [h]; rfl
theorem insAt_le (es : List ElemD) (y : ElemD) : insAt es y ≤ es.length := by unfold insAt; exact (List.takeWhile_sublist _).length_le
theorem addC_get {x : CodeD} {y : ElemD} {k : Nat} (h : k ≤ x.elems.length) : (addC x y k).elems[k]? = some y := by
  show (x.elems.take k ++ y :: x.elems.drop k)[k]? = some y
  have : (x.elems.take k).length = k := by rw [List.length_take]; omega
  rw [List.getElem?_append_right (by omega), this]
  simp
theorem dropC_addC {x : CodeD} {y : ElemD} {k : Nat} (h : k ≤ x.elems.length) : dropC (addC x y k) k = x := by
  have e : (x.elems.take k ++ y :: x.elems.drop k).take k ++ (x.elems.take k ++ y :: x.elems.drop k).drop (k + 1) = x.elems := by
    have hk : (x.elems.take k).length = k := by rw [List.length_take]; omega
    rw [List.take_append_of_le_length (by omega), List.take_of_length_le (by omega)]
    rw [List.drop_append, List.drop_eq_nil_of_le (by omega), hk, show k + 1 - k = 1 by omega]
    simp
  unfold dropC addC
  simp only
  rw [e]
/-- what FnCodes asks of an added element -/
theorem added_back {a : CodeD} {y : ElemD} (h : adB a y = true) : ∃ k : Nat, feV (adV a y) y.name = k ∧ feOk (adV a y) y.name = true ∧ (adV a y).elems[k]? = some y ∧ drB (adV a y) y.name = true ∧ drV (adV a y) y.name = a := by
  have ha : codeB a = true := by unfold adB at h; simp only [Bool.and_eq_true] at h; exact h.1
  have hx : codeB (addC a y (insAt a.elems y)) = true := by unfold adB at h; simp only [Bool.and_eq_true] at h; exact h.2
  have e : adV a y = addC a y (insAt a.elems y) := by rw [adV_yes ha rfl, ifC_code hx]
  have hk := insAt_le a.elems y
  obtain ⟨k, hkk⟩ : ∃ k, k = insAt a.elems y := ⟨_, rfl⟩
  rw [← hkk] at e hx hk
  rw [e]
  have hy := addC_get (x := a) (y := y) hk
  have hf := findV_at hx hy
  have ho : feOk (addC a y k) y.name = true := by unfold feOk; rw [hx, hf]; simp
  refine ⟨k, by rw [feV_yes ho, hf], ho, hy, ?_, ?_⟩
  · rw [drB_yes ho hf, dropC_addC hk, ha]
  · rw [drV_yes ho hf, dropC_addC hk, ifC_code ha]
/-- and of a dropped one -/
theorem dropped_gone {d : CodeD} {s : ByteArray} (h : drB d s = true) : feOk (drV d s) s = false ∧ (drV d s).elems.length + 1 = d.elems.length := by
  have ho : feOk d s = true := by unfold drB at h; simp only [Bool.and_eq_true] at h; exact h.1
  obtain ⟨k, hk, hlt⟩ := feOk_at ho
  have hd := feOk_code ho
  have hx : codeB (dropC d k) = true := by rw [← drB_yes ho hk]; exact h
  rw [drV_yes ho hk, ifC_code hx]
  have hy : d.elems[k]? = some d.elems[k] := List.getElem?_eq_getElem hlt
  have hn : d.elems[k].name = s := by
    rcases findV_cases d.elems s with e | ⟨j, y, e, hj, hh⟩
    · rw [hk] at e; omega
    · have : j = k := by rw [hk] at e; omega
      subst this
      rw [hy] at hj
      injection hj with hj
      subst hj
      exact hitB_iff.1 hh
  have hget : ∀ j z, j < (dropC d k).elems.length → (dropC d k).elems[j]? = some z → z.name ≠ s := by
    intro j z _ hz
    have hz' : (d.elems.take k ++ d.elems.drop (k + 1))[j]? = some z := hz
    have hl : (d.elems.take k).length = k := by rw [List.length_take]; omega
    by_cases hj : j < k
    · rw [List.getElem?_append_left (by omega), List.getElem?_take_of_lt hj] at hz'
      rw [← hn]
      exact SL_ne hd hz' hy hj
    · rw [List.getElem?_append_right (by omega), hl, List.getElem?_drop] at hz'
      rw [← hn]
      exact fun e => SL_ne hd hy hz' (by omega) e.symm
  refine ⟨?_, ?_⟩
  · unfold feOk
    rw [findV_none (fun j z hj hz => hitB_no (hget j z hj hz))]
    simp
  · show (d.elems.take k ++ d.elems.drop (k + 1)).length + 1 = _
    rw [List.length_append, List.length_take, List.length_drop]
    omega
end Go.Proofs.YtkekpolfdmmgeaaGreatDoor

/- Strings in slices; items and lists of items in memory. -/
namespace Go.Proofs.YtkekpolfdmmgeaaGreatDoor
set_option linter.unusedVariables false
set_option linter.unusedSimpArgs false
open Go.RowKit

def Strs (w : World) (v : Value) (zs : List ByteArray) : Prop := Seq w v zs.length (zs.map Value.string) ∧ ∀ z ∈ zs, z.size ≤ maxLen
def OwnS (w : World) (base : Nat) (v : Value) (zs : List ByteArray) : Prop := w.ownsRow base 9 1 v zs.length (zs.map Value.string) ∧ ∀ z ∈ zs, z.size ≤ maxLen
theorem Strs.kept {w w' : World} {v : Value} {zs : List ByteArray} (h : Strs w v zs) (hk : Kept w w') : Strs w' v zs := ⟨Seq.kept h.1 hk, h.2⟩
theorem OwnS.strs {w : World} {base : Nat} {v : Value} {zs : List ByteArray} (h : OwnS w base v zs) : Strs w v zs := ⟨Seq.of_own h.1, h.2⟩
theorem OwnS.kept {w w' : World} {base : Nat} {v : Value} {zs : List ByteArray} (h : OwnS w base v zs) (hk : Kept w w') : OwnS w' base v zs := ⟨own_kept h.1 hk, h.2⟩
theorem OwnS.only {w w' : World} {base : Nat} {v : Value} {zs : List ByteArray} {S : List Nat} (h : OwnS w base v zs) (ho : Only S w w') (hd : ∀ b ∈ fp v, b ∉ S) : OwnS w' base v zs := ⟨own_only h.1 ho hd, h.2⟩
theorem strs_at {w : World} {A : Option Addr} {zs : List ByteArray} (h : SeqA w A zs.length (zs.map Value.string)) {k : Nat} (hk : k < zs.length) :
    ∃ b o z, A = some ⟨b, o, none⟩ ∧ b < w.heap.size ∧ zs[k]? = some z ∧ w.cell? ⟨b, o + k, none⟩ = some (.string z) := by
  have hz : zs[k]? = some zs[k] := List.getElem?_eq_getElem hk
  obtain ⟨b, o, e, hb, hc⟩ := h.at_ (j := k) (u := .string zs[k]) (by omega) (by rw [List.getElem?_map, hz]; rfl)
  exact ⟨b, o, _, e, hb, hz, hc⟩
theorem info_str : (Tryz.prog.info? 9).map (fun i => (i.zero, i.size, i.bytes)) = some (some (.string ByteArray.empty), 1, 16) := by kernel_rfl
end Go.Proofs.YtkekpolfdmmgeaaGreatDoor

/- append(out, xs...) to rows of the call's own, in the words of the readings. -/
namespace Go.Proofs.YtkekpolfdmmgeaaGreatDoor
set_option linter.unusedVariables false
set_option linter.unusedSimpArgs false
open Go.RowKit

theorem wp_append_S (w : World) {o : Oper} {a : Act} {K : Act → World → Prop} {Q : Exit → Act → World → Prop} (s x : Operand)
    (ho : o.op = .call { callee := .builtin .append, args := #[s, x], argTypes := #[57, 57] })
    (base : Nat) (v : Value) (zs : List ByteArray) (hs : a.eval s = v) (hown : OwnS w base v zs) (u : Value) (ys : List ByteArray) (hx : a.eval x = u) (hr : Strs w u ys)
    (hl : zs.length + ys.length ≤ 16777216) (hbase : base ≤ w.heap.size)
    (h : ∀ v' w', OwnS w' base v' (zs ++ ys) → w.grownBy w' v.ownBlock → K (a.put o.dst v') w') : o.wp Tryz.prog a w K Q := by
  obtain ⟨i0, hi, hz0, hz1, hz2⟩ := info_parts info_str
  refine wp_append_seq w s x 57 ho base 9 i0 _ 1 16 Tryz.underlying57 hi hz0 hz1 hz2 rfl (by omega) v zs.length _ hs hown.1 u ys.length _ hx hr.1 (by simp) ?_ (by unfold maxLen; omega) (by omega) hbase (fun v' w' q1 q2 => h v' w' ?_ q2)
  · intro y hy
    obtain ⟨_, _, rfl⟩ := List.mem_map.1 hy; rfl
  · refine ⟨?_, ?_⟩
    · rw [List.length_append, List.map_append]
      exact q1
    · intro e he
      rcases List.mem_append.1 he with he | he
      · exact hown.2 e he
      · exact hr.2 e he
theorem wpList_append_S (w : World) {ops : Array Oper} {rest : List Oper} {o : Oper} {a : Act} {Q : Exit → Act → World → Prop} (hgd : o.guard = none) (s x : Operand)
    (ho : o.op = .call { callee := .builtin .append, args := #[s, x], argTypes := #[57, 57] })
    (base : Nat) (v : Value) (zs : List ByteArray) (hs : a.eval s = v) (hown : OwnS w base v zs) (u : Value) (ys : List ByteArray) (hx : a.eval x = u) (hr : Strs w u ys)
    (hl : zs.length + ys.length ≤ 16777216) (hbase : base ≤ w.heap.size)
    (h : ∀ v' w', OwnS w' base v' (zs ++ ys) → w.grownBy w' v.ownBlock → wpList Tryz.prog ops Q rest (a.put o.dst v') w') : wpList Tryz.prog ops Q (o :: rest) a w :=
  wpList_plain hgd fun _ hK => wp_append_S w s x ho base v zs hs hown u ys hx hr hl hbase fun v' w' h2 h3 => hK _ _ (h v' w' h2 h3)
theorem step_append_S (w : World) {ops : Array Oper} {o : Oper} {a : Act} {K : Act → World → Prop} {Q : Exit → Act → World → Prop} {E : Prop} (hgd : o.guard = none) (s x : Operand)
    (ho : o.op = .call { callee := .builtin .append, args := #[s, x], argTypes := #[57, 57] })
    (base : Nat) (v : Value) (zs : List ByteArray) (hs : a.eval s = v) (hown : OwnS w base v zs) (u : Value) (ys : List ByteArray) (hx : a.eval x = u) (hr : Strs w u ys)
    (hl : zs.length + ys.length ≤ 16777216) (hbase : base ≤ w.heap.size)
    (h : ∀ v' w', OwnS w' base v' (zs ++ ys) → w.grownBy w' v.ownBlock → K (a.put o.dst v') w') :
    if Region.wanted o (yielded ops a.tmps) = true then Oper.wp Tryz.prog o a w K Q else E := by
  have hw : Region.wanted o (yielded ops a.tmps) = true := by simp [Region.wanted, hgd]
  rw [if_pos hw]
  exact wp_append_S w s x ho base v zs hs hown u ys hx hr hl hbase h
end Go.Proofs.YtkekpolfdmmgeaaGreatDoor
