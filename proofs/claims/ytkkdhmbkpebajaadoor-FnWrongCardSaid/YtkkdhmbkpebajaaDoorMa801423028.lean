/- Contracts of functions that the proof leans on. No condition. -/
import Derived.Test.YtkkdhmbkpebajaaDoorMad789f6236
import Derived.Deep.DeepCutAuto
import Derived.Deep.RegionHeld3
import Derived.StillTail
/- Codes copied; elements and codes compared. -/
namespace Go.Proofs.YtkkdhmbkpebajaaDoor
set_option linter.unusedVariables false
set_option linter.unusedSimpArgs false
open Go.RowKit

set_option maxHeartbeats 400000 in
theorem eqElement_any (v1 v2 : Value) (x : ElemD) (w : World) (h1 : ElemAt w v1 x) (h2 : ElemAt w v2 x) :
    Calls Tryd.prog 70 #[v1, v2] w fun e w' => e = .returned (.bool true) ∧ Kept w w' := by
  obtain ⟨rfl, hs⟩ := h1
  obtain ⟨rfl, _⟩ := h2
  unfold maxLen at hs
  have e1 : (x.family != x.family) = false := by simp
  have e2 : (x.level != x.level) = false := by simp
  have e3 : (x.base != x.base) = false := by simp
  have e4 : (!x.name.toList == x.name.toList) = false := by simp
  go_enter Tryd.func70, Tryd.ntmps70
  go_wp2_with fail
  go_ret
  exact ⟨rfl, ((Kept.refl w).alloc _).alloc _⟩
set_option maxRecDepth 100000 in
set_option maxHeartbeats 1000000 in
theorem eqElementS_any (v1 v2 : Value) (es : List ElemD) (w : World) (h1 : Elems w v1 es) (h2 : Elems w v2 es) :
    Calls Tryd.prog 46 #[v1, v2] w fun e w' => e = .returned (.bool true) ∧ Kept w w' := by
  obtain ⟨A, c, rfl, hnc, hcm, hA⟩ := h1.1.out
  obtain ⟨A', c', rfl, hnc', hcm', hA'⟩ := h2.1.out
  unfold maxLen at hcm hcm'
  have HA := Lib.hid hA
  have HA' := Lib.hid hA'
  have HS := Lib.hid h1.2
  clear hA h1 hA' h2
  have hne : ((es.length : Int) != (es.length : Int)) = false := by simp
  go_enter Tryd.func46, Tryd.ntmps46
  go_wp2_with fail
  go_loopw [5] (fun i wr => ∃ k : Nat, k ≤ es.length ∧ i = .int .i64 k ∧ Kept w wr) (fun i _ => es.length - (intOf i).toNat)
  case atStart => exact ⟨0, Nat.zero_le _, rfl, Kept.refl _⟩
  case round =>
    obtain ⟨k, hk, rfl, hkept⟩ := hrel
    by_cases hlt : k < es.length
    · obtain ⟨b, o, x, rfl, hb, h2, q0, q1, q2, q3⟩ := elems_at (HA.out.kept hkept) hlt
      obtain ⟨b', o', x', rfl, hb', h2', q0', q1', q2', q3'⟩ := elems_at (HA'.out.kept hkept) hlt
      rw [h2] at h2'
      injection h2' with h2'
      subst h2'
      have HI := Lib.hid (ElemAt.mk x wr.drew (HS.out x (List.mem_of_getElem? h2)))
      have hlt' : (k : Int) < (es.length : Int) := by omega
      clear h2
      go_wp2_with fail
      go_still_tail 8, (by kernel_rfl)
      go_wp2_with fail
      refine (eqElement_any _ _ x _ HI.out HI.out).mono ?_
      rintro e w1 ⟨rfl, k1⟩
      go_wp2_with fail
      go_roundw
      case rel => exact ⟨k + 1, by omega, by go_num, hkept.drew.trans k1⟩
      case measure => simp [intOf]; omega
    · go_wp2_with fail
      go_ret
      exact ⟨rfl, hkept⟩
set_option maxHeartbeats 1000000 in
theorem eqCode_any (v1 v2 : Value) (a : CodeD) (w : World) (h1 : CodeAt w v1 a) (h2 : CodeAt w v2 a) :
    Calls Tryd.prog 18 #[v1, v2] w fun e w' => e = .returned (.bool true) ∧ Kept w w' := by
  obtain ⟨nv, mv, rfl, q1, q2⟩ := h1
  obtain ⟨nv', mv', rfl, q3, q4⟩ := h2
  have H1 := Lib.hid q1
  have H2 := Lib.hid q2
  have H3 := Lib.hid q3
  have H4 := Lib.hid q4
  clear q1 q2 q3 q4
  have K0 : Kept w ((w.alloc (.cells #[nv, mv, .int .i64 a.repeats, .int .i64 a.bonus, .int .i64 a.keeps, .int .i64 a.fall] 39)).alloc (.cells #[nv', mv', .int .i64 a.repeats, .int .i64 a.bonus, .int .i64 a.keeps, .int .i64 a.fall] 39)) := ((Kept.refl w).alloc _).alloc _
  have e1 : (a.repeats != a.repeats) = false := by simp
  have e2 : (a.bonus != a.bonus) = false := by simp
  have e3 : (a.keeps != a.keeps) = false := by simp
  have e4 : (a.fall != a.fall) = false := by simp
  go_enter Tryd.func18, Tryd.ntmps18
  go_wp2_with fail
  refine (eqElementS_any _ _ a.elems _ (H1.out.kept K0) (H3.out.kept K0)).mono ?_
  rintro e w1 ⟨rfl, k1⟩
  have B0 := ((Box.new w w.heap.size 39 #[nv, mv, .int .i64 a.repeats, .int .i64 a.bonus, .int .i64 a.keeps, .int .i64 a.fall] rfl).alloc (.cells #[nv', mv', .int .i64 a.repeats, .int .i64 a.bonus, .int .i64 a.keeps, .int .i64 a.fall] 39)).kept k1
  have B1 := (Box.new (w.alloc (.cells #[nv, mv, .int .i64 a.repeats, .int .i64 a.bonus, .int .i64 a.keeps, .int .i64 a.fall] 39)) (w.heap.size + 1) 39 #[nv', mv', .int .i64 a.repeats, .int .i64 a.bonus, .int .i64 a.keeps, .int .i64 a.fall] (by simp)).kept k1
  obtain ⟨c0, f0⟩ := B0.six
  obtain ⟨c1, f1⟩ := B1.six
  have K1 := K0.trans k1
  clear k1 f0 f1
  go_wp2_with fail
  clear c0 c1
  refine (eqIntS_any _ _ a.limits a.limits _ (H2.out.kept K1) (H4.out.kept K1)).mono ?_
  rintro e w2 ⟨rfl, k2⟩
  obtain ⟨c0, f0⟩ := (B0.kept k2).six
  obtain ⟨c1, f1⟩ := (B1.kept k2).six
  have K2 := K1.trans k2
  have hd : decide (a.limits = a.limits) = true := by simp
  rw [hd]
  clear hd f0 f1
  go_wp2_with fail
  go_ret
  exact ⟨rfl, K2⟩
end Go.Proofs.YtkkdhmbkpebajaaDoor

/- Codes copied. -/
namespace Go.Proofs.YtkkdhmbkpebajaaDoor
set_option linter.unusedVariables false
set_option linter.unusedSimpArgs false
open Go.RowKit

end Go.Proofs.YtkkdhmbkpebajaaDoor

/- Codes: GreatestBase. -/
namespace Go.Proofs.YtkkdhmbkpebajaaDoor
set_option linter.unusedVariables false
set_option linter.unusedSimpArgs false
open Go.RowKit

def askedB (x : CodeD) (f : Int) : Bool := codeB x && inB f 0 4
def mostB (es : List ElemD) (f : Int) : Int := es.foldl (fun m y => if y.family = f then max m y.base else m) 0
def gbV (x : CodeD) (f : Int) : Int := if askedB x f then mostB x.elems f else 0
theorem ret_ib {a a' : Int} {b b' : Bool} (h1 : a = a') (h2 : b = b') : Ending.returned (.tuple #[.int .i64 a, .bool b]) = .returned (.tuple #[.int .i64 a', .bool b']) := by rw [h1, h2]
theorem gbV_no {x : CodeD} {f : Int} (h : askedB x f = false) : gbV x f = 0 := by unfold gbV; rw [h]; rfl
theorem mostB_snoc {es : List ElemD} {k : Nat} {y : ElemD} (f : Int) (h : es[k]? = some y) : mostB (es.take (k + 1)) f = if y.family = f then max (mostB (es.take k) f) y.base else mostB (es.take k) f := by
  unfold mostB
  rw [take_snoc h, List.foldl_append]
  rfl
end Go.Proofs.YtkkdhmbkpebajaaDoor

/- Codes: the element with a name. -/
namespace Go.Proofs.YtkkdhmbkpebajaaDoor
set_option linter.unusedVariables false
set_option linter.unusedSimpArgs false
open Go.RowKit

def hitB (s : ByteArray) (y : ElemD) : Bool := y.name.toList == s.toList
def findV (es : List ElemD) (s : ByteArray) : Int := match es.findIdx? (hitB s) with | some k => (k : Int) | none => -1
theorem findV_hit {es : List ElemD} {s : ByteArray} {k : Nat} {y : ElemD} (h : es[k]? = some y) (hy : hitB s y = true) (hb : ∀ j z, j < k → es[j]? = some z → hitB s z = false) : findV es s = k := by
  obtain ⟨hk, rfl⟩ := List.getElem?_eq_some_iff.1 h
  have : es.findIdx? (hitB s) = some k := List.findIdx?_eq_some_iff_getElem.2 ⟨hk, hy, fun j hj => by
    rw [hb j es[j] hj (List.getElem?_eq_getElem (by omega))]
    exact Bool.false_ne_true⟩
  unfold findV
  rw [this]
theorem findV_none {es : List ElemD} {s : ByteArray} (hb : ∀ j z, j < es.length → es[j]? = some z → hitB s z = false) : findV es s = -1 := by
  have : es.findIdx? (hitB s) = none := List.findIdx?_eq_none_iff.2 fun z hz => by
    obtain ⟨j, hj⟩ := List.getElem?_of_mem hz
    exact hb j z (List.getElem?_eq_some_iff.1 hj).1 hj
  unfold findV
  rw [this]
theorem findV_cases (es : List ElemD) (s : ByteArray) : findV es s = -1 ∨ ∃ (k : Nat) (y : ElemD), findV es s = k ∧ es[k]? = some y ∧ hitB s y = true := by
  unfold findV
  cases h : es.findIdx? (hitB s) with
  | none => exact .inl rfl
  | some k =>
    obtain ⟨hk, hy, _⟩ := List.findIdx?_eq_some_iff_getElem.1 h
    exact .inr ⟨k, es[k], rfl, List.getElem?_eq_getElem hk, hy⟩
def feOk (x : CodeD) (s : ByteArray) : Bool := codeB x && decide (0 ≤ findV x.elems s)
def feV (x : CodeD) (s : ByteArray) : Int := if feOk x s then findV x.elems s else 0
theorem feV_no {x : CodeD} {s : ByteArray} (h : feOk x s = false) : feV x s = 0 := by unfold feV; rw [h]; rfl
theorem feV_yes {x : CodeD} {s : ByteArray} (h : feOk x s = true) : feV x s = findV x.elems s := if_pos h
theorem none_snoc {es : List ElemD} {s : ByteArray} {k : Nat} {y : ElemD} (h : es[k]? = some y) (hy : hitB s y = false) (hb : ∀ j z, j < k → es[j]? = some z → hitB s z = false) : ∀ j z, j < k + 1 → es[j]? = some z → hitB s z = false := by
  intro j z hj hz
  rcases Nat.lt_or_eq_of_le (Nat.le_of_lt_succ hj) with h1 | rfl
  · exact hb j z h1 hz
  · rw [h] at hz
    injection hz with hz
    subst hz
    exact hy
end Go.Proofs.YtkkdhmbkpebajaaDoor

/- Codes: ElementWorth. -/
namespace Go.Proofs.YtkkdhmbkpebajaaDoor
set_option linter.unusedVariables false
set_option linter.unusedSimpArgs false
open Go.RowKit

theorem codeB_elem {x : CodeD} {k : Nat} {y : ElemD} (h : codeB x = true) (hy : x.elems[k]? = some y) : elemB y = true := by
  unfold codeB elemsB at h
  simp only [Bool.and_eq_true] at h
  have h1 := List.all_eq_true.1 h.2 k (by have := (List.getElem?_eq_some_iff.1 hy).1; simpa using this)
  unfold stepB at h1
  rw [hy] at h1
  simp only [Bool.and_eq_true] at h1
  exact h1.1
theorem elemB_parts {y : ElemD} (h : elemB y = true) : (0 ≤ y.family ∧ y.family ≤ 4) ∧ (0 ≤ y.level ∧ y.level ≤ 4) ∧ 1 ≤ y.base ∧ y.base ≤ 2000 := by
  unfold elemB at h
  simp only [Bool.and_eq_true] at h
  exact ⟨inB_true h.1.1.2, inB_true h.1.2, inB_true h.2⟩
theorem codeB_rests {x : CodeD} (h : codeB x = true) : (1 ≤ x.repeats ∧ x.repeats ≤ 3) ∧ (0 ≤ x.bonus ∧ x.bonus ≤ 20) ∧ (50 ≤ x.keeps ∧ x.keeps ≤ 100) ∧ 0 ≤ x.fall ∧ x.fall ≤ 500 := by
  unfold codeB restB at h
  simp only [Bool.and_eq_true] at h
  exact ⟨inB_true h.1.2.1.1.1, inB_true h.1.2.1.1.2, inB_true h.1.2.1.2, inB_true h.1.2.2⟩
theorem codeB_heads {x : CodeD} (h : codeB x = true) : (1 ≤ x.elems.length ∧ x.elems.length ≤ 24) ∧ x.limits.length = 5 := by
  unfold codeB headB at h
  simp only [Bool.and_eq_true] at h
  have := inB_true h.1.1.1.1
  exact ⟨⟨by omega, by omega⟩, by simpa using h.1.1.1.2⟩
def worthN (keeps base m : Int) : Int := if m = 1 then base * keeps / 100 else if m = 2 then base * 9 / 10 else if m = 3 then 0 else base
theorem worthN_nonneg {keeps base : Int} (m : Int) (h1 : 0 ≤ keeps) (h2 : 0 ≤ base) : 0 ≤ worthN keeps base m := by
  have := Int.mul_nonneg h2 h1
  unfold worthN
  split
  · exact Int.ediv_nonneg this (by omega)
  · split
    · exact Int.ediv_nonneg (by omega) (by omega)
    · split <;> omega
def worthAt (x : CodeD) (s : ByteArray) (m : Int) : Int := if 0 ≤ findV x.elems s then match x.elems[(findV x.elems s).toNat]? with | some y => worthN x.keeps y.base m | none => -1 else -1
theorem worthAt_none {x : CodeD} {s : ByteArray} (m : Int) (h : findV x.elems s = -1) : worthAt x s m = -1 := by unfold worthAt; rw [h]; rfl
theorem worthAt_hit {x : CodeD} {s : ByteArray} {k : Nat} {y : ElemD} (m : Int) (h : findV x.elems s = k) (hy : x.elems[k]? = some y) : worthAt x s m = worthN x.keeps y.base m := by
  unfold worthAt
  rw [h, if_pos (by omega), Int.toNat_natCast, hy]
def ewOk (x : CodeD) (s : ByteArray) (m : Int) : Bool := feOk x s && inB m 0 3
def ewV (x : CodeD) (s : ByteArray) (m : Int) : Int := if ewOk x s m then worthAt x s m else 0
theorem ewV_no {x : CodeD} {s : ByteArray} {m : Int} (h : ewOk x s m = false) : ewV x s m = 0 := by unfold ewV; rw [h]; rfl
theorem ewV_yes {x : CodeD} {s : ByteArray} {m : Int} (h : ewOk x s m = true) : ewV x s m = worthAt x s m := if_pos h
theorem feOk_hit {x : CodeD} {s : ByteArray} {k : Nat} (hc : codeB x = true) (h : findV x.elems s = k) : feOk x s = true := by
  unfold feOk
  rw [hc, h, Bool.true_and]
  exact decide_eq_true (by omega)
theorem feOk_none {x : CodeD} {s : ByteArray} (h : findV x.elems s = -1) : feOk x s = false := by
  unfold feOk
  rw [h]
  exact Bool.and_false _
end Go.Proofs.YtkkdhmbkpebajaaDoor

/- Codes copied by the reference and by the program. -/
namespace Go.Proofs.YtkkdhmbkpebajaaDoor
set_option linter.unusedVariables false
set_option linter.unusedSimpArgs false
open Go.RowKit

theorem Box.far6 {w : World} {b g : Nat} {t : TypeId} {cs : Array Value} (h : Box w b t cs) (hne : b ≠ g) (u0 u1 u2 u3 u4 u5 : Value) :
    Box ((((((w.setCell ⟨g, 0, none⟩ u0).setCell ⟨g, 1, none⟩ u1).setCell ⟨g, 2, none⟩ u2).setCell ⟨g, 3, none⟩ u3).setCell ⟨g, 4, none⟩ u4).setCell ⟨g, 5, none⟩ u5) b t cs :=
  (((((h.far ⟨g, 0, none⟩ hne u0).far ⟨g, 1, none⟩ hne u1).far ⟨g, 2, none⟩ hne u2).far ⟨g, 3, none⟩ hne u3).far ⟨g, 4, none⟩ hne u4).far ⟨g, 5, none⟩ hne u5
theorem set6 {w : World} {g : Nat} {t : TypeId} {x0 x1 x2 x3 x4 x5 : Value} (h : Box w g t #[x0, x1, x2, x3, x4, x5]) (u0 u1 u2 u3 u4 u5 : Value) :
    ∃ w3, w3 = ((((((w.setCell ⟨g, 0, none⟩ u0).setCell ⟨g, 1, none⟩ u1).setCell ⟨g, 2, none⟩ u2).setCell ⟨g, 3, none⟩ u3).setCell ⟨g, 4, none⟩ u4).setCell ⟨g, 5, none⟩ u5) ∧ Box w3 g t #[u0, u1, u2, u3, u4, u5] ∧ Only [g] w w3 := by
  refine ⟨_, rfl, (((((h.set 0 u0).set 1 u1).set 2 u2).set 3 u3).set 4 u4).set 5 u5, ?_⟩
  repeat (refine Only.setCell ?_ (by simp) _)
  exact Only.refl _ _
end Go.Proofs.YtkkdhmbkpebajaaDoor

/- Codes under construction by a draw: a box with a row of elements and a row of limits, beside a cursor. -/
namespace Go.Proofs.YtkkdhmbkpebajaaDoor
set_option linter.unusedVariables false
set_option linter.unusedSimpArgs false
set_option linter.unnecessarySimpa false
open Go.RowKit

/-- a code lies in a box (bb); the cursor at p; w1: the world in which the draw began -/
structure DrSt (p bb B m : Nat) (w1 wr : World) (c : CodeD) (ev lv : Value) : Prop where
  box : Box wr bb 39 #[ev, lv, .int .i64 c.repeats, .int .i64 c.bonus, .int .i64 c.keeps, .int .i64 c.fall]
  elems : OwnE wr B ev c.elems
  lims : OwnI wr B lv c.limits
  apart : ∀ b ∈ fp ev, b ∉ fp lv
  cur : Cur wr p m
  only : Only [p] w1 wr
  hp : p < w1.heap.size
  hbb : w1.heap.size ≤ bb
  hB : w1.heap.size ≤ B
  ne : ∀ b ∈ fp ev ++ fp lv, b ≠ bb
theorem not_one {l x : Nat} (h : l ≠ x) : l ∉ [x] := fun hm => by rw [List.mem_singleton] at hm; exact h hm
section
variable {p bb B m m' : Nat} {w1 wr w' : World} {c : CodeD} {ev lv : Value}
theorem DrSt.drawn (H : DrSt p bb B m w1 wr c ev lv) (cu : Cur w' p m') (on : Only [p] wr w') : DrSt p bb B m' w1 w' c ev lv := by
  have h1 := H.hp
  have h2 := H.hbb
  have h3 := H.hB
  refine ⟨H.box.only on (not_one (by omega)), H.elems.only on (fun b hb => not_one ?_), H.lims.only on (fun b hb => not_one ?_), H.apart, cu, H.only.trans on, h1, h2, h3, H.ne⟩
  · have := own_fp H.elems.1 b hb; omega
  · have := own_fp H.lims b hb; omega
theorem DrSt.kept (H : DrSt p bb B m w1 wr c ev lv) (k : Kept wr w') : DrSt p bb B m w1 w' c ev lv := H.drawn (H.cur.kept k) (k.only _)
theorem DrSt.le (H : DrSt p bb B m w1 wr c ev lv) (hm : m ≤ m') : DrSt p bb B m' w1 wr c ev lv := { H with cur := H.cur.le hm }
/-- a field of the code's box is written -/
theorem DrSt.poke (H : DrSt p bb B m w1 wr c ev lv) {c' : CodeD} (on : Only [bb] wr w') (hb : Box w' bb 39 #[ev, lv, .int .i64 c'.repeats, .int .i64 c'.bonus, .int .i64 c'.keeps, .int .i64 c'.fall]) (he : c'.elems = c.elems) (hl : c'.limits = c.limits) : DrSt p bb B m w1 w' c' ev lv := by
  have h1 := H.hp
  have h2 := H.hbb
  refine ⟨hb, ?_, ?_, H.apart, H.cur.far on (fun x hx => ?_), H.only.overD on (fun x hx => ?_), h1, h2, H.hB, H.ne⟩
  · rw [he]; exact H.elems.only on (fun b hb => not_one (H.ne b (List.mem_append_left _ hb)))
  · rw [hl]; exact H.lims.only on (fun b hb => not_one (H.ne b (List.mem_append_right _ hb)))
  · rw [List.mem_singleton] at hx; omega
  · rw [List.mem_singleton] at hx; omega
theorem only_set (w : World) (b i : Nat) (u : Value) : Only [b] w (w.setCell ⟨b, i, none⟩ u) := (Only.refl [b] w).setCell (by simp) _
theorem DrSt.repeats (H : DrSt p bb B m w1 wr c ev lv) (x : Int) : DrSt p bb B m w1 (wr.setCell ⟨bb, 2, none⟩ (.int .i64 x)) { c with repeats := x } ev lv := H.poke (only_set _ _ _ _) (H.box.set 2 _) rfl rfl
theorem DrSt.bonus (H : DrSt p bb B m w1 wr c ev lv) (x : Int) : DrSt p bb B m w1 (wr.setCell ⟨bb, 3, none⟩ (.int .i64 x)) { c with bonus := x } ev lv := H.poke (only_set _ _ _ _) (H.box.set 3 _) rfl rfl
theorem DrSt.keeps (H : DrSt p bb B m w1 wr c ev lv) (x : Int) : DrSt p bb B m w1 (wr.setCell ⟨bb, 4, none⟩ (.int .i64 x)) { c with keeps := x } ev lv := H.poke (only_set _ _ _ _) (H.box.set 4 _) rfl rfl
theorem DrSt.fall (H : DrSt p bb B m w1 wr c ev lv) (x : Int) : DrSt p bb B m w1 (wr.setCell ⟨bb, 5, none⟩ (.int .i64 x)) { c with fall := x } ev lv := H.poke (only_set _ _ _ _) (H.box.set 5 _) rfl rfl
/-- the row of elements has turned in its own block, or lies in a new one; the box not yet written -/
theorem DrSt.midE (H : DrSt p bb B m w1 wr c ev lv) (on : Only (fp ev) wr w') :
    Box w' bb 39 #[ev, lv, .int .i64 c.repeats, .int .i64 c.bonus, .int .i64 c.keeps, .int .i64 c.fall] ∧ Cur w' p m ∧ OwnI w' B lv c.limits ∧ Only [p] w1 w' := by
  have h1 := H.hp
  have h3 := H.hB
  have hf := own_fp H.elems.1
  exact ⟨H.box.only on (fun hb => H.ne bb (List.mem_append_left _ hb) rfl), H.cur.far on (fun x hx => by have := hf x hx; omega), H.lims.only on (fun b hb hb' => H.apart b hb' hb), H.only.overD on (fun x hx => by have := hf x hx; omega)⟩
theorem DrSt.setE (H : DrSt p bb B m w1 wr c ev lv) {es : List ElemD} {v' : Value} (on : Only (fp ev) wr w') (o : OwnE w' B v' es) (f : ∀ b ∈ fp v', b ∈ fp ev ∨ b = wr.heap.size) :
    DrSt p bb B m w1 (w'.setCell ⟨bb, 0, none⟩ v') { c with elems := es } v' lv := by
  have h1 := H.hp
  have h2 := H.hbb
  have h3 := H.hB
  have hl := H.box.lt
  obtain ⟨b1, c1, l1, n1⟩ := H.midE on
  have on5 := only_set w' bb 0 v'
  have w4 : ∀ b ∈ fp v', b ≠ bb ∧ b ∉ fp lv := fun b hb => by
    rcases f b hb with q | q
    · exact ⟨H.ne b (List.mem_append_left _ q), H.apart b q⟩
    · refine ⟨by omega, fun hx => ?_⟩
      have := own_fp H.lims b hx
      omega
  refine ⟨b1.set 0 v', o.only on5 (fun b hb => not_one (w4 b hb).1), l1.only on5 (fun b hb => not_one (H.ne b (List.mem_append_right _ hb))), fun b hb => (w4 b hb).2, c1.far on5 (fun x hx => ?_), n1.overD on5 (fun x hx => ?_), h1, h2, h3, fun b hb => ?_⟩
  · rw [List.mem_singleton] at hx; omega
  · rw [List.mem_singleton] at hx; omega
  · rcases List.mem_append.1 hb with hb | hb
    · exact (w4 b hb).1
    · exact H.ne b (List.mem_append_right _ hb)
theorem DrSt.midL (H : DrSt p bb B m w1 wr c ev lv) (on : Only (fp lv) wr w') :
    Box w' bb 39 #[ev, lv, .int .i64 c.repeats, .int .i64 c.bonus, .int .i64 c.keeps, .int .i64 c.fall] ∧ Cur w' p m ∧ OwnE w' B ev c.elems ∧ Only [p] w1 w' := by
  have h1 := H.hp
  have h3 := H.hB
  have hf := own_fp H.lims
  exact ⟨H.box.only on (fun hb => H.ne bb (List.mem_append_right _ hb) rfl), H.cur.far on (fun x hx => by have := hf x hx; omega), H.elems.only on (fun b hb hb' => H.apart b hb hb'), H.only.overD on (fun x hx => by have := hf x hx; omega)⟩
theorem DrSt.setL (H : DrSt p bb B m w1 wr c ev lv) {zs : List Int} {v' : Value} (on : Only (fp lv) wr w') (o : OwnI w' B v' zs) (f : ∀ b ∈ fp v', b ∈ fp lv ∨ b = wr.heap.size) :
    DrSt p bb B m w1 (w'.setCell ⟨bb, 1, none⟩ v') { c with limits := zs } ev v' := by
  have h1 := H.hp
  have h2 := H.hbb
  have h3 := H.hB
  have hl := H.box.lt
  obtain ⟨b1, c1, l1, n1⟩ := H.midL on
  have on5 := only_set w' bb 1 v'
  have w4 : ∀ b ∈ fp v', b ≠ bb ∧ b ∉ fp ev := fun b hb => by
    rcases f b hb with q | q
    · exact ⟨H.ne b (List.mem_append_right _ q), fun hx => H.apart b hx q⟩
    · refine ⟨by omega, fun hx => ?_⟩
      have := own_fp H.elems.1 b hx
      omega
  refine ⟨b1.set 1 v', l1.only on5 (fun b hb => not_one (H.ne b (List.mem_append_left _ hb))), o.only on5 (fun b hb => not_one (w4 b hb).1), fun b hb hb' => (w4 b hb').2 hb, c1.far on5 (fun x hx => ?_), n1.overD on5 (fun x hx => ?_), h1, h2, h3, fun b hb => ?_⟩
  · rw [List.mem_singleton] at hx; omega
  · rw [List.mem_singleton] at hx; omega
  · rcases List.mem_append.1 hb with hb | hb
    · exact H.ne b (List.mem_append_left _ hb)
    · exact (w4 b hb).1
theorem own_nil' (w : World) (B : Nat) : OwnE w B (.slice none 0 0) [] := ⟨⟨rfl, .inl ⟨rfl, rfl⟩⟩, fun _ h => by cases h⟩
theorem DrSt.nilE (H : DrSt p bb B m w1 wr c ev lv) : DrSt p bb B m w1 (wr.setCell ⟨bb, 0, none⟩ (.slice none 0 0)) { c with elems := [] } (.slice none 0 0) lv :=
  H.setE (Only.refl _ _) (own_nil' _ _) (fun b hb => by cases hb)
theorem DrSt.own (H : DrSt p bb B m w1 wr c ev lv) : OwnK wr B (.agg #[ev, lv, .int .i64 c.repeats, .int .i64 c.bonus, .int .i64 c.keeps, .int .i64 c.fall]) c := by
  refine ⟨ev, lv, rfl, H.elems, H.lims, ?_⟩
  rw [fpA_code, List.nodup_append]
  exact ⟨nodup_one _, nodup_one _, fun x hx y hy e => H.apart x hx (e ▸ hy)⟩
/-- a cell of an own row is written -/
theorem own_set {w : World} {base : Nat} {e : TypeId} {size n cap g j : Nat} {xs : List Value} (h : w.ownsRow base e size (.slice (some ⟨g, 0, none⟩) n cap) n xs) (u : Value) :
    (w.setCell ⟨g, j, none⟩ u).ownsRow base e size (.slice (some ⟨g, 0, none⟩) n cap) n (xs.set j u) := by
  obtain ⟨cur, hb, h1, h2, h3, h4⟩ := own_box h
  have hg := (own_fp h g (by simp [fp_some])).1
  refine own_of_box (hb.set j u) hg h1 h2 (by simp [h3]) ?_
  rw [← h4, Array.toList_setIfInBounds, List.take_set]
theorem flat_set (e' : ElemD) (u : Value) (j : Nat) (hj : j < 4) : ∀ (es : List ElemD) (k : Nat) (e : ElemD), es[k]? = some e → cells4 e' = (cells4 e).set j u → (es.flatMap cells4).set (k * 4 + j) u = (es.set k e').flatMap cells4
  | [], k, e, h, _ => by simp at h
  | x :: t, 0, e, h, hc => by
    simp only [List.getElem?_cons_zero, Option.some.injEq] at h
    subst h
    rw [List.set_cons_zero, List.flatMap_cons, List.flatMap_cons, hc, List.set_append_left _ _ (by rw [Nat.zero_mul, Nat.zero_add]; exact hj), Nat.zero_mul, Nat.zero_add]
  | x :: t, k + 1, e, h, hc => by
    rw [List.getElem?_cons_succ] at h
    have ih := flat_set e' u j hj t k e h hc
    have hl : (cells4 x).length = 4 := rfl
    rw [List.set_cons_succ, List.flatMap_cons, List.flatMap_cons, List.set_append_right _ _ (by rw [hl]; omega), hl, show (k + 1) * 4 + j - 4 = k * 4 + j from by omega, ih]
theorem DrSt.cellE (H : DrSt p bb B m w1 wr c ev lv) {g n cap k j : Nat} {e e' : ElemD} {u : Value} (hv : ev = .slice (some ⟨g, 0, none⟩) n cap) (hk : c.elems[k]? = some e) (hj : j < 4) (hc : cells4 e' = (cells4 e).set j u) (hs : e'.name.size ≤ maxLen) :
    DrSt p bb B m w1 (wr.setCell ⟨g, k * 4 + j, none⟩ u) { c with elems := c.elems.set k e' } ev lv := by
  subst hv
  have h1 := H.hp
  have h3 := H.hB
  have on : Only (fp (.slice (some ⟨g, 0, none⟩) n cap)) wr (wr.setCell ⟨g, k * 4 + j, none⟩ u) := only_set wr g _ u
  obtain ⟨b1, c1, l1, n1⟩ := H.midE on
  refine ⟨b1, ⟨?_, fun x hx => ?_⟩, l1, H.apart, c1, n1, h1, H.hbb, h3, H.ne⟩
  · obtain ⟨A, cc, e1, _⟩ := own_form H.elems.1
    have hn : n = c.elems.length := by injection e1
    subst hn
    have := own_set (j := k * 4 + j) H.elems.1 u
    rw [flat_set e' u j hj _ k e hk hc] at this
    show World.ownsRow _ B _ 4 _ (c.elems.set k e').length ((c.elems.set k e').flatMap cells4)
    rw [List.length_set]
    exact this
  · rcases List.mem_or_eq_of_mem_set hx with hx | hx
    · exact H.elems.2 x hx
    · rw [hx]; exact hs
theorem DrSt.cellL (H : DrSt p bb B m w1 wr c ev lv) {g n cap k : Nat} {x : Int} (hv : lv = .slice (some ⟨g, 0, none⟩) n cap) :
    DrSt p bb B m w1 (wr.setCell ⟨g, k, none⟩ (.int .i64 x)) { c with limits := c.limits.set k x } ev lv := by
  subst hv
  have h1 := H.hp
  have h3 := H.hB
  have on : Only (fp (.slice (some ⟨g, 0, none⟩) n cap)) wr (wr.setCell ⟨g, k, none⟩ (.int .i64 x)) := only_set wr g _ _
  obtain ⟨b1, c1, l1, n1⟩ := H.midL on
  refine ⟨b1, l1, ?_, H.apart, c1, n1, h1, H.hbb, h3, H.ne⟩
  obtain ⟨A, cc, e1, _⟩ := own_form H.lims
  have hn : n = c.limits.length := by injection e1
  subst hn
  have := own_set (j := k) H.lims (.int .i64 x)
  show World.ownsRow _ B _ 1 _ (c.limits.set k x).length ((c.limits.set k x).map (Value.int .i64))
  rw [List.length_set, List.map_set]
  exact this
end
end Go.Proofs.YtkkdhmbkpebajaaDoor

/- A region that draws its order and ends in a store to a cell that it reads: the last operation is put off; what is asked of the worlds on the way is not asked behind it. -/
namespace Go.Proofs.YtkkdhmbkpebajaaDoor
set_option linter.unusedVariables false
set_option linter.unusedSimpArgs false
open Go.RowKit

/-- the post, but the operations of t at a normal end -/
def tailPost (P : Program) (ops : Array Oper) (t : List Oper) (Q : Exit → Act → World → Prop) : Exit → Act → World → Prop
  | .normal, a, w => wpList P ops Q t a w
  | e, a, w => Q e a w
def popB (ops : Array Oper) (n : Nat) : Bool :=
  decide (ops.size = n + 1) && Region.sinkB .any ops n && Region.chainB .any ops n && ops.toList.all (fun o => o.guard.isNone) && (List.range ops.size).all fun i => match ops[i]? with
    | some o => o.after.toList.all fun e => !Region.binds .any e || decide (e.on < i)
    | none => true
section
variable {P : Program} {Q : Exit → Act → World → Prop}
theorem tail_wp {ops : Array Oper} {t : List Oper} {o : Oper} {a : Act} {w : World} {K : Act → World → Prop} (h : o.wp P a w K (tailPost P ops t Q)) : o.wp P a w K Q := by
  unfold Oper.wp at *
  generalize (execOp a.eval o).run P w = r at *
  cases r with
  | ok n w' =>
    cases n <;> simp only [Oper.upon] at h ⊢ <;>
      first
        | exact h
        | exact Calls.mono h (fun e w'' he => by cases e <;> exact he)
  | halt x w' => cases x <;> simp only [Oper.upon] at h ⊢ <;> exact h
theorem tail_letsOut {ops : Array Oper} {t : List Oper} (h : LetsOut (tailPost P ops t Q)) : LetsOut Q := by
  obtain ⟨a, w, h⟩ := h
  exact ⟨a, w, h⟩
theorem wanted_none {o : Oper} (h : o.guard = none) (y : Nat → Option Bool) : Region.wanted o y = true := by simp [Region.wanted, h]
theorem ready_pop {l : List Oper} {n i : Nat} (hl : l.length = n + 1) {listed : Array Bool} (hi : i < n) : i ∈ Region.ready .any (l.take n).toArray listed ↔ i ∈ Region.ready .any l.toArray listed := by
  rw [mem_ready, mem_ready]
  have e : (l.take n).toArray[i]? = l.toArray[i]? := by simp [List.getElem?_take, hi]
  rw [e]
theorem wpAny_pop {l : List Oper} {n : Nat} (hl : l.length = n + 1) (hs : Region.sinkB .any l.toArray n = true) (hc : Region.chainB .any l.toArray n = true) (hg : ∀ o ∈ l, o.guard = none)
    (hlow : ∀ i o, l.toArray[i]? = some o → ∀ e ∈ o.after, Region.binds .any e = true → e.on < i) :
    ∀ (fuel : Nat) (listed : Array Bool) (a : Act) (w : World), HeadInv .any l.toArray n listed → wpAny P .any (l.take n).toArray (tailPost P l.toArray (l.drop n) Q) fuel listed a w → wpAny P .any l.toArray Q (fuel + 1) listed a w := by
  have hn : n < l.toArray.size := by simp; omega
  -- where none of the head may come up, all of it has
  have hall : ∀ listed, HeadInv .any l.toArray n listed → Region.ready .any (l.take n).toArray listed = [] → ∀ i, i < n → listed.getD i true = true := by
    intro listed inv hr i
    induction i using Nat.strongRecOn with
    | _ i ih =>
      intro hi
      cases h0 : listed.getD i true with
      | true => rfl
      | false =>
        have hin : i ∈ Region.ready .any l.toArray listed := by
          have hlt : i < l.toArray.size := by omega
          refine mem_ready.2 ⟨h0, l.toArray[i], Array.getElem?_eq_getElem hlt, fun e he hb => ?_⟩
          have h1 := hlow i _ (Array.getElem?_eq_getElem hlt) e he hb
          have h2 := ih e.on h1 (by omega)
          have h3 : e.on < listed.size := by rw [inv.size]; omega
          simp [h3] at h2 ⊢
          exact h2
        rw [← ready_pop hl hi, hr] at hin
        cases hin
  have hlast : ∀ listed a w, HeadInv .any l.toArray n listed → Region.ready .any (l.take n).toArray listed = [] → wpList P l.toArray Q (l.drop n) a w → ∀ f, wpAny P .any l.toArray Q (f + 1) listed a w := by
    intro listed a w inv hr h f
    have ha := hall listed inv hr
    have hnr : n ∈ Region.ready .any l.toArray listed := by
      refine mem_ready.2 ⟨inv.tail n (Nat.le_refl _) hn, l.toArray[n], Array.getElem?_eq_getElem hn, fun e he hb => ?_⟩
      have h1 := hlow n _ (Array.getElem?_eq_getElem hn) e he hb
      have h2 := ha e.on h1
      have h3 : e.on < listed.size := by rw [inv.size]; omega
      simp [h3] at h2 ⊢
      exact h2
    have honly : ∀ i ∈ Region.ready .any l.toArray listed, i = n := by
      intro i hi
      obtain ⟨h0, o, ho, _⟩ := mem_ready.1 hi
      have hlt : i < l.toArray.size := (Array.getElem?_eq_some_iff.1 ho).1
      have hlt' : i < n + 1 := by simpa [hl] using hlt
      rcases Nat.lt_or_ge i n with hi' | hi'
      · rw [ha i hi'] at h0; cases h0
      · omega
    refine ⟨fun h0 => absurd h0 (List.ne_nil_of_mem hnr), fun i hi => ?_⟩
    obtain rfl := honly i hi
    have hd : l.drop i = [l[i]'(by omega)] := by
      rw [List.drop_eq_getElem_cons (by omega), List.drop_eq_nil_of_le (by omega)]
    rw [hd] at h
    have h0 : l.toArray[i]? = some (l[i]'(by omega)) := by simp
    have hw : wpOp P l.toArray Q i (wpList P l.toArray Q []) a w := by unfold wpOp; simp only [h0]; exact h
    refine wpOp_mono (fun a' w' h' => ?_) hw
    have hnone : Region.ready .any l.toArray (listed.setIfInBounds i true) = [] := by
      refine List.eq_nil_iff_forall_not_mem.2 fun j hj => ?_
      obtain ⟨h1, o, ho, _⟩ := mem_ready.1 hj
      have hlt : j < l.toArray.size := (Array.getElem?_eq_some_iff.1 ho).1
      have hlt' : j < i + 1 := by simpa [hl] using hlt
      by_cases hji : i = j
      · subst hji
        have : i < listed.size := by rw [inv.size]; omega
        simp [this] at h1
      · rw [getD_set_ne true hji] at h1
        rw [ha j (by omega)] at h1
        cases h1
    cases f with
    | zero => exact ⟨hnone, h'⟩
    | succ f => exact ⟨fun _ => h', by rw [hnone]; simp⟩
  intro fuel
  induction fuel with
  | zero => exact fun listed a w inv h => hlast listed a w inv h.1 h.2 0
  | succ fuel ih =>
    intro listed a w inv h
    by_cases hr : Region.ready .any (l.take n).toArray listed = []
    · exact hlast listed a w inv hr (h.1 hr) (fuel + 1)
    · obtain ⟨i0, hi0⟩ := List.exists_mem_of_ne_nil _ hr
      obtain ⟨hu0, o0, ho0, _⟩ := mem_ready.1 hi0
      have hi0n : i0 < n := by
        have := (Array.getElem?_eq_some_iff.1 ho0).1
        simp at this
        omega
      have hnot := tail_waits hs hc hn inv _ i0 rfl hi0n hu0
      refine ⟨fun h0 => ?_, fun i hi => ?_⟩
      · rw [ready_pop hl hi0n, h0] at hi0
        cases hi0
      · have hin : i < n := by
          rcases Nat.lt_or_ge i n with hi' | hi'
          · exact hi'
          · exact absurd hi (hnot i hi')
        have h1 := h.2 i ((ready_pop hl hin).2 hi)
        have e : (l.take n).toArray[i]? = l.toArray[i]? := by simp [List.getElem?_take, hin]
        have hlt : i < l.toArray.size := by omega
        have hgo : (l.toArray[i]).guard = none := hg _ (by simp)
        have e2 : l.toArray[i]? = some l.toArray[i] := Array.getElem?_eq_getElem hlt
        unfold wpOp at h1 ⊢
        rw [e, e2] at h1
        rw [e2]
        simp only [wanted_none hgo, if_true] at h1 ⊢
        rcases h1 with h1 | ⟨h1, h2⟩
        · exact .inl (Oper.wp_mono (fun a' w' h' => ih _ a' w' (inv.set hi hin) h') (tail_wp h1))
        · exact .inr ⟨h1, tail_letsOut h2⟩
theorem region_pop {S : World → Prop} {id : Nat} {a : Act} {w : World} {l : List Oper} (n : Nat) (hm : P.follows .mixedOrders = true) (hB : popB l.toArray n = true)
    (h : wpAnyH P .any (l.take n).toArray (tailPost P l.toArray (l.drop n) Q) S n (Array.replicate (n + 1) false) a w.drew) : (Code.region id l.toArray true).wp P Q a w := by
  simp only [popB, Bool.and_eq_true, decide_eq_true_eq] at hB
  obtain ⟨⟨⟨⟨hz, hs⟩, hc⟩, hg⟩, hlow⟩ := hB
  have hl : l.length = n + 1 := by simpa using hz
  have inv0 : HeadInv .any l.toArray n (Array.replicate (n + 1) false) :=
    ⟨by simp [hl], fun j oj _ hx => (by rw [getD_replicate_false] at hx; cases hx), fun t _ ht => getD_in (by simpa [hl] using ht) (getD_replicate_false _ _)⟩
  refine wp_region_any hm ?_
  have hsz : l.toArray.size = n + 1 := hz
  rw [hsz]
  refine wpAny_pop hl hs hc (fun o ho => ?_) (fun i o ho e he hb => ?_) n _ a _ inv0 (wpAny_of_held _ _ _ _ h)
  · have := List.all_eq_true.1 hg o ho
    exact Option.isNone_iff_eq_none.1 this
  · have hlt : i < l.toArray.size := (Array.getElem?_eq_some_iff.1 ho).1
    have h1 := List.all_eq_true.1 hlow i (List.mem_range.2 hlt)
    rw [ho] at h1
    have h2 := List.all_eq_true.1 h1 e (Array.mem_def.1 he)
    rw [hb] at h2
    simpa using h2
end
/-! the moves, for regions written out as lists -/
section
variable {P : Program} {Q : Exit → Act → World → Prop} {S : World → Prop} {md : Region.Mode}
theorem startL {l : List Oper} {fuel : Nat} {listed : Array Bool} {a : Act} {w : World} (hS : S w) (h : S w → wpAnyH P md l.toArray Q S fuel listed a w) : wpAnyH P md l.toArray Q S fuel listed a w := h hS
theorem takeL {i : Nat} {oi : Oper} {v : Value} {l : List Oper} {fuel : Nat} {listed : Array Bool} {a : Act} {w : World} (hi : l[i]? = some oi)
    (hs : Region.noSelect l.toArray = true) (hf : Region.free md l.toArray listed i = true) (hr : (Region.ready md l.toArray listed).contains i = true)
    (hQ : ∀ c a w, Q (.panic c) (a.put oi.dst v) w → Q (.panic c) a w) (hy : YieldsIf P l.toArray S oi v a) (hS : S w)
    (h : wpAnyH P md l.toArray Q S fuel (listed.setIfInBounds i true) (a.put oi.dst v) w) : wpAnyH P md l.toArray Q S (fuel + 1) listed a w :=
  wpAnyH_take (by simpa using hi) hs hf hr hQ hy hS h
theorem onlyL {i : Nat} {oi : Oper} {l : List Oper} {fuel : Nat} {listed : Array Bool} {a : Act} {w : World} (hi : l[i]? = some oi) (hr : Region.ready md l.toArray listed = [i])
    (h : ∀ K' : Act → World → Prop, Shut (∀ a w, S w → (S w → wpAnyH P md l.toArray Q S fuel (listed.setIfInBounds i true) a w) → K' a w) → if Region.wanted oi (yielded l.toArray a.tmps) = true then Oper.wp P oi a w K' Q else K' (a.put oi.dst undef) w) :
    wpAnyH P md l.toArray Q S (fuel + 1) listed a w :=
  wpAnyH_ready hr (by simp) (AllReadyH.cons (by simpa using hi) h AllReadyH.nil)
theorem doneL {l : List Oper} {fuel : Nat} {listed : Array Bool} {a : Act} {w : World} {ops : Array Oper} {t : List Oper} (hr : Region.ready md l.toArray listed = []) (h : wpList P ops Q t a w) :
    wpAnyH P md l.toArray (tailPost P ops t Q) S fuel listed a w := wpAnyH_done hr h fuel
theorem readyL {rs : List Nat} {l : List Oper} {fuel : Nat} {listed : Array Bool} {a : Act} {w : World} (hr : Region.ready md l.toArray listed = rs) (hne : rs ≠ [])
    (h : AllReadyH P md l.toArray Q S fuel listed a w rs) : wpAnyH P md l.toArray Q S (fuel + 1) listed a w := wpAnyH_ready hr hne h
theorem allNil {l : List Oper} {fuel : Nat} {listed : Array Bool} {a : Act} {w : World} : AllReadyH P md l.toArray Q S fuel listed a w [] := AllReadyH.nil
theorem consL {i : Nat} {oi : Oper} {rs : List Nat} {l : List Oper} {fuel : Nat} {listed : Array Bool} {a : Act} {w : World} (hi : l[i]? = some oi)
    (h : ∀ K' : Act → World → Prop, Shut (∀ a w, S w → (S w → wpAnyH P md l.toArray Q S fuel (listed.setIfInBounds i true) a w) → K' a w) → if Region.wanted oi (yielded l.toArray a.tmps) = true then Oper.wp P oi a w K' Q else K' (a.put oi.dst undef) w)
    (hs : AllReadyH P md l.toArray Q S fuel listed a w rs) : AllReadyH P md l.toArray Q S fuel listed a w (i :: rs) := AllReadyH.cons (by simpa using hi) h hs
end
end Go.Proofs.YtkkdhmbkpebajaaDoor

/- Codes: a code if it is valid. -/
namespace Go.Proofs.YtkkdhmbkpebajaaDoor
set_option linter.unusedVariables false
set_option linter.unusedSimpArgs false
open Go.RowKit

def zeroC : CodeD := ⟨[], [], 0, 0, 0, 0⟩
def ifC (x : CodeD) : CodeD := if codeB x then x else zeroC
theorem ifC_yes {x : CodeD} (h : codeB x = true) : ifC x = x := if_pos h
theorem ifC_no {x : CodeD} (h : codeB x = false) : ifC x = zeroC := by unfold ifC; rw [h]; rfl
theorem zeroC_own (w : World) (base : Nat) : OwnK w base (.agg #[.slice none 0 0, .slice none 0 0, .int .i64 0, .int .i64 0, .int .i64 0, .int .i64 0]) zeroC :=
  ⟨_, _, rfl, ⟨World.ownsRow_nil _ _ _ _, fun _ h => (by cases h)⟩, World.ownsRow_nil _ _ _ _, by rw [fpA_code]; simp [fp, Value.ownBlock]⟩
theorem OwnK.base {w : World} {base base' : Nat} {v : Value} {x : CodeD} (h : OwnK w base v x) (hb : base' ≤ base) : OwnK w base' v x := by
  obtain ⟨ev, lv, rfl, h1, h2, h3⟩ := h
  exact ⟨ev, lv, rfl, ⟨own_base h1.1 hb, h1.2⟩, own_base h2 hb, h3⟩
theorem OwnK.far {w w' : World} {base base' : Nat} {v : Value} {x : CodeD} {S : List Nat} (h : OwnK w base v x) (ho : Only S w w') (hS : ∀ b ∈ S, b < base ∨ w.heap.size ≤ b) (hb : base' ≤ base) : OwnK w' base' v x :=
  OwnK.base (h.only ho (fun b hb hs => by have := h.fps b hb; have := hS b hs; omega)) hb
theorem Box.zero6 {w : World} {b : Nat} {t : TypeId} (h : Box w b t #[.slice none 0 0, .slice none 0 0, .int .i64 0, .int .i64 0, .int .i64 0, .int .i64 0]) : True := trivial
end Go.Proofs.YtkkdhmbkpebajaaDoor

/- The marks that the laws write: elements, codes. -/
namespace Go.Proofs.YtkkdhmbkpebajaaDoor
set_option linter.unusedVariables false
set_option linter.unusedSimpArgs false
open Go.RowKit

def markE (k : Int) : ElemD := ⟨mt k, k + 1, k + 2, k + 3⟩
def marksE (k : Int) (n : Nat) : List ElemD := (List.range n).map fun (i : Nat) => markE (k + 4 * (i : Int))
theorem marksE_length (k : Int) (n : Nat) : (marksE k n).length = n := by simp [marksE]
theorem marksE_get {k : Int} {n i : Nat} (h : i < n) : (marksE k n)[i]? = some (markE (k + 4 * i)) := by simp [marksE, h]
theorem marksE_size (k : Int) (n : Nat) : ∀ e ∈ marksE k n, e.name.size ≤ maxLen := by
  intro z hz
  unfold marksE at hz
  obtain ⟨i, _, rfl⟩ := List.mem_map.1 hz
  exact mt_size _
set_option maxHeartbeats 2000000 in
theorem markElementS_any (v : Value) (es : List ElemD) (k : Int) (w : World) (base : Nat) (h : OwnE w base v es) (hk : 1 ≤ k) (hk2 : k ≤ 274877906944) (hn : es.length ≤ 1048576) :
    Calls Tryd.prog 48 #[v, .int .i64 k] w fun e w' => e = .returned (.int .i64 (k + 4 * es.length)) ∧ OwnE w' base v (marksE k es.length) ∧ Only (fp v) w w' := by
  obtain ⟨A, c, rfl, hnc, hcm, hA⟩ := own_form h.1
  unfold maxLen at hcm
  have HA := Lib.hid hA
  have HI := Lib.hid h.1
  clear h hA
  go_enter Tryd.func48, Tryd.ntmps48
  go_wp2_with fail
  go_loopw [1, 5] (fun q i wr => ∃ (j : Nat) (xs : List Value), j ≤ es.length ∧ i = .int .i64 j ∧ q = .int .i64 (k + 4 * j) ∧ wr.ownsRow base 75 4 (.slice A es.length c) es.length xs ∧ xs.take (j * 4) = ((marksE k es.length).take j).flatMap cells4 ∧ Only (fp (.slice A es.length c)) w wr) (fun _ i _ => es.length - (intOf i).toNat)
  case atStart => exact ⟨0, _, Nat.zero_le _, rfl, by simp, HI.out, by simp, Only.refl _ _⟩
  case round =>
    obtain ⟨j, xs, hj, rfl, rfl, ho, ht, hon⟩ := hrel
    have hlen : xs.length = es.length * 4 := ho.1
    by_cases hlt : j < es.length
    · obtain ⟨g, rfl⟩ := HA.out (by omega)
      have HT := Lib.hid ht
      have HO := Lib.hid hlen
      have HN := Lib.hid hon
      have HR := Lib.hid ho
      clear ht hlen ho hon
      go_wp2_with fail
      refine (markText_any _ _ (by omega) (by omega)).mono ?_
      rintro e w1 ⟨rfl, k1⟩
      have ho1 := own_kept HR.out k1
      obtain ⟨u0, _, x0, y0⟩ := own_at ho1 (j := j * 4) (by omega)
      obtain ⟨u1, _, x1, y1⟩ := own_at ho1 (j := j * 4 + 1) (by omega)
      obtain ⟨u2', _, x2, y2⟩ := own_at ho1 (j := j * 4 + 2) (by omega)
      obtain ⟨u3', _, x3, y3⟩ := own_at ho1 (j := j * 4 + 3) (by omega)
      have HO1 := Lib.hid ho1
      clear ho1
      go_wp2_with fail
      go_roundw
      case rel =>
        refine ⟨j + 1, _, by omega, by go_num, by go_num, ((((HO1.out.stored (j * 4) _).1.stored (j * 4 + 1) _).1.stored (j * 4 + 2) _).1.stored (j * 4 + 3) _).1, ?_, ?_⟩
        · rw [set4_take HO.out hlt HT.out, take_snoc (marksE_get hlt)]
          simp [cells4, markE]
          try omega
        · repeat (refine Only.setCell ?_ (by simp [fp_some]) _)
          exact HN.out.trans (k1.only _)
      case measure => simp [intOf]; omega
    · obtain rfl : j = es.length := by omega
      have hx : xs = (marksE k es.length).flatMap cells4 := by rw [List.take_of_length_le (by omega), List.take_of_length_le (by rw [marksE_length]; exact Nat.le_refl _)] at ht; exact ht
      have HX := Lib.hid hx
      have HR := Lib.hid ho
      have HN := Lib.hid hon
      clear hx ht ho hon hlen
      go_wp2_with fail
      go_ret
      refine ⟨rfl, ⟨?_, marksE_size _ _⟩, HN.out⟩
      rw [marksE_length, ← HX.out]
      exact HR.out
set_option maxHeartbeats 2000000 in
theorem heldElementS_any (v : Value) (k : Int) (n : Nat) (w : World) (h : Elems w v (marksE k n)) (hk : 1 ≤ k) (hk2 : k ≤ 274877906944) (hn : n ≤ 1048576) :
    Calls Tryd.prog 50 #[v, .int .i64 k] w fun e w' => e = .returned (.int .i64 (k + 4 * n)) ∧ Kept w w' := by
  obtain ⟨A, c, rfl, hnc, hcm, hA⟩ := h.1.out
  unfold maxLen at hcm
  have HA := Lib.hid hA
  have hN : (marksE k n).length = n := marksE_length k n
  rw [hN] at hnc ⊢
  have HL := Lib.hid hN
  clear h hA hN
  go_enter Tryd.func50, Tryd.ntmps50
  go_wp2_with fail
  go_loopw [1, 5] (fun q i wr => ∃ j : Nat, j ≤ n ∧ i = .int .i64 j ∧ q = .int .i64 (k + 4 * j) ∧ Kept w wr) (fun _ i _ => n - (intOf i).toNat)
  case atStart => exact ⟨0, Nat.zero_le _, rfl, by simp, Kept.refl _⟩
  case round =>
    obtain ⟨j, hj, rfl, rfl, hkept⟩ := hrel
    by_cases hlt : j < n
    · obtain ⟨b, o, y, rfl, hb, h2, q0, q1, q2, q3⟩ := elems_at (HA.out.kept hkept.drew) (k := j) (by rw [HL.out]; exact hlt)
      rw [marksE_get hlt] at h2
      injection h2 with h2
      subst h2
      have hlt' : (j : Int) < (n : Int) := by omega
      go_wp2_with fail
      have y0 := After.cell q0 hb
      have hne : (!(mt (k + 4 * (j : Int))).toList == (mt (k + 4 * (j : Int))).toList) = false := by simp
      have HQ := Lib.hid (show _ ∧ _ ∧ _ from ⟨q1, q2, q3⟩)
      clear q0 q1 q2 q3
      unfold markE at y0
      dsimp only at y0
      refine region_after (by kernel_rfl) (by kernel_rfl) ?_
      repeat (go_big_quiet_step ((go_at_call 71; exact after_of (markText_any _ _ (by omega) (by omega)))))
      refine wpQuiet_nil ?_
      intro wq hw'
      obtain ⟨⟨_, kq⟩, hw''⟩ := hw'
      subst hw''
      try dsimp only
      obtain ⟨q1, q2, q3⟩ := HQ.out
      have z1 := (kq.cell hb).trans q1
      have z2 := (kq.cell hb).trans q2
      have z3 := (kq.cell hb).trans q3
      unfold markE at z1 z2 z3
      dsimp only at z1 z2 z3
      have n1 : (k + 4 * (j : Int) + 1 != k + 4 * (j : Int) + 1) = false := by simp
      have n2 : (k + 4 * (j : Int) + 2 != k + 4 * (j : Int) + 2) = false := by simp
      have n3 : (k + 4 * (j : Int) + 3 != k + 4 * (j : Int) + 3) = false := by simp
      clear q1 q2 q3
      go_wp2_with fail
      go_roundw
      case rel => exact ⟨j + 1, by omega, by go_num, by go_num, hkept.drew.trans kq⟩
      case measure => simp [intOf]; omega
    · obtain rfl : j = n := by omega
      go_wp2_with fail
      go_ret
      exact ⟨rfl, hkept⟩
def markK (k : Int) (x : CodeD) : CodeD := { x with elems := marksE k x.elems.length, limits := marksI (k + 4 * x.elems.length) x.limits.length }
def nextC (k : Int) (x : CodeD) : Int := k + 4 * x.elems.length + x.limits.length
theorem OwnK.nodup {w : World} {base : Nat} {v : Value} {x : CodeD} (h : OwnK w base v x) : (fpA v).Nodup := by
  obtain ⟨_, _, _, _, _, h⟩ := h
  exact h
set_option maxHeartbeats 1000000 in
theorem markCode_any (v : Value) (x : CodeD) (k : Int) (w : World) (base : Nat) (h : OwnK w base v x) (hk : 1 ≤ k) (hk2 : k ≤ 137438953472) (hn : x.elems.length ≤ 1048576) (hm : x.limits.length ≤ 1048576) :
    Calls Tryd.prog 19 #[v, .int .i64 k] w fun e w' => e = .returned (.int .i64 (nextC k x)) ∧ OwnK w' base v (markK k x) ∧ Only (fpA v) w w' := by
  obtain ⟨nv, mv, rfl, o1, o2, nd⟩ := h
  obtain ⟨A, c, rfl, _, _, _⟩ := own_form o1.1
  obtain ⟨A2, c2, rfl, _, _, _⟩ := own_form o2
  have ND := Lib.hid nd
  rw [fpA_code] at nd
  have HD := Lib.hid (List.nodup_append.1 nd).2.2
  have O1 := Lib.hid o1
  have O2 := Lib.hid o2
  have B0 := Box.new w w.heap.size 39 #[.slice A x.elems.length c, .slice A2 x.limits.length c2, .int .i64 x.repeats, .int .i64 x.bonus, .int .i64 x.keeps, .int .i64 x.fall] rfl
  have K0 : Kept w (w.alloc (.cells #[.slice A x.elems.length c, .slice A2 x.limits.length c2, .int .i64 x.repeats, .int .i64 x.bonus, .int .i64 x.keeps, .int .i64 x.fall] 39)) := (Kept.refl w).alloc _
  have F1 := Lib.hid (own_fp o1.1)
  have F2 := Lib.hid (own_fp o2)
  clear nd o1 o2
  go_enter Tryd.func19, Tryd.ntmps19
  go_wp2_with fail
  refine (markElementS_any _ x.elems _ _ base (O1.out.kept K0) hk (by omega) hn).mono ?_
  rintro e w1 ⟨rfl, o1, on1⟩
  have B1 := B0.only on1 (fun hb => by have := F1.out _ hb; omega)
  obtain ⟨x0, y0⟩ := B1.six
  go_wp2_with fail
  clear x0 y0
  refine (markIntS_any _ x.limits _ _ base ((O2.out.kept K0).only on1 (fun b hb hb' => HD.out b hb' b hb rfl)) (by omega) (by omega) hm).mono ?_
  rintro e w2 ⟨rfl, o2, on2⟩
  go_wp2_with fail
  go_ret
  refine ⟨ret_int (by unfold nextC; rfl), ⟨_, _, rfl, ?_, ?_, ND.out⟩, ?_⟩
  · exact o1.only on2 (fun b hb hb' => HD.out b hb b hb' rfl)
  · exact o2
  · rw [fpA_code]
    exact (K0.only _).trans ((on1.mono (fun b hb => List.mem_append_left _ hb)).trans (on2.mono (fun b hb => List.mem_append_right _ hb)))
set_option maxHeartbeats 1000000 in
theorem heldCode_any (v : Value) (x : CodeD) (k : Int) (w : World) (h : CodeAt w v (markK k x)) (hk : 1 ≤ k) (hk2 : k ≤ 137438953472) (hn : x.elems.length ≤ 1048576) (hm : x.limits.length ≤ 1048576) :
    Calls Tryd.prog 20 #[v, .int .i64 k] w fun e w' => e = .returned (.int .i64 (nextC k x)) ∧ Kept w w' := by
  obtain ⟨nv, mv, rfl, q1, q2⟩ := h
  obtain ⟨A, c, rfl, _, _, _⟩ := q1.1.out
  obtain ⟨A2, c2, rfl, _, _, _⟩ := q2.out
  have H1 := Lib.hid q1
  have H2 := Lib.hid q2
  clear q1 q2
  unfold markK
  dsimp only
  have K0 : Kept w (w.alloc (.cells #[.slice A (marksE k x.elems.length).length c, .slice A2 (marksI (k + 4 * x.elems.length) x.limits.length).length c2, .int .i64 x.repeats, .int .i64 x.bonus, .int .i64 x.keeps, .int .i64 x.fall] 39)) := (Kept.refl w).alloc _
  have B0 := Box.new w w.heap.size 39 #[.slice A (marksE k x.elems.length).length c, .slice A2 (marksI (k + 4 * x.elems.length) x.limits.length).length c2, .int .i64 x.repeats, .int .i64 x.bonus, .int .i64 x.keeps, .int .i64 x.fall] rfl
  go_enter Tryd.func20, Tryd.ntmps20
  go_wp2_with fail
  refine (heldElementS_any _ k x.elems.length _ (H1.out.kept K0) hk (by omega) hn).mono ?_
  rintro e w1 ⟨rfl, k1⟩
  obtain ⟨x0, y0⟩ := (B0.kept k1).six
  have K1 := K0.trans k1
  go_wp2_with fail
  clear x0 y0
  refine (heldIntS_any _ _ x.limits.length _ (H2.out.kept K1) (by omega) (by omega) hm).mono ?_
  rintro e w2 ⟨rfl, k2⟩
  subst k2
  go_wp2_with fail
  go_ret
  exact ⟨ret_int (by unfold nextC; rfl), K1⟩
end Go.Proofs.YtkkdhmbkpebajaaDoor

/- Codes: ScaleCode. -/
namespace Go.Proofs.YtkkdhmbkpebajaaDoor
set_option linter.unusedVariables false
set_option linter.unusedSimpArgs false
open Go.RowKit

def scaleE (p : Int) (y : ElemD) : ElemD := { y with base := max (y.base * p / 100) 1 }
def scaleC (x : CodeD) (p : Int) : CodeD := { x with elems := x.elems.map (scaleE p) }
def scOk (x : CodeD) (p : Int) : Bool := codeB x && inB p 1 200
def scB (x : CodeD) (p : Int) : Bool := scOk x p && codeB (scaleC x p)
def scV (x : CodeD) (p : Int) : CodeD := if scOk x p then ifC (scaleC x p) else zeroC
theorem scV_no {x : CodeD} {p : Int} (h : scOk x p = false) : scV x p = zeroC := by unfold scV; rw [h]; rfl
theorem scV_yes {x : CodeD} {p : Int} (h : scOk x p = true) : scV x p = ifC (scaleC x p) := if_pos h
theorem scB_no {x : CodeD} {p : Int} (h : scOk x p = false) : scB x p = false := by unfold scB; rw [h]; rfl
theorem scB_yes {x : CodeD} {p : Int} (h : scOk x p = true) : scB x p = codeB (scaleC x p) := by unfold scB; rw [h, Bool.true_and]
theorem sc_code {x : CodeD} {p : Int} (h : scOk x p = true) : codeB x = true := by unfold scOk at h; rw [Bool.and_eq_true] at h; exact h.1
theorem sc_in {x : CodeD} {p : Int} (h : scOk x p = true) : inB p 1 200 = true := by unfold scOk at h; rw [Bool.and_eq_true] at h; exact h.2
theorem ifC_len (x : CodeD) : (ifC x).elems.length ≤ 24 ∧ (ifC x).limits.length ≤ 5 := by
  by_cases h : codeB x = true
  · rw [ifC_yes h]
    have := codeB_heads h
    omega
  · simp only [Bool.not_eq_true] at h
    rw [ifC_no h]
    exact ⟨by simp [zeroC], by simp [zeroC]⟩
theorem scV_len (x : CodeD) (p : Int) : (scV x p).elems.length ≤ 24 ∧ (scV x p).limits.length ≤ 5 := by
  by_cases h : scOk x p = true
  · rw [scV_yes h]; exact ifC_len _
  · simp only [Bool.not_eq_true] at h
    rw [scV_no h]
    exact ⟨by simp [zeroC], by simp [zeroC]⟩
theorem elems_one {w : World} {g : Nat} {t : TypeId} (y : ElemD) (h : Box w g t #[.string y.name, .int .i64 y.family, .int .i64 y.level, .int .i64 y.base]) (hs : y.name.size ≤ maxLen) : Elems w (.slice (some ⟨g, 0, none⟩) 1 1) [y] := by
  refine ⟨⟨_, 1, rfl, Nat.le_refl _, by unfold maxLen; simp, (fun h => by cases h), fun _ => ⟨g, 0, rfl, h.lt, ?_⟩⟩, ?_⟩
  · intro j u hu
    rw [Nat.zero_add, h.cell j]
    simp only [List.flatMap_cons, List.flatMap_nil, List.append_nil, cells4] at hu
    rw [← hu]
    rw [← Array.getElem?_toList]
  · intro e he
    simp at he
    subst he
    exact hs
theorem OwnE.base {w : World} {base base' : Nat} {v : Value} {es : List ElemD} (h : OwnE w base v es) (hb : base' ≤ base) : OwnE w base' v es := ⟨own_base h.1 hb, h.2⟩
theorem mul_bds {a b A B : Int} (h1 : 0 ≤ a) (h2 : a ≤ A) (h3 : 0 ≤ b) (h4 : b ≤ B) : 0 ≤ a * b ∧ a * b ≤ A * B :=
  ⟨Int.mul_nonneg h1 h3, Int.mul_le_mul h2 h4 h3 (by omega)⟩
theorem flat_set3 : ∀ (l : List ElemD) (k : Nat) (y : ElemD) (b : Int), l[k]? = some y → (l.flatMap cells4).set (k * 4 + 3) (.int .i64 b) = (l.set k { y with base := b }).flatMap cells4
  | [], _, _, _, h => by simp at h
  | x :: l, 0, y, b, h => by
    simp at h
    subst h
    simp [cells4]
  | x :: l, k + 1, y, b, h => by
    simp only [List.getElem?_cons_succ] at h
    rw [List.flatMap_cons, List.set_cons_succ, List.flatMap_cons, List.set_append_right _ _ (by simp [cells4]; omega), ← flat_set3 l k y b h]
    congr 2
    simp [cells4]
    omega
def scTo (es : List ElemD) (p : Int) (k : Nat) : List ElemD := (es.take k).map (scaleE p) ++ es.drop k
theorem scTo_len (es : List ElemD) (p : Int) (k : Nat) : (scTo es p k).length = es.length := by
  unfold scTo
  rw [List.length_append, List.length_map, List.length_take, List.length_drop]
  omega
theorem scTo_get {es : List ElemD} {p : Int} {k : Nat} {y : ElemD} (h : es[k]? = some y) : (scTo es p k)[k]? = some y := by
  have hk := (List.getElem?_eq_some_iff.1 h).1
  unfold scTo
  rw [List.getElem?_append_right (by rw [List.length_map, List.length_take]; omega), List.length_map, List.length_take, List.getElem?_drop, ← h]
  congr 1
  omega
theorem scTo_succ {es : List ElemD} {p : Int} {k : Nat} {y : ElemD} (h : es[k]? = some y) : scTo es p (k + 1) = (scTo es p k).set k (scaleE p y) := by
  have hk := (List.getElem?_eq_some_iff.1 h).1
  unfold scTo
  rw [take_snoc h, List.map_append, List.set_append_right _ _ (by rw [List.length_map, List.length_take]; omega), List.length_map, List.length_take]
  rw [show k - min k es.length = 0 from by omega, List.drop_eq_getElem_cons hk, List.set_cons_zero, List.map_cons, List.map_nil, List.append_assoc]
  rfl
theorem scTo_zero (es : List ElemD) (p : Int) : scTo es p 0 = es := by simp [scTo]
theorem scTo_full (es : List ElemD) (p : Int) : scTo es p es.length = es.map (scaleE p) := by simp [scTo]
end Go.Proofs.YtkkdhmbkpebajaaDoor

/- Draws of codes, plain: names of elements; what a code under construction is. -/
namespace Go.Proofs.YtkkdhmbkpebajaaDoor
set_option linter.unusedVariables false
set_option linter.unusedSimpArgs false
set_option linter.unnecessarySimpa false
open Go.RowKit Go.Lib

/-- the names of elements -/
def elN : List ByteArray := [⟨#[49, 65]⟩, ⟨#[49, 84]⟩, ⟨#[50, 65]⟩, ⟨#[50, 70]⟩, ⟨#[50, 76, 90]⟩, ⟨#[50, 83]⟩, ⟨#[50, 84]⟩, ⟨#[51, 65]⟩, ⟨#[51, 70]⟩, ⟨#[51, 76, 79]⟩, ⟨#[51, 76, 90]⟩, ⟨#[51, 83]⟩, ⟨#[51, 84]⟩, ⟨#[52, 83]⟩, ⟨#[52, 84]⟩, ⟨#[67, 67, 83, 80]⟩, ⟨#[67, 72, 83, 81]⟩, ⟨#[70, 83, 83, 80]⟩, ⟨#[76, 53]⟩, ⟨#[76, 83, 80]⟩, ⟨#[83, 81]⟩, ⟨#[83, 83, 80]⟩, ⟨#[83, 84, 83, 81]⟩, ⟨#[85, 83, 80]⟩]
theorem elN_len : elN.length = 24 := rfl
theorem elN_sz {z : ByteArray} (h : z ∈ elN) : z.size ≤ 1000 := by
  have := List.all_eq_true.1 (show elN.all (fun z => decide (z.size ≤ 1000)) = true by decide) z h
  simpa using this
theorem elN_SL : SL (elN.map bl) := by unfold SL; decide
/-- numbers and limits are in range -/
def LimOk (c : CodeD) : Prop := restB c = true ∧ c.limits.all (inB · 0 9) = true
/-- so are the elements, whose names are some of the first k -/
def ElOk (k : Nat) (c : CodeD) : Prop := LimOk c ∧ (c.elems.map ElemD.name).Sublist (elN.take k) ∧ c.elems.all elemB = true
theorem elN_name {z : ByteArray} (h : z ∈ elN) : nameB z = true := List.all_eq_true.1 (show elN.all nameB = true by decide) z h
theorem LimOk.nil {c : CodeD} (h1 : 0 ≤ c.repeats - 1 ∧ c.repeats - 1 < 3) (h2 : c.bonus ∈ [(0 : Int), 10, 20]) (h3 : c.keeps ∈ [(50 : Int), 70, 80, 100]) (h4 : c.fall ∈ [(0 : Int), 100, 500]) (h : c.limits = []) : LimOk c := by
  simp only [List.mem_cons, List.not_mem_nil, or_false] at h2 h3 h4
  refine ⟨?_, by rw [h]; rfl⟩
  unfold restB
  rw [inB_of (by omega) (by omega), inB_of (by omega) (by omega), inB_of (by omega) (by omega), inB_of (by omega) (by omega)]
  rfl
theorem LimOk.push {c : CodeD} {x : Int} (h : LimOk c) (hx : x ∈ [(0 : Int), 1, 2, 3, 7, 9]) : LimOk { c with limits := c.limits ++ [x] } := by
  simp only [List.mem_cons, List.not_mem_nil, or_false] at hx
  refine ⟨h.1, ?_⟩
  show (c.limits ++ [x]).all _ = true
  rw [List.all_append, h.2]
  simp [inB_of (n := x) (lo := 0) (hi := 9) (by omega) (by omega)]
theorem ElOk.zero {c : CodeD} (h : LimOk c) (he : c.elems = []) : ElOk 0 c := ⟨h, by rw [he]; simp, by rw [he]; rfl⟩
theorem ElOk.nilE {k : Nat} {c : CodeD} (h : ElOk k c) : ElOk 0 { c with elems := [] } := ⟨h.1, by simp, rfl⟩
theorem ElOk.skip {k : Nat} {c : CodeD} (h : ElOk k c) : ElOk (k + 1) c :=
  ⟨h.1, h.2.1.trans (by rw [List.take_add_one]; exact List.sublist_append_left _ _), h.2.2⟩
theorem ElOk.push {k : Nat} {c : CodeD} {z : ByteArray} {f l b : Int} (h : ElOk k c) (hz : elN[k]? = some z) (hf : 0 ≤ f ∧ f < 5) (hl : 0 ≤ l ∧ l < 5) (hb : 1 ≤ b ∧ b ≤ 2000) : ElOk (k + 1) { c with elems := c.elems ++ [⟨z, f, l, b⟩] } := by
  refine ⟨h.1, ?_, ?_⟩
  · show ((c.elems ++ [(⟨z, f, l, b⟩ : ElemD)]).map ElemD.name).Sublist _
    rw [List.map_append, List.take_add_one, hz]
    exact h.2.1.append (List.Sublist.refl _)
  · show (c.elems ++ [(⟨z, f, l, b⟩ : ElemD)]).all elemB = true
    rw [List.all_append, h.2.2]
    simp only [List.all_cons, List.all_nil, Bool.and_true, Bool.true_and]
    unfold elemB
    rw [elN_name (List.mem_of_getElem? hz), inB_of hf.1 (by omega), inB_of hl.1 (by omega), inB_of hb.1 hb.2]
    rfl
theorem base_lit {b : Int} (h : b ∈ [(1 : Int), 50, 130, 420, 800, 1105, 2000]) : 1 ≤ b ∧ b ≤ 2000 := by
  simp only [List.mem_cons, List.not_mem_nil, or_false] at h
  omega
/-- strictly increasing names -/
theorem elemsB_of {es : List ElemD} (h1 : es.all elemB = true) (h2 : SL ((es.map ElemD.name).map bl)) : elemsB es = true := by
  unfold elemsB
  refine List.all_eq_true.2 fun k hk => ?_
  have hk' : k < es.length := by simpa using hk
  have hx : es[k]? = some es[k] := List.getElem?_eq_getElem hk'
  have he := List.all_eq_true.1 h1 es[k] (List.getElem_mem hk')
  cases k with
  | zero => unfold stepB; rw [hx]; simp [he]
  | succ k =>
    have hp : es[k]? = some es[k] := List.getElem?_eq_getElem (by omega)
    rw [stepB_succ hx hp, he, Bool.true_and]
    have := List.pairwise_iff_getElem.1 h2 k (k + 1) (by simpa using (by omega : k < es.length)) (by simpa using hk') (by omega)
    simp only [List.getElem_map] at this
    exact (nlt_iff _ _).2 this
theorem ElOk.code {c : CodeD} (h : ElOk 24 c) (h1 : 1 ≤ c.elems.length) (h2 : c.elems.length ≤ 24) (h3 : c.limits.length = 5) : codeB c = true := by
  unfold codeB headB
  rw [h.1.1, h.1.2, h3, inB_of (by omega) (by omega), elemsB_of h.2.2 ?_]
  · rfl
  · have hs : (c.elems.map ElemD.name).Sublist elN := by have := h.2.1; rwa [List.take_of_length_le (by rw [elN_len]; omega)] at this
    exact elN_SL.sublist (hs.map bl)
theorem code_SL {c : CodeD} (h : codeB c = true) : SL ((c.elems.map ElemD.name).map bl) := by
  unfold codeB elemsB at h
  simp only [Bool.and_eq_true] at h
  have ha := List.all_eq_true.1 h.2
  have step : ∀ k, (hk : k + 1 < c.elems.length) → bl (c.elems[k]'(by omega)).name < bl c.elems[k + 1].name := by
    intro k hk
    have := ha (k + 1) (by simpa using hk)
    rw [stepB_succ (List.getElem?_eq_getElem hk) (List.getElem?_eq_getElem (by omega)), Bool.and_eq_true] at this
    exact (nlt_iff _ _).1 this.2
  unfold SL
  rw [List.pairwise_iff_getElem]
  have key : ∀ d i, (h2 : i + d + 1 < c.elems.length) → bl (c.elems[i]'(by omega)).name < bl c.elems[i + d + 1].name := by
    intro d
    induction d with
    | zero => intro i h2; exact step i h2
    | succ d ih => intro i h2; exact lb_trans (ih i (by omega)) (step (i + d + 1) (by omega))
  intro i j hi hj hij
  simp only [List.getElem_map]
  obtain ⟨d, rfl⟩ : ∃ d, j = i + d + 1 := ⟨j - i - 1, by omega⟩
  exact key d i (by simpa using hj)
end Go.Proofs.YtkkdhmbkpebajaaDoor
