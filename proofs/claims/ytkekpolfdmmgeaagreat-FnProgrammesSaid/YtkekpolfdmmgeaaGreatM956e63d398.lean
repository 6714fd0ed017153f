/- Contracts of functions that the proof leans on. No condition. -/
import Derived.Test.YtkekpolfdmmgeaaGreatM260997178d
/- Programmes: RuleHolds. -/
namespace Go.Proofs.YtkekpolfdmmgeaaGreat
set_option linter.unusedVariables false
set_option linter.unusedSimpArgs false
open Go.RowKit

theorem ruleB1 (x : CodeD) (its : List ItemD) : ruleB x its 1 = decide (0 < its.length) := rfl
theorem ruleB2 (x : CodeD) (its : List ItemD) : ruleB x its 2 = knB x its := rfl
theorem ruleB3 (x : CodeD) (its : List ItemD) : ruleB x its 3 = cleanB its := rfl
theorem ruleB4 (x : CodeD) (its : List ItemD) : ruleB x its 4 = jumpB x its := rfl
theorem ruleB5 (x : CodeD) (its : List ItemD) : ruleB x its 5 = fewB its := rfl
theorem ruleB6 (x : CodeD) (its : List ItemD) : ruleB x its 6 = fitB x its := rfl
theorem ruleB7 (x : CodeD) (its : List ItemD) : ruleB x its 7 = repB x its := rfl
theorem ruleB8 (x : CodeD) (its : List ItemD) : ruleB x its 8 = halfB its := rfl
theorem pn2 (x : CodeD) (its : List ItemD) : (its.all fun it => it.names.all fun s => pnB x its it s 2) = ruleB x its 2 := rfl
theorem pn4 (x : CodeD) (its : List ItemD) : (its.all fun it => it.names.all fun s => pnB x its it s 4) = ruleB x its 4 := rfl
theorem pn7 (x : CodeD) (its : List ItemD) : (its.all fun it => it.names.all fun s => pnB x its it s 7) = ruleB x its 7 := rfl
def rhOk (x : CodeD) (its : List ItemD) (r : Int) : Bool := kwOk x its && inB r 1 8
set_option maxHeartbeats 1000000 in
theorem notClean_any (v0 : Value) (it : ItemD) (w : World) (h0 : ItemAt w v0 it)  :
    Calls Tryz.prog 83 #[v0] w fun e w' => e = .returned (.bool (!cleanI it)) ∧ Kept w w' := by
  have H0 := Lib.hid h0
  obtain ⟨n0, m0, rfl, p0, q0⟩ := h0
  have HN0 := Lib.hid p0; have HM0 := Lib.hid q0
  obtain ⟨A0, c0, rfl, hnc0, hcm0, _⟩ := p0.1.out; obtain ⟨D0, d0, rfl, hnd0, hdm0, _⟩ := q0.out; clear p0 q0; unfold maxLen at hcm0 hdm0
  go_enter Tryz.func83, Tryz.ntmps83
  have K0 := Kept.refl w
  go_wp2_with fail
  obtain ⟨wb1, hwb1⟩ : ∃ w' : World, w' = w.alloc (.cells #[.slice A0 it.names.length c0, .slice D0 it.marks.length d0, .bool it.late] 30) := ⟨_, rfl⟩
  rw [← hwb1]
  have KB0 : Kept w wb1 := hwb1 ▸ (Kept.refl w).alloc _
  have B0 : Box wb1 (w.heap.size) 30 #[.slice A0 it.names.length c0, .slice D0 it.marks.length d0, .bool it.late] := hwb1 ▸ Box.new w (w.heap.size) 30 #[.slice A0 it.names.length c0, .slice D0 it.marks.length d0, .bool it.late] rfl
  have swb1 : wb1.heap.size = w.heap.size + 1 := by rw [hwb1]; simp
  clear hwb1
  have Kwb1 := K0.trans KB0
  refine (allWithin_any _ it.marks _ _ _ (HM0.out.kept Kwb1)).mono ?_
  rintro e w' ⟨rfl, rfl⟩
  have HV : Hid (it.marks.all (inB · 0 0) = cleanI it) := Lib.hid rfl
  rw [HV.out]
  by_cases hq : cleanI it = true
  · have HF := Lib.hid hq
    rw [hq]
    clear hq
    obtain ⟨x0, y0⟩ := B0.three
    go_wp2_with fail
    go_ret
    exact ⟨ret_bool (by rw [HF.out]; rfl), Kwb1⟩
  · simp only [Bool.not_eq_true] at hq
    have HF := Lib.hid hq
    rw [hq]
    clear hq
    obtain ⟨x0, y0⟩ := B0.three
    go_wp2_with fail
    go_ret
    exact ⟨ret_bool (by rw [HF.out]; rfl), Kwb1⟩
set_option maxHeartbeats 1000000 in
theorem indexClean_any (v : Value) (its : List ItemD) (w : World) (h : ItemsAt w v its) :
    Calls Tryz.prog 97 #[v, .func (.func 83) #[] #[]] w fun e w' => (∃ n : Int, e = .returned (.int .i64 n) ∧ (decide (n ≥ 0)) = !cleanB its) ∧ Kept w w' := by
  have H0 := Lib.hid h
  obtain ⟨A0, c0, cs0, rfl, hnc0, hcm0, hA0⟩ := h.out
  have HA0 := Lib.hid hA0
  clear hA0 h
  unfold maxLen at hcm0
  go_enter Tryz.func97, Tryz.ntmps97
  go_wp2_with fail
  go_loopw [8] (fun i wr => ∃ k : Nat, k ≤ its.length ∧ i = .int .i64 k ∧ (its.take k).all cleanI = true ∧ Kept w wr) (fun i _ => its.length - (intOf i).toNat)
  case atStart => exact ⟨0, Nat.zero_le _, rfl, rfl, Kept.refl _⟩
  case round =>
    obtain ⟨k, hk, rfl, ha, hkept⟩ := hrel
    have HB := Lib.hid ha
    clear ha
    by_cases hlt : k < its.length
    · obtain ⟨b, o, Aa, ca, Ab, cb, it, rfl, hbb, h2, h3, hit, q0, q1, q2⟩ := items_at (HA0.out.kept hkept) hlt
      have HZ := Lib.hid h2
      have HIT := Lib.hid hit
      have hkl : (k : Int) < (its.length : Int) := by omega
      clear h2 h3 hit
      go_wp2_with fail
      refine (notClean_any _ it _ HIT.out).mono ?_
      rintro e w1 ⟨rfl, k1⟩
      by_cases hq : cleanI it = true
      · rw [hq]
        go_wp2_with fail
        go_roundw
        case rel => exact ⟨k + 1, by omega, by go_num, all_snoc HZ.out HB.out hq, hkept.trans k1⟩
        case measure => simp [intOf]; omega
      · simp only [Bool.not_eq_true] at hq
        have HF : Hid (cleanB its = false) := Lib.hid (all_not (p := cleanI) HZ.out hq)
        rw [hq]
        go_wp2_with fail
        go_ret
        exact ⟨⟨_, rfl, by rw [HF.out]; simp⟩, hkept.trans k1⟩
    · have HI : Hid (cleanB its = true) := Lib.hid (all_full (p := cleanI) (by omega) HB.out)
      go_wp2_with fail
      go_ret
      exact ⟨⟨_, rfl, by rw [HI.out]; rfl⟩, hkept⟩
theorem containsClean_any (v : Value) (its : List ItemD) (w : World) (h : ItemsAt w v its) :
    Calls Tryz.prog 82 #[v, .func (.func 83) #[] #[]] w fun e w' => e = .returned (.bool (!cleanB its)) ∧ Kept w w' := by
  have H0 := Lib.hid h
  clear h
  go_enter Tryz.func82, Tryz.ntmps82
  go_wp2_with fail
  refine (indexClean_any _ its _ H0.out).mono ?_
  rintro e w1 ⟨⟨n, rfl, hn⟩, k1⟩
  have HN := Lib.hid hn
  clear hn
  go_wp2_with fail
  go_ret
  exact ⟨ret_bool (by rw [← HN.out]), k1⟩
set_option maxHeartbeats 8000000 in
theorem pgHolds_any (v0 v1 : Value) (x : CodeD) (its : List ItemD) (r : Int) (w : World) (h0 : CodeAt w v0 x) (h1 : ItemsAt w v1 its) (hx : codeB x = true) (hb : itemsB its = true) (hr1 : 1 ≤ r) (hr8 : r ≤ 8) :
    Calls Tryz.prog 78 #[v0, v1, .int .i64 r] w fun e w' => e = .returned (.bool (ruleB x its r)) ∧ Kept w w' := by
  have H0 := Lib.hid h0
  obtain ⟨n0, m0, rfl, p0, q0⟩ := h0
  have HE0 := Lib.hid p0; have HI0 := Lib.hid q0
  obtain ⟨A0, c0, rfl, hnc0, hcm0, _⟩ := p0.1.out; obtain ⟨D0, d0, rfl, hnd0, hdm0, _⟩ := q0.out; clear p0 q0; unfold maxLen at hcm0 hdm0
  have H1 := Lib.hid h1
  obtain ⟨A1, c1, cs1, rfl, hnc1, hcm1, hA1⟩ := h1.out; have HA1 := Lib.hid hA1; clear hA1 h1; unfold maxLen at hcm1
  have HBB := Lib.hid hb
  have hl14 := (itemsB_true hb).1
  have HX := Lib.hid hx
  clear hx hb
  go_enter Tryz.func78, Tryz.ntmps78
  have K0 := Kept.refl w
  have K0' := K0
  by_cases r1 : r = 1
  · subst r1
    have HV := Lib.hid (ruleB1 x its)
    go_wp2_with fail
    obtain ⟨wb1, hwb1⟩ : ∃ w' : World, w' = w.alloc (.cells #[.slice A0 x.elems.length c0, .slice D0 x.limits.length d0, .int .i64 x.repeats, .int .i64 x.bonus, .int .i64 x.keeps, .int .i64 x.fall] 26) := ⟨_, rfl⟩
    rw [← hwb1]
    have KB0 : Kept w wb1 := hwb1 ▸ (Kept.refl w).alloc _
    have B0 : Box wb1 (w.heap.size) 26 #[.slice A0 x.elems.length c0, .slice D0 x.limits.length d0, .int .i64 x.repeats, .int .i64 x.bonus, .int .i64 x.keeps, .int .i64 x.fall] := hwb1 ▸ Box.new w (w.heap.size) 26 #[.slice A0 x.elems.length c0, .slice D0 x.limits.length d0, .int .i64 x.repeats, .int .i64 x.bonus, .int .i64 x.keeps, .int .i64 x.fall] rfl
    have swb1 : wb1.heap.size = w.heap.size + 1 := by rw [hwb1]; simp
    clear hwb1
    have Kwb1 := K0.trans KB0
    go_ret
    exact ⟨ret_bool (by rw [HV.out]), Kwb1⟩
  have ne1 : (r == 1) = false := beq_eq_false_iff_ne.2 r1
  by_cases r3 : r = 3
  · subst r3
    go_wp2_with fail
    obtain ⟨wb2, hwb2⟩ : ∃ w' : World, w' = w.alloc (.cells #[.slice A0 x.elems.length c0, .slice D0 x.limits.length d0, .int .i64 x.repeats, .int .i64 x.bonus, .int .i64 x.keeps, .int .i64 x.fall] 26) := ⟨_, rfl⟩
    rw [← hwb2]
    have KB0 : Kept w wb2 := hwb2 ▸ (Kept.refl w).alloc _
    have B0 : Box wb2 (w.heap.size) 26 #[.slice A0 x.elems.length c0, .slice D0 x.limits.length d0, .int .i64 x.repeats, .int .i64 x.bonus, .int .i64 x.keeps, .int .i64 x.fall] := hwb2 ▸ Box.new w (w.heap.size) 26 #[.slice A0 x.elems.length c0, .slice D0 x.limits.length d0, .int .i64 x.repeats, .int .i64 x.bonus, .int .i64 x.keeps, .int .i64 x.fall] rfl
    have swb2 : wb2.heap.size = w.heap.size + 1 := by rw [hwb2]; simp
    clear hwb2
    have Kwb2 := K0.trans KB0
    refine (pgClean_any _ its _ (H1.out.kept Kwb2)).mono ?_
    rintro e w1 ⟨rfl, k1⟩
    replace B0 := B0.kept k1
    have sz1 := k1.size
    have K1 := Kwb2.trans k1
    obtain ⟨x0, y0⟩ := B0.six
    go_wp2_with fail
    clear x0 y0
    go_ret
    exact ⟨ret_bool (ruleB3 _ _).symm, K1⟩
  have ne3 : (r == 3) = false := beq_eq_false_iff_ne.2 r3
  by_cases r5 : r = 5
  · subst r5
    go_wp2_with fail
    obtain ⟨wb3, hwb3⟩ : ∃ w' : World, w' = w.alloc (.cells #[.slice A0 x.elems.length c0, .slice D0 x.limits.length d0, .int .i64 x.repeats, .int .i64 x.bonus, .int .i64 x.keeps, .int .i64 x.fall] 26) := ⟨_, rfl⟩
    rw [← hwb3]
    have KB0 : Kept w wb3 := hwb3 ▸ (Kept.refl w).alloc _
    have B0 : Box wb3 (w.heap.size) 26 #[.slice A0 x.elems.length c0, .slice D0 x.limits.length d0, .int .i64 x.repeats, .int .i64 x.bonus, .int .i64 x.keeps, .int .i64 x.fall] := hwb3 ▸ Box.new w (w.heap.size) 26 #[.slice A0 x.elems.length c0, .slice D0 x.limits.length d0, .int .i64 x.repeats, .int .i64 x.bonus, .int .i64 x.keeps, .int .i64 x.fall] rfl
    have swb3 : wb3.heap.size = w.heap.size + 1 := by rw [hwb3]; simp
    clear hwb3
    have Kwb3 := K0.trans KB0
    refine (pgCombined_any _ its _ (H1.out.kept Kwb3) HBB.out).mono ?_
    rintro e w2 ⟨rfl, k2⟩
    replace B0 := B0.kept k2
    have sz2 := k2.size
    have K2 := Kwb3.trans k2
    have HF : Hid (ruleB x its 5 = (decide (twoN its ≤ 3) && decide (threeN its ≤ 1))) := Lib.hid rfl
    have f1 := filter_le14 HBB.out combB its.length
    have f2 := filter_le14 HBB.out (fun it => decide (2 < it.names.length)) its.length
    rw [List.take_length] at f1 f2
    have g1 : twoN its ≤ 14 := f1
    have g2 : threeN its ≤ 14 := f2
    clear f1 f2
    generalize twoN its = tn at *
    generalize threeN its = hn at *
    by_cases c1 : tn ≤ 3 <;> by_cases c2 : hn ≤ 1
    · have HV : Hid (ruleB x its 5 = true) := Lib.hid (by rw [HF.out]; simp [c1, c2])
      have e1 : decide ((tn : Int) ≤ 3) = true := by simp; omega
      have e2 : decide ((hn : Int) ≤ 1) = true := by simp; omega
      obtain ⟨x0, y0⟩ := B0.six
      go_wp2_with fail
      clear x0 y0
      go_ret
      exact ⟨ret_bool HV.out.symm, K2⟩
    · have HV : Hid (ruleB x its 5 = false) := Lib.hid (by rw [HF.out]; simp [c1, c2])
      have e1 : decide ((tn : Int) ≤ 3) = true := by simp; omega
      have e2 : decide ((hn : Int) ≤ 1) = false := by simp; omega
      obtain ⟨x0, y0⟩ := B0.six
      go_wp2_with fail
      clear x0 y0
      go_ret
      exact ⟨ret_bool HV.out.symm, K2⟩
    · have HV : Hid (ruleB x its 5 = false) := Lib.hid (by rw [HF.out]; simp [c1, c2])
      have e1 : decide ((tn : Int) ≤ 3) = false := by simp; omega
      have e2 : decide ((hn : Int) ≤ 1) = true := by simp; omega
      obtain ⟨x0, y0⟩ := B0.six
      go_wp2_with fail
      clear x0 y0
      go_ret
      exact ⟨ret_bool HV.out.symm, K2⟩
    · have HV : Hid (ruleB x its 5 = false) := Lib.hid (by rw [HF.out]; simp [c1, c2])
      have e1 : decide ((tn : Int) ≤ 3) = false := by simp; omega
      have e2 : decide ((hn : Int) ≤ 1) = false := by simp; omega
      obtain ⟨x0, y0⟩ := B0.six
      go_wp2_with fail
      clear x0 y0
      go_ret
      exact ⟨ret_bool HV.out.symm, K2⟩
  have ne5 : (r == 5) = false := beq_eq_false_iff_ne.2 r5
  by_cases r6 : r = 6
  · subst r6
    go_wp2_with fail
    obtain ⟨wb4, hwb4⟩ : ∃ w' : World, w' = w.alloc (.cells #[.slice A0 x.elems.length c0, .slice D0 x.limits.length d0, .int .i64 x.repeats, .int .i64 x.bonus, .int .i64 x.keeps, .int .i64 x.fall] 26) := ⟨_, rfl⟩
    rw [← hwb4]
    have KB0 : Kept w wb4 := hwb4 ▸ (Kept.refl w).alloc _
    have B0 : Box wb4 (w.heap.size) 26 #[.slice A0 x.elems.length c0, .slice D0 x.limits.length d0, .int .i64 x.repeats, .int .i64 x.bonus, .int .i64 x.keeps, .int .i64 x.fall] := hwb4 ▸ Box.new w (w.heap.size) 26 #[.slice A0 x.elems.length c0, .slice D0 x.limits.length d0, .int .i64 x.repeats, .int .i64 x.bonus, .int .i64 x.keeps, .int .i64 x.fall] rfl
    have swb4 : wb4.heap.size = w.heap.size + 1 := by rw [hwb4]; simp
    clear hwb4
    have Kwb4 := K0.trans KB0
    refine (pgCounts_any _ _ x its _ (H0.out.kept Kwb4) (H1.out.kept Kwb4) HX.out HBB.out).mono ?_
    rintro e w3 ⟨v3, rfl, o3, k3⟩
    replace B0 := B0.kept k3
    have sz3 := k3.size
    have K3 := Kwb4.trans k3
    have hl5 : x.limits.length = 5 := (codeB_heads HX.out).2
    have HL5 := Lib.hid hl5
    have HCL := Lib.hid (countsV_len x its)
    have HFL := Lib.hid (fit_len x its hl5)
    clear hl5
    have HCO := Lib.hid (show Seq w3 v3 5 ((countsV x its).map (Value.int .i64)) from HCL.out ▸ Seq.of_own o3)
    clear o3
    obtain ⟨Ag, cg, rfl, hcg1, hcg2, _⟩ := HCO.out.out
    unfold maxLen at hcg2
    obtain ⟨x0, y0⟩ := B0.six
    go_wp2_with fail
    clear x0 y0
    go_loopw [40] (fun  i wr => ∃ k : Nat, k ≤ 5 ∧ i = .int .i64 k ∧ (((countsV x its).zip x.limits).take k).all (fun p => decide (p.1 ≤ p.2)) = true ∧ Kept w3 wr) (fun  i _ => 5 - (intOf i).toNat)
    case atStart => exact ⟨0, Nat.zero_le _, rfl, rfl, Kept.refl _⟩
    case round =>
      obtain ⟨k, hk, rfl, ha, hkept⟩ := hrel
      have HB6 := Lib.hid ha
      clear ha
      replace B0 := B0.kept hkept
      have szr := hkept.size
      have Kr := K3.trans hkept
      by_cases hlt : k < 5
      · obtain ⟨b, o, l, rfl, hb', hl, hcl⟩ := ints_at (HI0.out.kept Kr).addr (k := k) (by rw [HL5.out]; exact hlt)
        obtain ⟨n, hn⟩ : ∃ n, (countsV x its)[k]? = some n := ⟨_, List.getElem?_eq_getElem (by rw [HCL.out]; exact hlt)⟩
        obtain ⟨bg, og, rfl, hbg, hcn⟩ := ((HCO.out.kept hkept).addr).at_ (j := k) (u := .int .i64 n) (by omega) (by rw [List.getElem?_map, hn]; rfl)
        have HZ := Lib.hid (fit_get hn hl)
        have hjl : (k : Int) < (x.limits.length : Int) := by rw [HL5.out]; omega
        clear hn hl
        by_cases hq : n ≤ l
        · have e1 : decide (n > l) = false := by simp; omega
          have HF : Hid (decide (n ≤ l) = true) := Lib.hid (decide_eq_true hq)
          clear hq
          obtain ⟨x0, y0⟩ := B0.six
          go_wp2_with fail
          clear x0 y0
          go_roundw
          case rel => exact ⟨k + 1, by omega, by go_num, all_snoc HZ.out HB6.out HF.out, hkept⟩
          case measure => simp [intOf]; omega
        · have e1 : decide (n > l) = true := by simp; omega
          have HF : Hid (decide (n ≤ l) = false) := Lib.hid (decide_eq_false hq)
          clear hq
          have HN : Hid (fitB x its = false) := Lib.hid (all_not (p := fun (p : Int × Int) => decide (p.1 ≤ p.2)) HZ.out HF.out)
          obtain ⟨x0, y0⟩ := B0.six
          go_wp2_with fail
          clear x0 y0
          go_ret
          exact ⟨ret_bool ((ruleB6 x its).trans HN.out).symm, Kr⟩
      · have HY : Hid (fitB x its = true) := Lib.hid (all_full (p := fun (p : Int × Int) => decide (p.1 ≤ p.2)) (by rw [HFL.out]; omega) HB6.out)
        obtain ⟨x0, y0⟩ := B0.six
        go_wp2_with fail
        clear x0 y0
        go_ret
        exact ⟨ret_bool ((ruleB6 x its).trans HY.out).symm, Kr⟩
  have ne6 : (r == 6) = false := beq_eq_false_iff_ne.2 r6
  by_cases r8 : r = 8
  · subst r8
    go_wp2_with fail
    obtain ⟨wb5, hwb5⟩ : ∃ w' : World, w' = w.alloc (.cells #[.slice A0 x.elems.length c0, .slice D0 x.limits.length d0, .int .i64 x.repeats, .int .i64 x.bonus, .int .i64 x.keeps, .int .i64 x.fall] 26) := ⟨_, rfl⟩
    rw [← hwb5]
    have KB0 : Kept w wb5 := hwb5 ▸ (Kept.refl w).alloc _
    have B0 : Box wb5 (w.heap.size) 26 #[.slice A0 x.elems.length c0, .slice D0 x.limits.length d0, .int .i64 x.repeats, .int .i64 x.bonus, .int .i64 x.keeps, .int .i64 x.fall] := hwb5 ▸ Box.new w (w.heap.size) 26 #[.slice A0 x.elems.length c0, .slice D0 x.limits.length d0, .int .i64 x.repeats, .int .i64 x.bonus, .int .i64 x.keeps, .int .i64 x.fall] rfl
    have swb5 : wb5.heap.size = w.heap.size + 1 := by rw [hwb5]; simp
    clear hwb5
    have Kwb5 := K0.trans KB0
    refine (pgHalf_any _ its _ (H1.out.kept Kwb5) HBB.out).mono ?_
    rintro e w4 ⟨rfl, k4⟩
    replace B0 := B0.kept k4
    have sz4 := k4.size
    have K4 := Kwb5.trans k4
    obtain ⟨x0, y0⟩ := B0.six
    go_wp2_with fail
    clear x0 y0
    go_ret
    exact ⟨ret_bool (ruleB8 _ _).symm, K4⟩
  have ne8 : (r == 8) = false := beq_eq_false_iff_ne.2 r8
  rcases (show r = 2 ∨ r = 4 ∨ r = 7 by omega) with rfl | rfl | rfl
  · clear ne1 ne3 ne5 ne6 ne8 r1 r3 r5 r6 r8
    go_wp2_with fail
    obtain ⟨wb6, hwb6⟩ : ∃ w' : World, w' = w.alloc (.cells #[.slice A0 x.elems.length c0, .slice D0 x.limits.length d0, .int .i64 x.repeats, .int .i64 x.bonus, .int .i64 x.keeps, .int .i64 x.fall] 26) := ⟨_, rfl⟩
    rw [← hwb6]
    have KB0 : Kept w wb6 := hwb6 ▸ (Kept.refl w).alloc _
    have B0 : Box wb6 (w.heap.size) 26 #[.slice A0 x.elems.length c0, .slice D0 x.limits.length d0, .int .i64 x.repeats, .int .i64 x.bonus, .int .i64 x.keeps, .int .i64 x.fall] := hwb6 ▸ Box.new w (w.heap.size) 26 #[.slice A0 x.elems.length c0, .slice D0 x.limits.length d0, .int .i64 x.repeats, .int .i64 x.bonus, .int .i64 x.keeps, .int .i64 x.fall] rfl
    have swb6 : wb6.heap.size = w.heap.size + 1 := by rw [hwb6]; simp
    clear hwb6
    have Kwb6 := K0.trans KB0
    refine (pgNames_any _ _ x its 2 _ (H0.out.kept Kwb6) (H1.out.kept Kwb6) HBB.out).mono ?_
    rintro e w5 ⟨rfl, k5⟩
    replace B0 := B0.kept k5
    have sz5 := k5.size
    have K5 := Kwb6.trans k5
    obtain ⟨x0, y0⟩ := B0.six
    go_wp2_with fail
    clear x0 y0
    go_ret
    exact ⟨ret_bool (pn2 x its), K5⟩
  · clear ne1 ne3 ne5 ne6 ne8 r1 r3 r5 r6 r8
    go_wp2_with fail
    obtain ⟨wb7, hwb7⟩ : ∃ w' : World, w' = w.alloc (.cells #[.slice A0 x.elems.length c0, .slice D0 x.limits.length d0, .int .i64 x.repeats, .int .i64 x.bonus, .int .i64 x.keeps, .int .i64 x.fall] 26) := ⟨_, rfl⟩
    rw [← hwb7]
    have KB0 : Kept w wb7 := hwb7 ▸ (Kept.refl w).alloc _
    have B0 : Box wb7 (w.heap.size) 26 #[.slice A0 x.elems.length c0, .slice D0 x.limits.length d0, .int .i64 x.repeats, .int .i64 x.bonus, .int .i64 x.keeps, .int .i64 x.fall] := hwb7 ▸ Box.new w (w.heap.size) 26 #[.slice A0 x.elems.length c0, .slice D0 x.limits.length d0, .int .i64 x.repeats, .int .i64 x.bonus, .int .i64 x.keeps, .int .i64 x.fall] rfl
    have swb7 : wb7.heap.size = w.heap.size + 1 := by rw [hwb7]; simp
    clear hwb7
    have Kwb7 := K0.trans KB0
    refine (pgNames_any _ _ x its 4 _ (H0.out.kept Kwb7) (H1.out.kept Kwb7) HBB.out).mono ?_
    rintro e w6 ⟨rfl, k6⟩
    replace B0 := B0.kept k6
    have sz6 := k6.size
    have K6 := Kwb7.trans k6
    obtain ⟨x0, y0⟩ := B0.six
    go_wp2_with fail
    clear x0 y0
    go_ret
    exact ⟨ret_bool (pn4 x its), K6⟩
  · clear ne1 ne3 ne5 ne6 ne8 r1 r3 r5 r6 r8
    go_wp2_with fail
    obtain ⟨wb8, hwb8⟩ : ∃ w' : World, w' = w.alloc (.cells #[.slice A0 x.elems.length c0, .slice D0 x.limits.length d0, .int .i64 x.repeats, .int .i64 x.bonus, .int .i64 x.keeps, .int .i64 x.fall] 26) := ⟨_, rfl⟩
    rw [← hwb8]
    have KB0 : Kept w wb8 := hwb8 ▸ (Kept.refl w).alloc _
    have B0 : Box wb8 (w.heap.size) 26 #[.slice A0 x.elems.length c0, .slice D0 x.limits.length d0, .int .i64 x.repeats, .int .i64 x.bonus, .int .i64 x.keeps, .int .i64 x.fall] := hwb8 ▸ Box.new w (w.heap.size) 26 #[.slice A0 x.elems.length c0, .slice D0 x.limits.length d0, .int .i64 x.repeats, .int .i64 x.bonus, .int .i64 x.keeps, .int .i64 x.fall] rfl
    have swb8 : wb8.heap.size = w.heap.size + 1 := by rw [hwb8]; simp
    clear hwb8
    have Kwb8 := K0.trans KB0
    refine (pgNames_any _ _ x its 7 _ (H0.out.kept Kwb8) (H1.out.kept Kwb8) HBB.out).mono ?_
    rintro e w7 ⟨rfl, k7⟩
    replace B0 := B0.kept k7
    have sz7 := k7.size
    have K7 := Kwb8.trans k7
    obtain ⟨x0, y0⟩ := B0.six
    go_wp2_with fail
    clear x0 y0
    go_ret
    exact ⟨ret_bool (pn7 x its), K7⟩
set_option maxHeartbeats 8000000 in
theorem ruleHolds_any (v0 v1 : Value) (x : CodeD) (its : List ItemD) (r : Int) (w : World) (h0 : CodeAt w v0 x) (h1 : ItemsAt w v1 its) (hx : codeB x = true) (hb : itemsB its = true) (hr1 : 1 ≤ r) (hr8 : r ≤ 8) :
    Calls Tryz.prog 75 #[v0, v1, .int .i64 r] w fun e w' => e = .returned (.bool (ruleB x its r)) ∧ Kept w w' := by
  have H0 := Lib.hid h0
  obtain ⟨n0, m0, rfl, p0, q0⟩ := h0
  have HE0 := Lib.hid p0; have HI0 := Lib.hid q0
  obtain ⟨A0, c0, rfl, hnc0, hcm0, _⟩ := p0.1.out; obtain ⟨D0, d0, rfl, hnd0, hdm0, _⟩ := q0.out; clear p0 q0; unfold maxLen at hcm0 hdm0
  have H1 := Lib.hid h1
  obtain ⟨A1, c1, cs1, rfl, hnc1, hcm1, hA1⟩ := h1.out; have HA1 := Lib.hid hA1; clear hA1 h1; unfold maxLen at hcm1
  have HBB := Lib.hid hb
  have hl14 := (itemsB_true hb).1
  have HX := Lib.hid hx
  clear hx hb
  go_enter Tryz.func75, Tryz.ntmps75
  have K0 := Kept.refl w
  by_cases r1 : r = 1
  · subst r1
    have HV := Lib.hid (ruleB1 x its)
    go_wp2_with fail
    obtain ⟨wb1, hwb1⟩ : ∃ w' : World, w' = w.alloc (.cells #[.slice A0 x.elems.length c0, .slice D0 x.limits.length d0, .int .i64 x.repeats, .int .i64 x.bonus, .int .i64 x.keeps, .int .i64 x.fall] 26) := ⟨_, rfl⟩
    rw [← hwb1]
    have KB0 : Kept w wb1 := hwb1 ▸ (Kept.refl w).alloc _
    have B0 : Box wb1 (w.heap.size) 26 #[.slice A0 x.elems.length c0, .slice D0 x.limits.length d0, .int .i64 x.repeats, .int .i64 x.bonus, .int .i64 x.keeps, .int .i64 x.fall] := hwb1 ▸ Box.new w (w.heap.size) 26 #[.slice A0 x.elems.length c0, .slice D0 x.limits.length d0, .int .i64 x.repeats, .int .i64 x.bonus, .int .i64 x.keeps, .int .i64 x.fall] rfl
    have swb1 : wb1.heap.size = w.heap.size + 1 := by rw [hwb1]; simp
    clear hwb1
    have Kwb1 := K0.trans KB0
    go_ret
    exact ⟨ret_bool (by rw [HV.out]), Kwb1⟩
  have ne1 : (r == 1) = false := beq_eq_false_iff_ne.2 r1
  by_cases r2 : r = 2
  · subst r2
    go_wp2_with fail
    obtain ⟨wb2, hwb2⟩ : ∃ w' : World, w' = w.alloc (.cells #[.slice A0 x.elems.length c0, .slice D0 x.limits.length d0, .int .i64 x.repeats, .int .i64 x.bonus, .int .i64 x.keeps, .int .i64 x.fall] 26) := ⟨_, rfl⟩
    rw [← hwb2]
    have KB0 : Kept w wb2 := hwb2 ▸ (Kept.refl w).alloc _
    have B0 : Box wb2 (w.heap.size) 26 #[.slice A0 x.elems.length c0, .slice D0 x.limits.length d0, .int .i64 x.repeats, .int .i64 x.bonus, .int .i64 x.keeps, .int .i64 x.fall] := hwb2 ▸ Box.new w (w.heap.size) 26 #[.slice A0 x.elems.length c0, .slice D0 x.limits.length d0, .int .i64 x.repeats, .int .i64 x.bonus, .int .i64 x.keeps, .int .i64 x.fall] rfl
    have swb2 : wb2.heap.size = w.heap.size + 1 := by rw [hwb2]; simp
    clear hwb2
    have Kwb2 := K0.trans KB0
    refine (isKnown_any _ _ x its _ (H0.out.kept Kwb2) (H1.out.kept Kwb2)).mono ?_
    rintro e w1 ⟨rfl, k1⟩
    replace B0 := B0.kept k1
    have sz1 := k1.size
    have K1 := Kwb2.trans k1
    obtain ⟨x0, y0⟩ := B0.six
    go_wp2_with fail
    clear x0 y0
    go_ret
    exact ⟨ret_bool (ruleB2 _ _).symm, K1⟩
  have ne2 : (r == 2) = false := beq_eq_false_iff_ne.2 r2
  by_cases r3 : r = 3
  · subst r3
    go_wp2_with fail
    obtain ⟨wb3, hwb3⟩ : ∃ w' : World, w' = w.alloc (.cells #[.slice A0 x.elems.length c0, .slice D0 x.limits.length d0, .int .i64 x.repeats, .int .i64 x.bonus, .int .i64 x.keeps, .int .i64 x.fall] 26) := ⟨_, rfl⟩
    rw [← hwb3]
    have KB0 : Kept w wb3 := hwb3 ▸ (Kept.refl w).alloc _
    have B0 : Box wb3 (w.heap.size) 26 #[.slice A0 x.elems.length c0, .slice D0 x.limits.length d0, .int .i64 x.repeats, .int .i64 x.bonus, .int .i64 x.keeps, .int .i64 x.fall] := hwb3 ▸ Box.new w (w.heap.size) 26 #[.slice A0 x.elems.length c0, .slice D0 x.limits.length d0, .int .i64 x.repeats, .int .i64 x.bonus, .int .i64 x.keeps, .int .i64 x.fall] rfl
    have swb3 : wb3.heap.size = w.heap.size + 1 := by rw [hwb3]; simp
    clear hwb3
    have Kwb3 := K0.trans KB0
    refine (containsClean_any _ its _ (H1.out.kept Kwb3)).mono ?_
    rintro e w2 ⟨rfl, k2⟩
    replace B0 := B0.kept k2
    have sz2 := k2.size
    have K2 := Kwb3.trans k2
    have HV := Lib.hid (ruleB3 x its)
    generalize cleanB its = q at *
    cases q
    · skip
      obtain ⟨x0, y0⟩ := B0.six
      go_wp2_with fail
      clear x0 y0
      go_ret
      exact ⟨ret_bool HV.out.symm, K2⟩
    · skip
      obtain ⟨x0, y0⟩ := B0.six
      go_wp2_with fail
      clear x0 y0
      go_ret
      exact ⟨ret_bool HV.out.symm, K2⟩
  have ne3 : (r == 3) = false := beq_eq_false_iff_ne.2 r3
  by_cases r4 : r = 4
  · subst r4
    go_wp2_with fail
    obtain ⟨wb4, hwb4⟩ : ∃ w' : World, w' = w.alloc (.cells #[.slice A0 x.elems.length c0, .slice D0 x.limits.length d0, .int .i64 x.repeats, .int .i64 x.bonus, .int .i64 x.keeps, .int .i64 x.fall] 26) := ⟨_, rfl⟩
    rw [← hwb4]
    have KB0 : Kept w wb4 := hwb4 ▸ (Kept.refl w).alloc _
    have B0 : Box wb4 (w.heap.size) 26 #[.slice A0 x.elems.length c0, .slice D0 x.limits.length d0, .int .i64 x.repeats, .int .i64 x.bonus, .int .i64 x.keeps, .int .i64 x.fall] := hwb4 ▸ Box.new w (w.heap.size) 26 #[.slice A0 x.elems.length c0, .slice D0 x.limits.length d0, .int .i64 x.repeats, .int .i64 x.bonus, .int .i64 x.keeps, .int .i64 x.fall] rfl
    have swb4 : wb4.heap.size = w.heap.size + 1 := by rw [hwb4]; simp
    clear hwb4
    have Kwb4 := K0.trans KB0
    refine (combinesJumps_any _ _ x its _ (H0.out.kept Kwb4) (H1.out.kept Kwb4) HBB.out).mono ?_
    rintro e w3 ⟨rfl, k3⟩
    replace B0 := B0.kept k3
    have sz3 := k3.size
    have K3 := Kwb4.trans k3
    obtain ⟨x0, y0⟩ := B0.six
    go_wp2_with fail
    clear x0 y0
    go_ret
    exact ⟨ret_bool (ruleB4 _ _).symm, K3⟩
  have ne4 : (r == 4) = false := beq_eq_false_iff_ne.2 r4
  by_cases r5 : r = 5
  · subst r5
    go_wp2_with fail
    obtain ⟨wb5, hwb5⟩ : ∃ w' : World, w' = w.alloc (.cells #[.slice A0 x.elems.length c0, .slice D0 x.limits.length d0, .int .i64 x.repeats, .int .i64 x.bonus, .int .i64 x.keeps, .int .i64 x.fall] 26) := ⟨_, rfl⟩
    rw [← hwb5]
    have KB0 : Kept w wb5 := hwb5 ▸ (Kept.refl w).alloc _
    have B0 : Box wb5 (w.heap.size) 26 #[.slice A0 x.elems.length c0, .slice D0 x.limits.length d0, .int .i64 x.repeats, .int .i64 x.bonus, .int .i64 x.keeps, .int .i64 x.fall] := hwb5 ▸ Box.new w (w.heap.size) 26 #[.slice A0 x.elems.length c0, .slice D0 x.limits.length d0, .int .i64 x.repeats, .int .i64 x.bonus, .int .i64 x.keeps, .int .i64 x.fall] rfl
    have swb5 : wb5.heap.size = w.heap.size + 1 := by rw [hwb5]; simp
    clear hwb5
    have Kwb5 := K0.trans KB0
    refine (combinesFew_any _ its _ (H1.out.kept Kwb5) HBB.out).mono ?_
    rintro e w4 ⟨rfl, k4⟩
    replace B0 := B0.kept k4
    have sz4 := k4.size
    have K4 := Kwb5.trans k4
    obtain ⟨x0, y0⟩ := B0.six
    go_wp2_with fail
    clear x0 y0
    go_ret
    exact ⟨ret_bool (ruleB5 _ _).symm, K4⟩
  have ne5 : (r == 5) = false := beq_eq_false_iff_ne.2 r5
  by_cases r6 : r = 6
  · subst r6
    go_wp2_with fail
    obtain ⟨wb6, hwb6⟩ : ∃ w' : World, w' = w.alloc (.cells #[.slice A0 x.elems.length c0, .slice D0 x.limits.length d0, .int .i64 x.repeats, .int .i64 x.bonus, .int .i64 x.keeps, .int .i64 x.fall] 26) := ⟨_, rfl⟩
    rw [← hwb6]
    have KB0 : Kept w wb6 := hwb6 ▸ (Kept.refl w).alloc _
    have B0 : Box wb6 (w.heap.size) 26 #[.slice A0 x.elems.length c0, .slice D0 x.limits.length d0, .int .i64 x.repeats, .int .i64 x.bonus, .int .i64 x.keeps, .int .i64 x.fall] := hwb6 ▸ Box.new w (w.heap.size) 26 #[.slice A0 x.elems.length c0, .slice D0 x.limits.length d0, .int .i64 x.repeats, .int .i64 x.bonus, .int .i64 x.keeps, .int .i64 x.fall] rfl
    have swb6 : wb6.heap.size = w.heap.size + 1 := by rw [hwb6]; simp
    clear hwb6
    have Kwb6 := K0.trans KB0
    refine (fitsLimits_any _ _ x its _ (H0.out.kept Kwb6) (H1.out.kept Kwb6) HX.out HBB.out).mono ?_
    rintro e w5 ⟨rfl, k5⟩
    replace B0 := B0.kept k5
    have sz5 := k5.size
    have K5 := Kwb6.trans k5
    obtain ⟨x0, y0⟩ := B0.six
    go_wp2_with fail
    clear x0 y0
    go_ret
    exact ⟨ret_bool (ruleB6 _ _).symm, K5⟩
  have ne6 : (r == 6) = false := beq_eq_false_iff_ne.2 r6
  by_cases r7 : r = 7
  · subst r7
    go_wp2_with fail
    obtain ⟨wb7, hwb7⟩ : ∃ w' : World, w' = w.alloc (.cells #[.slice A0 x.elems.length c0, .slice D0 x.limits.length d0, .int .i64 x.repeats, .int .i64 x.bonus, .int .i64 x.keeps, .int .i64 x.fall] 26) := ⟨_, rfl⟩
    rw [← hwb7]
    have KB0 : Kept w wb7 := hwb7 ▸ (Kept.refl w).alloc _
    have B0 : Box wb7 (w.heap.size) 26 #[.slice A0 x.elems.length c0, .slice D0 x.limits.length d0, .int .i64 x.repeats, .int .i64 x.bonus, .int .i64 x.keeps, .int .i64 x.fall] := hwb7 ▸ Box.new w (w.heap.size) 26 #[.slice A0 x.elems.length c0, .slice D0 x.limits.length d0, .int .i64 x.repeats, .int .i64 x.bonus, .int .i64 x.keeps, .int .i64 x.fall] rfl
    have swb7 : wb7.heap.size = w.heap.size + 1 := by rw [hwb7]; simp
    clear hwb7
    have Kwb7 := K0.trans KB0
    refine (repeatsWell_any _ _ x its _ (H0.out.kept Kwb7) (H1.out.kept Kwb7) HBB.out).mono ?_
    rintro e w6 ⟨rfl, k6⟩
    replace B0 := B0.kept k6
    have sz6 := k6.size
    have K6 := Kwb7.trans k6
    obtain ⟨x0, y0⟩ := B0.six
    go_wp2_with fail
    clear x0 y0
    go_ret
    exact ⟨ret_bool (ruleB7 _ _).symm, K6⟩
  have ne7 : (r == 7) = false := beq_eq_false_iff_ne.2 r7
  obtain rfl : r = 8 := by omega
  clear ne1 ne2 ne3 ne4 ne5 ne6 ne7 r1 r2 r3 r4 r5 r6 r7
  have RULE8' := ruleB8 x its
  have RULE8H := Lib.hid RULE8'
  clear RULE8'
  go_wp2_with fail
  obtain ⟨wb8, hwb8⟩ : ∃ w' : World, w' = w.alloc (.cells #[.slice A0 x.elems.length c0, .slice D0 x.limits.length d0, .int .i64 x.repeats, .int .i64 x.bonus, .int .i64 x.keeps, .int .i64 x.fall] 26) := ⟨_, rfl⟩
  rw [← hwb8]
  have KB0 : Kept w wb8 := hwb8 ▸ (Kept.refl w).alloc _
  have B0 : Box wb8 (w.heap.size) 26 #[.slice A0 x.elems.length c0, .slice D0 x.limits.length d0, .int .i64 x.repeats, .int .i64 x.bonus, .int .i64 x.keeps, .int .i64 x.fall] := hwb8 ▸ Box.new w (w.heap.size) 26 #[.slice A0 x.elems.length c0, .slice D0 x.limits.length d0, .int .i64 x.repeats, .int .i64 x.bonus, .int .i64 x.keeps, .int .i64 x.fall] rfl
  have swb8 : wb8.heap.size = w.heap.size + 1 := by rw [hwb8]; simp
  clear hwb8
  have Kwb8 := K0.trans KB0
  go_loopw [46] (fun  i wr => ∃ k : Nat, k ≤ its.length ∧ i = .int .i64 k ∧ (List.range k).all (lateB its) = true ∧ Kept wb8 wr) (fun  i _ => its.length - (intOf i).toNat)
  case atStart => exact ⟨0, Nat.zero_le _, rfl, rfl, Kept.refl _⟩
  case round =>
    obtain ⟨k, hk, rfl, ha, hkept⟩ := hrel
    have HB8 := Lib.hid ha
    clear ha
    replace B0 := B0.kept hkept
    have szr := hkept.size
    have Kr := Kwb8.trans hkept
    by_cases hlt : k < its.length
    · obtain ⟨b, o, Aa, ca, Ab, cb, it, rfl, hbb, h2, h3, hit, q0, q1, q2⟩ := items_at (HA1.out.kept Kr) hlt
      have HLT := Lib.hid (lateB_at h2)
      clear h2 h3 hit
      obtain ⟨x0, y0⟩ := B0.six
      go_upto_region 19 with (fail)
      clear x0 y0
      obtain ⟨wb9, hwb9⟩ : ∃ w' : World, w' = wr.alloc (.cells #[.slice Aa it.names.length ca, .slice Ab it.marks.length cb, .bool it.late] 30) := ⟨_, rfl⟩
      rw [← hwb9]
      have KBt : Kept wr wb9 := hwb9 ▸ (Kept.refl wr).alloc _
      have Bt : Box wb9 (wr.heap.size) 30 #[.slice Aa it.names.length ca, .slice Ab it.marks.length cb, .bool it.late] := hwb9 ▸ Box.new wr (wr.heap.size) 30 #[.slice Aa it.names.length ca, .slice Ab it.marks.length cb, .bool it.late] rfl
      have swb9 : wb9.heap.size = wr.heap.size + 1 := by rw [hwb9]; simp
      clear hwb9
      replace B0 := B0.kept KBt
      have Kwb9 := Kr.trans KBt
      clear q0 q1 q2
      by_cases hq : its.length ≤ 2 * k <;> cases hL : it.late
      · have HV : Hid (lateB its k = false) := Lib.hid (by rw [HLT.out, hL, decide_eq_true hq]; rfl)
        rw [hL] at Bt
        have hd0 : decide (its.length ≤ 2 * k) = true := decide_eq_true hq
        have hd2 : decide (2 * (k : Int) ≥ (its.length : Int)) = true := by simp; omega
        have HD := Lib.hid hd0
        clear hd0 hq hL
        have Kd1_ : Kept wb9 wb9.drew := (Kept.refl _).drew
        replace B0 := B0.kept Kd1_
        replace Bt := Bt.kept Kd1_
        have Kd1 := Kwb9.trans Kd1_
        have x0 := fun t : After (wb9.drew) => (B0.kept t.kept).six.1
        have xt := fun t : After (wb9.drew) => (Bt.kept t.kept).three.1
        refine region_after (by kernel_rfl) (by kernel_rfl) ?_
        repeat (go_big_quiet_step ((go_at_call 70; exact after_same (isLateAt_is2 k its.length true _ HD.out (by omega) (by omega)))))
        refine wpQuiet_nil ?_
        intro wq hw'
        obtain ⟨⟨_, kq⟩, hw''⟩ := hw'
        subst hw''
        try dsimp only
        clear x0 xt
        have kqq2 := kq
        replace B0 := B0.kept kqq2
        replace Bt := Bt.kept kqq2
        have Kq2 := Kd1.trans kq
        have HN := Lib.hid (half_no hlt HV.out)
        obtain ⟨x0, y0⟩ := B0.six
        obtain ⟨xt, yt⟩ := Bt.three
        go_wp2_with fail
        clear x0 y0 xt yt
        go_ret
        exact ⟨ret_bool (RULE8H.out.trans HN.out).symm, Kq2⟩
      · have HV : Hid (lateB its k = true) := Lib.hid (by rw [HLT.out, hL, decide_eq_true hq]; rfl)
        rw [hL] at Bt
        have hd0 : decide (its.length ≤ 2 * k) = true := decide_eq_true hq
        have hd2 : decide (2 * (k : Int) ≥ (its.length : Int)) = true := by simp; omega
        have HD := Lib.hid hd0
        clear hd0 hq hL
        have Kd3_ : Kept wb9 wb9.drew := (Kept.refl _).drew
        replace B0 := B0.kept Kd3_
        replace Bt := Bt.kept Kd3_
        have Kd3 := Kwb9.trans Kd3_
        have x0 := fun t : After (wb9.drew) => (B0.kept t.kept).six.1
        have xt := fun t : After (wb9.drew) => (Bt.kept t.kept).three.1
        refine region_after (by kernel_rfl) (by kernel_rfl) ?_
        repeat (go_big_quiet_step ((go_at_call 70; exact after_same (isLateAt_is2 k its.length true _ HD.out (by omega) (by omega)))))
        refine wpQuiet_nil ?_
        intro wq hw'
        obtain ⟨⟨_, kq⟩, hw''⟩ := hw'
        subst hw''
        try dsimp only
        clear x0 xt
        have kqq4 := kq
        replace B0 := B0.kept kqq4
        replace Bt := Bt.kept kqq4
        have Kq4 := Kd3.trans kq
        obtain ⟨x0, y0⟩ := B0.six
        obtain ⟨xt, yt⟩ := Bt.three
        go_wp2_with fail
        clear x0 y0 xt yt
        go_roundw
        case rel => exact ⟨k + 1, by omega, by go_num, by rw [half_snoc, HB8.out, HV.out]; rfl, hkept.trans ((KBt.trans Kd3_).trans kqq4)⟩
        case measure => simp [intOf]; omega
      · have HV : Hid (lateB its k = true) := Lib.hid (by rw [HLT.out, hL, decide_eq_false hq]; rfl)
        rw [hL] at Bt
        have hd0 : decide (its.length ≤ 2 * k) = false := decide_eq_false hq
        have hd2 : decide (2 * (k : Int) ≥ (its.length : Int)) = false := by simp; omega
        have HD := Lib.hid hd0
        clear hd0 hq hL
        have Kd5_ : Kept wb9 wb9.drew := (Kept.refl _).drew
        replace B0 := B0.kept Kd5_
        replace Bt := Bt.kept Kd5_
        have Kd5 := Kwb9.trans Kd5_
        have x0 := fun t : After (wb9.drew) => (B0.kept t.kept).six.1
        have xt := fun t : After (wb9.drew) => (Bt.kept t.kept).three.1
        refine region_after (by kernel_rfl) (by kernel_rfl) ?_
        repeat (go_big_quiet_step ((go_at_call 70; exact after_same (isLateAt_is2 k its.length false _ HD.out (by omega) (by omega)))))
        refine wpQuiet_nil ?_
        intro wq hw'
        obtain ⟨⟨_, kq⟩, hw''⟩ := hw'
        subst hw''
        try dsimp only
        clear x0 xt
        have kqq6 := kq
        replace B0 := B0.kept kqq6
        replace Bt := Bt.kept kqq6
        have Kq6 := Kd5.trans kq
        obtain ⟨x0, y0⟩ := B0.six
        obtain ⟨xt, yt⟩ := Bt.three
        go_wp2_with fail
        clear x0 y0 xt yt
        go_roundw
        case rel => exact ⟨k + 1, by omega, by go_num, by rw [half_snoc, HB8.out, HV.out]; rfl, hkept.trans ((KBt.trans Kd5_).trans kqq6)⟩
        case measure => simp [intOf]; omega
      · have HV : Hid (lateB its k = false) := Lib.hid (by rw [HLT.out, hL, decide_eq_false hq]; rfl)
        rw [hL] at Bt
        have hd0 : decide (its.length ≤ 2 * k) = false := decide_eq_false hq
        have hd2 : decide (2 * (k : Int) ≥ (its.length : Int)) = false := by simp; omega
        have HD := Lib.hid hd0
        clear hd0 hq hL
        have Kd7_ : Kept wb9 wb9.drew := (Kept.refl _).drew
        replace B0 := B0.kept Kd7_
        replace Bt := Bt.kept Kd7_
        have Kd7 := Kwb9.trans Kd7_
        have x0 := fun t : After (wb9.drew) => (B0.kept t.kept).six.1
        have xt := fun t : After (wb9.drew) => (Bt.kept t.kept).three.1
        refine region_after (by kernel_rfl) (by kernel_rfl) ?_
        repeat (go_big_quiet_step ((go_at_call 70; exact after_same (isLateAt_is2 k its.length false _ HD.out (by omega) (by omega)))))
        refine wpQuiet_nil ?_
        intro wq hw'
        obtain ⟨⟨_, kq⟩, hw''⟩ := hw'
        subst hw''
        try dsimp only
        clear x0 xt
        have kqq8 := kq
        replace B0 := B0.kept kqq8
        replace Bt := Bt.kept kqq8
        have Kq8 := Kd7.trans kq
        have HN := Lib.hid (half_no hlt HV.out)
        obtain ⟨x0, y0⟩ := B0.six
        obtain ⟨xt, yt⟩ := Bt.three
        go_wp2_with fail
        clear x0 y0 xt yt
        go_ret
        exact ⟨ret_bool (RULE8H.out.trans HN.out).symm, Kq8⟩
    · obtain rfl : k = its.length := by omega
      obtain ⟨x0, y0⟩ := B0.six
      go_wp2_with fail
      clear x0 y0
      go_ret
      exact ⟨ret_bool (RULE8H.out.trans HB8.out).symm, Kr⟩
end Go.Proofs.YtkekpolfdmmgeaaGreat

/- Programmes: BrokenRules, IsProgramme. -/
namespace Go.Proofs.YtkekpolfdmmgeaaGreat
set_option linter.unusedVariables false
set_option linter.unusedSimpArgs false
open Go.RowKit

def goodB (x : CodeD) (its : List ItemD) : Bool := kwOk x its && (brokenV x its 8).isEmpty
set_option maxHeartbeats 4000000 in
theorem pgFaults_any (v0 v1 : Value) (x : CodeD) (its : List ItemD) (w : World) (h0 : CodeAt w v0 x) (h1 : ItemsAt w v1 its) (hx : codeB x = true) (hb : itemsB its = true) :
    Calls Tryz.prog 64 #[v0, v1] w fun e w' => ∃ v', e = .returned v' ∧ OwnI w' w.heap.size v' (brokenV x its 8) ∧ Kept w w' := by
  have H0 := Lib.hid h0
  obtain ⟨n0, m0, rfl, p0, q0⟩ := h0
  have HE0 := Lib.hid p0; have HI0 := Lib.hid q0
  obtain ⟨A0, c0, rfl, hnc0, hcm0, _⟩ := p0.1.out; obtain ⟨D0, d0, rfl, hnd0, hdm0, _⟩ := q0.out; clear p0 q0; unfold maxLen at hcm0 hdm0
  have H1 := Lib.hid h1
  obtain ⟨A1, c1, cs1, rfl, hnc1, hcm1, hA1⟩ := h1.out; have HA1 := Lib.hid hA1; clear hA1 h1; unfold maxLen at hcm1
  have HBB := Lib.hid hb
  have hl14 := (itemsB_true hb).1
  have HX := Lib.hid hx
  clear hx hb
  go_enter Tryz.func64, Tryz.ntmps64
  have K0 := Kept.refl w
  go_wp2_with fail
  obtain ⟨wb1, hwb1⟩ : ∃ w' : World, w' = w.alloc (.cells #[.slice A0 x.elems.length c0, .slice D0 x.limits.length d0, .int .i64 x.repeats, .int .i64 x.bonus, .int .i64 x.keeps, .int .i64 x.fall] 26) := ⟨_, rfl⟩
  rw [← hwb1]
  have KB0 : Kept w wb1 := hwb1 ▸ (Kept.refl w).alloc _
  have B0 : Box wb1 (w.heap.size) 26 #[.slice A0 x.elems.length c0, .slice D0 x.limits.length d0, .int .i64 x.repeats, .int .i64 x.bonus, .int .i64 x.keeps, .int .i64 x.fall] := hwb1 ▸ Box.new w (w.heap.size) 26 #[.slice A0 x.elems.length c0, .slice D0 x.limits.length d0, .int .i64 x.repeats, .int .i64 x.bonus, .int .i64 x.keeps, .int .i64 x.fall] rfl
  have swb1 : wb1.heap.size = w.heap.size + 1 := by rw [hwb1]; simp
  clear hwb1
  have Kwb1 := K0.trans KB0
  go_loopw [5, 6] (fun q i wr => ∃ j : Nat, j ≤ 8 ∧ i = .int .i64 ((j : Int) + 1) ∧ OwnI wr wb1.heap.size q (brokenV x its j) ∧ Kept wb1 wr) (fun _ i _ => 9 - (intOf i).toNat)
  case atStart => exact ⟨0, Nat.zero_le _, rfl, own_nil _ _, Kept.refl _⟩
  case round =>
    obtain ⟨j, hj, rfl, ho, hkept⟩ := hrel
    have HO := Lib.hid ho
    clear ho
    replace B0 := B0.kept hkept
    have szr := hkept.size
    have Kr := Kwb1.trans hkept
    have hbl := brokenV_len x its j
    by_cases hlt : j < 8
    · have HSN := Lib.hid (brokenV_snoc x its j)
      obtain ⟨x0, y0⟩ := B0.six
      go_wp2_with fail
      clear x0 y0
      refine (pgHolds_any _ _ x its ((j : Int) + 1) _ (H0.out.kept Kr) (H1.out.kept Kr) HX.out HBB.out (by omega) (by omega)).mono ?_
      rintro e w1 ⟨rfl, k1⟩
      replace B0 := B0.kept k1
      have sz1 := k1.size
      have K1 := Kr.trans k1
      by_cases hq : ruleB x its ((j : Int) + 1) = true
      · have HN : Hid (brokenV x its (j + 1) = brokenV x its j) := Lib.hid (by rw [HSN.out, if_pos hq, List.append_nil])
        rw [hq]
        clear hq
        obtain ⟨x0, y0⟩ := B0.six
        go_wp2_with fail
        clear x0 y0
        go_roundw
        case rel => exact ⟨j + 1, by omega, by go_num, by rw [HN.out]; exact HO.out.kept k1, hkept.trans k1⟩
        case measure => simp [intOf]; omega
      · have HN : Hid (brokenV x its (j + 1) = brokenV x its j ++ [(j : Int) + 1]) := Lib.hid (by rw [HSN.out, if_neg hq])
        simp only [Bool.not_eq_true] at hq
        rw [hq]
        clear hq
        obtain ⟨x0, y0⟩ := B0.six
        go_wp2_with (at_builtin; refine wpList_append_int _ rfl _ _ rfl wb1.heap.size _ (brokenV x its j) rfl ((HO.out.kept k1).kept ((Kept.refl _).alloc _)) _ ((j : Int) + 1) rfl ((Box.new _ _ _ _ rfl).cell 0) (by omega) (by have := k1.size; have := hkept.size; simp; omega) ?_; intro v3 w3 o3 g3)
        clear x0 y0
        have kg : Kept wb1 w3 := ((hkept.trans k1).alloc (.cells #[.int .i64 ((j : Int) + 1)] 3)).grew ((HO.out.kept k1).kept ((Kept.refl _).alloc _)) g3 (Nat.le_refl _)
        have HO3 := Lib.hid o3
        clear o3 g3
        go_wp2_with fail
        go_roundw
        case rel => exact ⟨j + 1, by omega, by go_num, by rw [HN.out]; exact HO3.out, kg⟩
        case measure => simp [intOf]; omega
    · obtain rfl : j = 8 := by omega
      obtain ⟨x0, y0⟩ := B0.six
      go_wp2_with fail
      clear x0 y0
      go_ret
      exact ⟨_, rfl, HO.out.base Kwb1.size, Kr⟩
set_option maxHeartbeats 4000000 in
theorem implBrokenRules_any (v0 v1 : Value) (x : CodeD) (its : List ItemD) (w : World) (h0 : CodeAt w v0 x) (h1 : ItemsAt w v1 its)  :
    Calls Tryz.prog 59 #[v0, v1] w fun e w' => ∃ v', e = .returned (.tuple #[v', .bool (kwOk x its)]) ∧ OwnI w' w.heap.size v' (onL (kwOk x its) (brokenV x its 8)) ∧ Kept w w' := by
  have H0 := Lib.hid h0
  obtain ⟨n0, m0, rfl, p0, q0⟩ := h0
  have HE0 := Lib.hid p0; have HI0 := Lib.hid q0
  obtain ⟨A0, c0, rfl, hnc0, hcm0, _⟩ := p0.1.out; obtain ⟨D0, d0, rfl, hnd0, hdm0, _⟩ := q0.out; clear p0 q0; unfold maxLen at hcm0 hdm0
  have H1 := Lib.hid h1
  obtain ⟨A1, c1, cs1, rfl, hnc1, hcm1, hA1⟩ := h1.out; have HA1 := Lib.hid hA1; clear hA1 h1; unfold maxLen at hcm1
  go_enter Tryz.func59, Tryz.ntmps59
  have K0 := Kept.refl w
  go_wp2_with fail
  obtain ⟨wb1, hwb1⟩ : ∃ w' : World, w' = w.alloc (.cells #[.slice A0 x.elems.length c0, .slice D0 x.limits.length d0, .int .i64 x.repeats, .int .i64 x.bonus, .int .i64 x.keeps, .int .i64 x.fall] 26) := ⟨_, rfl⟩
  rw [← hwb1]
  have KB0 : Kept w wb1 := hwb1 ▸ (Kept.refl w).alloc _
  have B0 : Box wb1 (w.heap.size) 26 #[.slice A0 x.elems.length c0, .slice D0 x.limits.length d0, .int .i64 x.repeats, .int .i64 x.bonus, .int .i64 x.keeps, .int .i64 x.fall] := hwb1 ▸ Box.new w (w.heap.size) 26 #[.slice A0 x.elems.length c0, .slice D0 x.limits.length d0, .int .i64 x.repeats, .int .i64 x.bonus, .int .i64 x.keeps, .int .i64 x.fall] rfl
  have swb1 : wb1.heap.size = w.heap.size + 1 := by rw [hwb1]; simp
  clear hwb1
  have Kwb1 := K0.trans KB0
  refine (isCode_any _ x _ (H0.out.kept Kwb1)).mono ?_
  rintro e w1 ⟨rfl, k1⟩
  replace B0 := B0.kept k1
  have sz1 := k1.size
  have K1 := Kwb1.trans k1
  by_cases hc : codeB x = true
  case neg =>
    simp only [Bool.not_eq_true] at hc
    rw [hc]
    have HO : Hid (kwOk x its = false) := Lib.hid (by unfold kwOk; simp [hc])
    obtain ⟨x0, y0⟩ := B0.six
    go_wp2_with fail
    clear x0 y0
    go_ret2
    exact ⟨_, ret_vb2 HO.out.symm, by rw [HO.out]; exact own_nil _ _, K1⟩
  rw [hc]
  obtain ⟨x0, y0⟩ := B0.six
  go_wp2_with fail
  clear x0 y0
  refine (areItems_any _ its _ (H1.out.kept K1)).mono ?_
  rintro e w2 ⟨rfl, k2⟩
  replace B0 := B0.kept k2
  have sz2 := k2.size
  have K2 := K1.trans k2
  by_cases hi : itemsB its = true
  case neg =>
    simp only [Bool.not_eq_true] at hi
    rw [hi]
    have HO : Hid (kwOk x its = false) := Lib.hid (by unfold kwOk; simp [hc, hi])
    obtain ⟨x0, y0⟩ := B0.six
    go_wp2_with fail
    clear x0 y0
    go_ret2
    exact ⟨_, ret_vb2 HO.out.symm, by rw [HO.out]; exact own_nil _ _, K2⟩
  rw [hi]
  have HK : Hid (kwOk x its = true) := Lib.hid (by unfold kwOk; rw [hc, hi]; rfl)
  have HX := Lib.hid hc
  have HBB := Lib.hid hi
  have hl14 := (itemsB_true hi).1
  clear hc hi
  obtain ⟨x0, y0⟩ := B0.six
  go_wp2_with fail
  clear x0 y0
  obtain ⟨w0, hw0⟩ : ∃ w' : World, w' = w2.alloc (.cells #[] 3) := ⟨_, rfl⟩
  rw [← hw0]
  have KE : Kept w2 w0 := hw0 ▸ (Kept.refl w2).alloc _
  have HO0 : Hid (OwnI w0 w2.heap.size (.slice (some ⟨w2.heap.size, 0, none⟩) 0 0) (brokenV x its 0)) := Lib.hid (own_made _ _ 1 (Nat.le_refl _) (hw0 ▸ Box.new w2 _ _ _ rfl))
  clear hw0
  go_loopw [6, 7] (fun q i wr => ∃ j : Nat, j ≤ 8 ∧ i = .int .i64 ((j : Int) + 1) ∧ OwnI wr w2.heap.size q (brokenV x its j) ∧ Kept w2 wr) (fun _ i _ => 9 - (intOf i).toNat)
  case atStart => exact ⟨0, Nat.zero_le _, rfl, HO0.out, KE⟩
  case round =>
    obtain ⟨j, hj, rfl, ho, hkept⟩ := hrel
    have HO := Lib.hid ho
    clear ho
    replace B0 := B0.kept hkept
    have szr := hkept.size
    have Kr := K2.trans hkept
    have hbl := brokenV_len x its j
    by_cases hlt : j < 8
    · have HSN := Lib.hid (brokenV_snoc x its j)
      obtain ⟨x0, y0⟩ := B0.six
      go_wp2_with fail
      clear x0 y0
      refine (ruleHolds_any _ _ x its ((j : Int) + 1) _ (H0.out.kept Kr) (H1.out.kept Kr) HX.out HBB.out (by omega) (by omega)).mono ?_
      rintro e w3 ⟨rfl, k3⟩
      replace B0 := B0.kept k3
      have sz3 := k3.size
      have K3 := Kr.trans k3
      by_cases hq : ruleB x its ((j : Int) + 1) = true
      · have HN : Hid (brokenV x its (j + 1) = brokenV x its j) := Lib.hid (by rw [HSN.out, if_pos hq, List.append_nil])
        rw [hq]
        clear hq
        obtain ⟨x0, y0⟩ := B0.six
        go_wp2_with fail
        clear x0 y0
        go_roundw
        case rel => exact ⟨j + 1, by omega, by go_num, by rw [HN.out]; exact HO.out.kept k3, hkept.trans k3⟩
        case measure => simp [intOf]; omega
      · have HN : Hid (brokenV x its (j + 1) = brokenV x its j ++ [(j : Int) + 1]) := Lib.hid (by rw [HSN.out, if_neg hq])
        simp only [Bool.not_eq_true] at hq
        rw [hq]
        clear hq
        obtain ⟨x0, y0⟩ := B0.six
        go_wp2_with (at_builtin; refine wpList_append_int _ rfl _ _ rfl w2.heap.size _ (brokenV x its j) rfl ((HO.out.kept k3).kept ((Kept.refl _).alloc _)) _ ((j : Int) + 1) rfl ((Box.new _ _ _ _ rfl).cell 0) (by omega) (by have := k3.size; have := hkept.size; simp; omega) ?_; intro v3 w3 o3 g3)
        clear x0 y0
        have kg : Kept w2 w3 := ((hkept.trans k3).alloc (.cells #[.int .i64 ((j : Int) + 1)] 3)).grew ((HO.out.kept k3).kept ((Kept.refl _).alloc _)) g3 (Nat.le_refl _)
        have HO3 := Lib.hid o3
        clear o3 g3
        go_wp2_with fail
        go_roundw
        case rel => exact ⟨j + 1, by omega, by go_num, by rw [HN.out]; exact HO3.out, kg⟩
        case measure => simp [intOf]; omega
    · obtain rfl : j = 8 := by omega
      obtain ⟨x0, y0⟩ := B0.six
      go_wp2_with fail
      clear x0 y0
      go_ret2
      exact ⟨_, ret_vb2 HK.out.symm, by rw [HK.out]; exact HO.out.base K2.size, Kr⟩
set_option maxHeartbeats 2000000 in
theorem pgGood_any (v0 v1 : Value) (x : CodeD) (its : List ItemD) (w : World) (h0 : CodeAt w v0 x) (h1 : ItemsAt w v1 its)  :
    Calls Tryz.prog 30 #[v0, v1] w fun e w' => e = .returned (.bool (goodB x its)) ∧ Kept w w' := by
  have H0 := Lib.hid h0
  obtain ⟨n0, m0, rfl, p0, q0⟩ := h0
  have HE0 := Lib.hid p0; have HI0 := Lib.hid q0
  obtain ⟨A0, c0, rfl, hnc0, hcm0, _⟩ := p0.1.out; obtain ⟨D0, d0, rfl, hnd0, hdm0, _⟩ := q0.out; clear p0 q0; unfold maxLen at hcm0 hdm0
  have H1 := Lib.hid h1
  obtain ⟨A1, c1, cs1, rfl, hnc1, hcm1, hA1⟩ := h1.out; have HA1 := Lib.hid hA1; clear hA1 h1; unfold maxLen at hcm1
  go_enter Tryz.func30, Tryz.ntmps30
  have K0 := Kept.refl w
  go_wp2_with fail
  obtain ⟨wb1, hwb1⟩ : ∃ w' : World, w' = w.alloc (.cells #[.slice A0 x.elems.length c0, .slice D0 x.limits.length d0, .int .i64 x.repeats, .int .i64 x.bonus, .int .i64 x.keeps, .int .i64 x.fall] 26) := ⟨_, rfl⟩
  rw [← hwb1]
  have KB0 : Kept w wb1 := hwb1 ▸ (Kept.refl w).alloc _
  have B0 : Box wb1 (w.heap.size) 26 #[.slice A0 x.elems.length c0, .slice D0 x.limits.length d0, .int .i64 x.repeats, .int .i64 x.bonus, .int .i64 x.keeps, .int .i64 x.fall] := hwb1 ▸ Box.new w (w.heap.size) 26 #[.slice A0 x.elems.length c0, .slice D0 x.limits.length d0, .int .i64 x.repeats, .int .i64 x.bonus, .int .i64 x.keeps, .int .i64 x.fall] rfl
  have swb1 : wb1.heap.size = w.heap.size + 1 := by rw [hwb1]; simp
  clear hwb1
  have Kwb1 := K0.trans KB0
  refine (pgAsked_any _ _ x its _ (H0.out.kept Kwb1) (H1.out.kept Kwb1)).mono ?_
  rintro e w1 ⟨rfl, k1⟩
  replace B0 := B0.kept k1
  have sz1 := k1.size
  have K1 := Kwb1.trans k1
  by_cases hq : kwOk x its = true
  case neg =>
    simp only [Bool.not_eq_true] at hq
    rw [hq]
    have HO : Hid (goodB x its = false) := Lib.hid (by unfold goodB; rw [hq]; rfl)
    clear hq
    obtain ⟨x0, y0⟩ := B0.six
    go_wp2_with fail
    clear x0 y0
    go_ret
    exact ⟨ret_bool HO.out.symm, K1⟩
  rw [hq]
  obtain ⟨hc, hi⟩ := kwOk_true hq
  have HK := Lib.hid hq
  clear hq
  obtain ⟨x0, y0⟩ := B0.six
  go_wp2_with fail
  clear x0 y0
  refine (pgFaults_any _ _ x its _ (H0.out.kept K1) (H1.out.kept K1) hc hi).mono ?_
  rintro e w2 ⟨v2, rfl, o2, k2⟩
  replace B0 := B0.kept k2
  have sz2 := k2.size
  have K2 := K1.trans k2
  obtain ⟨Ag, cg, rfl, hcg1, hcg2, _⟩ := own_form o2
  unfold maxLen at hcg2
  clear o2
  have HG : Hid (goodB x its = (brokenV x its 8).isEmpty) := Lib.hid (by unfold goodB; rw [HK.out]; rfl)
  generalize brokenV x its 8 = bl at *
  rcases bl with _ | ⟨bh, bt⟩
  · have HF : Hid (goodB x its = true) := Lib.hid HG.out
    obtain ⟨x0, y0⟩ := B0.six
    go_wp2_with fail
    clear x0 y0
    go_ret
    exact ⟨ret_bool HF.out.symm, K2⟩
  · have HF : Hid (goodB x its = false) := Lib.hid HG.out
    have e1 : (((bh :: bt).length : Int) == 0) = false := beq_eq_false_iff_ne.2 (by simp; omega)
    generalize (bh :: bt).length = bn at *
    obtain ⟨x0, y0⟩ := B0.six
    go_wp2_with fail
    clear x0 y0
    go_ret
    exact ⟨ret_bool HF.out.symm, K2⟩
set_option maxHeartbeats 2000000 in
theorem isProgramme_any (v0 v1 : Value) (x : CodeD) (its : List ItemD) (w : World) (h0 : CodeAt w v0 x) (h1 : ItemsAt w v1 its)  :
    Calls Tryz.prog 25 #[v0, v1] w fun e w' => e = .returned (.bool (goodB x its)) ∧ Kept w w' := by
  have H0 := Lib.hid h0
  obtain ⟨n0, m0, rfl, p0, q0⟩ := h0
  have HE0 := Lib.hid p0; have HI0 := Lib.hid q0
  obtain ⟨A0, c0, rfl, hnc0, hcm0, _⟩ := p0.1.out; obtain ⟨D0, d0, rfl, hnd0, hdm0, _⟩ := q0.out; clear p0 q0; unfold maxLen at hcm0 hdm0
  have H1 := Lib.hid h1
  obtain ⟨A1, c1, cs1, rfl, hnc1, hcm1, hA1⟩ := h1.out; have HA1 := Lib.hid hA1; clear hA1 h1; unfold maxLen at hcm1
  go_enter Tryz.func25, Tryz.ntmps25
  have K0 := Kept.refl w
  go_wp2_with fail
  obtain ⟨wb1, hwb1⟩ : ∃ w' : World, w' = w.alloc (.cells #[.slice A0 x.elems.length c0, .slice D0 x.limits.length d0, .int .i64 x.repeats, .int .i64 x.bonus, .int .i64 x.keeps, .int .i64 x.fall] 26) := ⟨_, rfl⟩
  rw [← hwb1]
  have KB0 : Kept w wb1 := hwb1 ▸ (Kept.refl w).alloc _
  have B0 : Box wb1 (w.heap.size) 26 #[.slice A0 x.elems.length c0, .slice D0 x.limits.length d0, .int .i64 x.repeats, .int .i64 x.bonus, .int .i64 x.keeps, .int .i64 x.fall] := hwb1 ▸ Box.new w (w.heap.size) 26 #[.slice A0 x.elems.length c0, .slice D0 x.limits.length d0, .int .i64 x.repeats, .int .i64 x.bonus, .int .i64 x.keeps, .int .i64 x.fall] rfl
  have swb1 : wb1.heap.size = w.heap.size + 1 := by rw [hwb1]; simp
  clear hwb1
  have Kwb1 := K0.trans KB0
  refine (implBrokenRules_any _ _ x its _ (H0.out.kept Kwb1) (H1.out.kept Kwb1)).mono ?_
  rintro e w1 ⟨v1, rfl, o1, k1⟩
  replace B0 := B0.kept k1
  have sz1 := k1.size
  have K1 := Kwb1.trans k1
  obtain ⟨Ag, cg, rfl, hcg1, hcg2, _⟩ := own_form o1
  unfold maxLen at hcg2
  clear o1
  by_cases hq : kwOk x its = true
  case neg =>
    simp only [Bool.not_eq_true] at hq
    have HO : Hid (goodB x its = false) := Lib.hid (by unfold goodB; rw [hq]; rfl)
    rw [hq]
    clear hq
    rw [show onL false (brokenV x its 8) = [] from rfl]
    obtain ⟨x0, y0⟩ := B0.six
    go_wp2_with fail
    clear x0 y0
    go_ret
    exact ⟨ret_bool HO.out.symm, K1⟩
  have HG : Hid (goodB x its = (brokenV x its 8).isEmpty) := Lib.hid (by unfold goodB; rw [hq]; rfl)
  rw [hq]
  clear hq
  rw [show onL true (brokenV x its 8) = brokenV x its 8 from rfl]
  generalize brokenV x its 8 = bl at *
  rcases bl with _ | ⟨bh, bt⟩
  · have HF : Hid (goodB x its = true) := Lib.hid HG.out
    obtain ⟨x0, y0⟩ := B0.six
    go_wp2_with fail
    clear x0 y0
    go_ret
    exact ⟨ret_bool HF.out.symm, K1⟩
  · have HF : Hid (goodB x its = false) := Lib.hid HG.out
    have e1 : (((bh :: bt).length : Int) == 0) = false := beq_eq_false_iff_ne.2 (by simp; omega)
    generalize (bh :: bt).length = bn at *
    obtain ⟨x0, y0⟩ := B0.six
    go_wp2_with fail
    clear x0 y0
    go_ret
    exact ⟨ret_bool HF.out.symm, K1⟩
set_option maxHeartbeats 2000000 in
theorem implIsProgramme_any (v0 v1 : Value) (x : CodeD) (its : List ItemD) (w : World) (h0 : CodeAt w v0 x) (h1 : ItemsAt w v1 its)  :
    Calls Tryz.prog 20 #[v0, v1] w fun e w' => e = .returned (.tuple #[.bool (onB (kwOk x its) (goodB x its)), .bool (kwOk x its)]) ∧ Kept w w' := by
  have H0 := Lib.hid h0
  obtain ⟨n0, m0, rfl, p0, q0⟩ := h0
  have HE0 := Lib.hid p0; have HI0 := Lib.hid q0
  obtain ⟨A0, c0, rfl, hnc0, hcm0, _⟩ := p0.1.out; obtain ⟨D0, d0, rfl, hnd0, hdm0, _⟩ := q0.out; clear p0 q0; unfold maxLen at hcm0 hdm0
  have H1 := Lib.hid h1
  obtain ⟨A1, c1, cs1, rfl, hnc1, hcm1, hA1⟩ := h1.out; have HA1 := Lib.hid hA1; clear hA1 h1; unfold maxLen at hcm1
  go_enter Tryz.func20, Tryz.ntmps20
  have K0 := Kept.refl w
  go_wp2_with fail
  obtain ⟨wb1, hwb1⟩ : ∃ w' : World, w' = w.alloc (.cells #[.slice A0 x.elems.length c0, .slice D0 x.limits.length d0, .int .i64 x.repeats, .int .i64 x.bonus, .int .i64 x.keeps, .int .i64 x.fall] 26) := ⟨_, rfl⟩
  rw [← hwb1]
  have KB0 : Kept w wb1 := hwb1 ▸ (Kept.refl w).alloc _
  have B0 : Box wb1 (w.heap.size) 26 #[.slice A0 x.elems.length c0, .slice D0 x.limits.length d0, .int .i64 x.repeats, .int .i64 x.bonus, .int .i64 x.keeps, .int .i64 x.fall] := hwb1 ▸ Box.new w (w.heap.size) 26 #[.slice A0 x.elems.length c0, .slice D0 x.limits.length d0, .int .i64 x.repeats, .int .i64 x.bonus, .int .i64 x.keeps, .int .i64 x.fall] rfl
  have swb1 : wb1.heap.size = w.heap.size + 1 := by rw [hwb1]; simp
  clear hwb1
  have Kwb1 := K0.trans KB0
  refine (isCode_any _ x _ (H0.out.kept Kwb1)).mono ?_
  rintro e w1 ⟨rfl, k1⟩
  replace B0 := B0.kept k1
  have sz1 := k1.size
  have K1 := Kwb1.trans k1
  by_cases hc : codeB x = true
  case neg =>
    simp only [Bool.not_eq_true] at hc
    rw [hc]
    have HO : Hid (kwOk x its = false) := Lib.hid (by unfold kwOk; simp [hc])
    obtain ⟨x0, y0⟩ := B0.six
    go_wp2_with fail
    clear x0 y0
    go_ret2
    exact ⟨by rw [HO.out]; rfl, K1⟩
  rw [hc]
  obtain ⟨x0, y0⟩ := B0.six
  go_wp2_with fail
  clear x0 y0
  refine (areItems_any _ its _ (H1.out.kept K1)).mono ?_
  rintro e w2 ⟨rfl, k2⟩
  replace B0 := B0.kept k2
  have sz2 := k2.size
  have K2 := K1.trans k2
  by_cases hi : itemsB its = true
  case neg =>
    simp only [Bool.not_eq_true] at hi
    rw [hi]
    have HO : Hid (kwOk x its = false) := Lib.hid (by unfold kwOk; simp [hc, hi])
    obtain ⟨x0, y0⟩ := B0.six
    go_wp2_with fail
    clear x0 y0
    go_ret2
    exact ⟨by rw [HO.out]; rfl, K2⟩
  rw [hi]
  have HK : Hid (kwOk x its = true) := Lib.hid (by unfold kwOk; rw [hc, hi]; rfl)
  clear hc hi
  obtain ⟨x0, y0⟩ := B0.six
  go_wp2_with fail
  clear x0 y0
  refine (isProgramme_any _ _ x its _ (H0.out.kept K2) (H1.out.kept K2)).mono ?_
  rintro e w3 ⟨rfl, k3⟩
  replace B0 := B0.kept k3
  have sz3 := k3.size
  have K3 := K2.trans k3
  obtain ⟨x0, y0⟩ := B0.six
  go_wp2_with fail
  clear x0 y0
  go_ret2
  exact ⟨by rw [HK.out]; rfl, K3⟩
end Go.Proofs.YtkekpolfdmmgeaaGreat
