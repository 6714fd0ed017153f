/- Contracts of functions that the proof leans on. No condition. -/
import Derived.Test.YtapmlnpdjdneoaaM7fd6175504
/- Programmes: the rules, lists and counts. -/
namespace Go.Proofs.Ytapmlnpdjdneoaa
set_option linter.unusedVariables false
set_option linter.unusedSimpArgs false
open Go.RowKit

theorem half_snoc (its : List ItemD) (k : Nat) : (List.range (k + 1)).all (lateB its) = ((List.range k).all (lateB its) && lateB its k) := by rw [List.range_succ, List.all_append]; simp
theorem lateB_at {its : List ItemD} {k : Nat} {it : ItemD} (h : its[k]? = some it) : lateB its k = (it.late == decide (its.length ≤ 2 * k)) := by unfold lateB; rw [h]
theorem half_no {its : List ItemD} {k : Nat} (hk : k < its.length) (h : lateB its k = false) : halfB its = false := by
  unfold halfB
  rw [List.all_eq_false]
  exact ⟨k, List.mem_range.2 hk, by simp [h]⟩
theorem fit_len (x : CodeD) (its : List ItemD) (h : x.limits.length = 5) : ((countsV x its).zip x.limits).length = 5 := by rw [List.length_zip, countsV_len, h]; rfl
theorem fit_get {x : CodeD} {its : List ItemD} {k : Nat} {n l : Int} (h1 : (countsV x its)[k]? = some n) (h2 : x.limits[k]? = some l) : ((countsV x its).zip x.limits)[k]? = some (n, l) := by
  rw [List.getElem?_zip_eq_some]; exact ⟨h1, h2⟩
theorem isLateAt_is2 (k n : Nat) (b : Bool) (w : World) (hb : decide (n ≤ 2 * k) = b) (hk : k ≤ 1000) (hn : n ≤ 1000) :
    Calls Try.prog 92 #[.int .i64 (k : Int), .int .i64 (n : Int)] w fun e w' => e = .returned (.bool b) ∧ w = w' := by
  subst hb
  go_enter Try.func92, Try.ntmps92
  go_wp2_with fail
  go_ret
  exact ⟨ret_bool (by rw [Bool.eq_iff_iff]; simp; omega), rfl⟩
set_option maxHeartbeats 2000000 in
theorem pgCombined_any (v0 : Value) (its : List ItemD) (w : World) (h0 : ItemsAt w v0 its) (hb : itemsB its = true) :
    Calls Try.prog 104 #[v0] w fun e w' => e = .returned (.tuple #[.int .i64 (twoN its), .int .i64 (threeN its)]) ∧ Kept w w' := by
  have H0 := Lib.hid h0
  obtain ⟨A0, c0, cs0, rfl, hnc0, hcm0, hA0⟩ := h0.out; have HA0 := Lib.hid hA0; clear hA0 h0; unfold maxLen at hcm0
  have HBB := Lib.hid hb
  have hl14 := (itemsB_true hb).1
  go_enter Try.func104, Try.ntmps104
  have K0 := Kept.refl w
  go_wp2_with fail
  go_loopw [4, 5, 10] (fun t q i wr => ∃ k : Nat, k ≤ its.length ∧ i = .int .i64 k ∧ t = .int .i64 (((its.take k).filter combB).length : Nat) ∧ q = .int .i64 (((its.take k).filter (fun (it : ItemD) => decide (2 < it.names.length))).length : Nat) ∧ Kept w wr) (fun _ _ i _ => its.length - (intOf i).toNat)
  case atStart => exact ⟨0, Nat.zero_le _, rfl, rfl, rfl, Kept.refl _⟩
  case round =>
    obtain ⟨k, hk, rfl, rfl, rfl, hkept⟩ := hrel
    have szr := hkept.size
    have Kr := K0.trans hkept
    have f1 := filter_le14 HBB.out combB k
    have f2 := filter_le14 HBB.out (fun (it : ItemD) => decide (2 < it.names.length)) k
    by_cases hlt : k < its.length
    · obtain ⟨b, o, Aa, ca, Ab, cb, it, rfl, hbb, h2, h3, hit, q0, q1, q2⟩ := items_at (HA0.out.kept Kr) hlt
      obtain ⟨hi1, hi3, him⟩ := items_some HBB.out h2
      have HIT := Lib.hid hit
      have S1 := Lib.hid (filter_snoc combB h2)
      have S2 := Lib.hid (filter_snoc (fun (it : ItemD) => decide (2 < it.names.length)) h2)
      clear h2 h3 hit him
      generalize ((its.take k).filter combB).length = tk at *
      generalize ((its.take k).filter (fun (it : ItemD) => decide (2 < it.names.length))).length = qk at *
      rcases (show it.names.length = 1 ∨ it.names.length = 2 ∨ it.names.length = 3 by omega) with hn | hn | hn
      · have C1 : Hid (combB it = false) := Lib.hid (by unfold combB; rw [hn]; rfl)
        have C2 : Hid (decide (2 < it.names.length) = false) := Lib.hid (by rw [hn]; rfl)
        have e1 : decide ((it.names.length : Int) > 1) = false := by simp; omega
        have e2 : decide ((it.names.length : Int) > 2) = false := by simp; omega
        have e3 : ((it.names.length : Int) == 3) = false := by first | (simp; omega) | exact beq_eq_false_iff_ne.2 (by omega)
        clear hn
        go_wp2_with fail
        go_roundw
        case rel => exact ⟨k + 1, by omega, by go_num, by rw [S1.out, C1.out]; first | rfl | go_num | simp, by rw [S2.out, C2.out]; first | rfl | go_num | simp, hkept.alloc _⟩
        case measure => simp [intOf]; omega
      · have C1 : Hid (combB it = true) := Lib.hid (by unfold combB; rw [hn]; rfl)
        have C2 : Hid (decide (2 < it.names.length) = false) := Lib.hid (by rw [hn]; rfl)
        have e1 : decide ((it.names.length : Int) > 1) = true := by simp; omega
        have e2 : decide ((it.names.length : Int) > 2) = false := by simp; omega
        have e3 : ((it.names.length : Int) == 3) = false := by first | (simp; omega) | exact beq_eq_false_iff_ne.2 (by omega)
        clear hn
        go_wp2_with fail
        go_roundw
        case rel => exact ⟨k + 1, by omega, by go_num, by rw [S1.out, C1.out]; first | rfl | go_num | simp, by rw [S2.out, C2.out]; first | rfl | go_num | simp, hkept.alloc _⟩
        case measure => simp [intOf]; omega
      · have C1 : Hid (combB it = true) := Lib.hid (by unfold combB; rw [hn]; rfl)
        have C2 : Hid (decide (2 < it.names.length) = true) := Lib.hid (by rw [hn]; rfl)
        have e1 : decide ((it.names.length : Int) > 1) = true := by simp; omega
        have e2 : decide ((it.names.length : Int) > 2) = true := by simp; omega
        have e3 : ((it.names.length : Int) == 3) = true := by first | (simp; omega) | exact beq_eq_false_iff_ne.2 (by omega)
        clear hn
        go_wp2_with fail
        go_roundw
        case rel => exact ⟨k + 1, by omega, by go_num, by rw [S1.out, C1.out]; first | rfl | go_num | simp, by rw [S2.out, C2.out]; first | rfl | go_num | simp, hkept.alloc _⟩
        case measure => simp [intOf]; omega
    · obtain rfl : k = its.length := by omega
      have E1 : Hid (((its.take its.length).filter combB).length = twoN its) := Lib.hid (by rw [List.take_length]; rfl)
      have E2 : Hid (((its.take its.length).filter (fun (it : ItemD) => decide (2 < it.names.length))).length = threeN its) := Lib.hid (by rw [List.take_length]; rfl)
      rw [E1.out, E2.out]
      rw [E1.out] at f1
      rw [E2.out] at f2
      go_wp2_with fail
      go_ret2
      exact ⟨rfl, Kr⟩
set_option maxHeartbeats 2000000 in
theorem combinesFew_any (v0 : Value) (its : List ItemD) (w : World) (h0 : ItemsAt w v0 its) (hb : itemsB its = true) :
    Calls Try.prog 115 #[v0] w fun e w' => e = .returned (.bool (fewB its)) ∧ Kept w w' := by
  have H0 := Lib.hid h0
  obtain ⟨A0, c0, cs0, rfl, hnc0, hcm0, hA0⟩ := h0.out; have HA0 := Lib.hid hA0; clear hA0 h0; unfold maxLen at hcm0
  have HBB := Lib.hid hb
  have hl14 := (itemsB_true hb).1
  go_enter Try.func115, Try.ntmps115
  have K0 := Kept.refl w
  go_wp2_with fail
  go_loopw [3, 4, 9] (fun t q i wr => ∃ k : Nat, k ≤ its.length ∧ i = .int .i64 k ∧ t = .int .i64 (((its.take k).filter combB).length : Nat) ∧ q = .int .i64 (((its.take k).filter (fun (it : ItemD) => decide (2 < it.names.length))).length : Nat) ∧ Kept w wr) (fun _ _ i _ => its.length - (intOf i).toNat)
  case atStart => exact ⟨0, Nat.zero_le _, rfl, rfl, rfl, Kept.refl _⟩
  case round =>
    obtain ⟨k, hk, rfl, rfl, rfl, hkept⟩ := hrel
    have szr := hkept.size
    have Kr := K0.trans hkept
    have f1 := filter_le14 HBB.out combB k
    have f2 := filter_le14 HBB.out (fun (it : ItemD) => decide (2 < it.names.length)) k
    by_cases hlt : k < its.length
    · obtain ⟨b, o, Aa, ca, Ab, cb, it, rfl, hbb, h2, h3, hit, q0, q1, q2⟩ := items_at (HA0.out.kept Kr) hlt
      obtain ⟨hi1, hi3, him⟩ := items_some HBB.out h2
      have HIT := Lib.hid hit
      have S1 := Lib.hid (filter_snoc combB h2)
      have S2 := Lib.hid (filter_snoc (fun (it : ItemD) => decide (2 < it.names.length)) h2)
      clear h2 h3 hit him
      generalize ((its.take k).filter combB).length = tk at *
      generalize ((its.take k).filter (fun (it : ItemD) => decide (2 < it.names.length))).length = qk at *
      go_upto_region 5 with (fail)
      obtain ⟨wb1, hwb1⟩ : ∃ w' : World, w' = wr.alloc (.cells #[.slice Aa it.names.length ca, .slice Ab it.marks.length cb, .bool it.late] 52) := ⟨_, rfl⟩
      rw [← hwb1]
      have KBt : Kept wr wb1 := hwb1 ▸ (Kept.refl wr).alloc _
      have Bt : Box wb1 (wr.heap.size) 52 #[.slice Aa it.names.length ca, .slice Ab it.marks.length cb, .bool it.late] := hwb1 ▸ Box.new wr (wr.heap.size) 52 #[.slice Aa it.names.length ca, .slice Ab it.marks.length cb, .bool it.late] rfl
      have swb1 : wb1.heap.size = wr.heap.size + 1 := by rw [hwb1]; simp
      clear hwb1
      have Kwb1 := Kr.trans KBt
      obtain ⟨xt, yt⟩ := Bt.three
      go_wp2_with fail
      clear xt yt
      refine (isCombined_any _ it _ (HIT.out.kept KBt)).mono ?_
      rintro e w1 ⟨rfl, k1⟩
      replace Bt := Bt.kept k1
      have sz1 := k1.size
      have K1 := Kwb1.trans k1
      rcases (show it.names.length = 1 ∨ it.names.length = 2 ∨ it.names.length = 3 by omega) with hn | hn | hn
      · have C1 : Hid (combB it = false) := Lib.hid (by unfold combB; rw [hn]; rfl)
        have C2 : Hid (decide (2 < it.names.length) = false) := Lib.hid (by rw [hn]; rfl)
        rw [show decide (1 < it.names.length) = false from C1.out]
        have e1 : decide ((it.names.length : Int) > 1) = false := by simp; omega
        have e2 : decide ((it.names.length : Int) > 2) = false := by simp; omega
        have e3 : ((it.names.length : Int) == 3) = false := by first | (simp; omega) | exact beq_eq_false_iff_ne.2 (by omega)
        clear hn
        obtain ⟨xt, yt⟩ := Bt.three
        go_wp2_with fail
        clear xt yt
        go_roundw
        case rel => exact ⟨k + 1, by omega, by go_num, by rw [S1.out, C1.out]; first | rfl | go_num | simp, by rw [S2.out, C2.out]; first | rfl | go_num | simp, hkept.trans (KBt.trans k1)⟩
        case measure => simp [intOf]; omega
      · have C1 : Hid (combB it = true) := Lib.hid (by unfold combB; rw [hn]; rfl)
        have C2 : Hid (decide (2 < it.names.length) = false) := Lib.hid (by rw [hn]; rfl)
        rw [show decide (1 < it.names.length) = true from C1.out]
        have e1 : decide ((it.names.length : Int) > 1) = true := by simp; omega
        have e2 : decide ((it.names.length : Int) > 2) = false := by simp; omega
        have e3 : ((it.names.length : Int) == 3) = false := by first | (simp; omega) | exact beq_eq_false_iff_ne.2 (by omega)
        clear hn
        obtain ⟨xt, yt⟩ := Bt.three
        go_wp2_with fail
        clear xt yt
        go_roundw
        case rel => exact ⟨k + 1, by omega, by go_num, by rw [S1.out, C1.out]; first | rfl | go_num | simp, by rw [S2.out, C2.out]; first | rfl | go_num | simp, hkept.trans (KBt.trans k1)⟩
        case measure => simp [intOf]; omega
      · have C1 : Hid (combB it = true) := Lib.hid (by unfold combB; rw [hn]; rfl)
        have C2 : Hid (decide (2 < it.names.length) = true) := Lib.hid (by rw [hn]; rfl)
        rw [show decide (1 < it.names.length) = true from C1.out]
        have e1 : decide ((it.names.length : Int) > 1) = true := by simp; omega
        have e2 : decide ((it.names.length : Int) > 2) = true := by simp; omega
        have e3 : ((it.names.length : Int) == 3) = true := by first | (simp; omega) | exact beq_eq_false_iff_ne.2 (by omega)
        clear hn
        obtain ⟨xt, yt⟩ := Bt.three
        go_wp2_with fail
        clear xt yt
        go_roundw
        case rel => exact ⟨k + 1, by omega, by go_num, by rw [S1.out, C1.out]; first | rfl | go_num | simp, by rw [S2.out, C2.out]; first | rfl | go_num | simp, hkept.trans (KBt.trans k1)⟩
        case measure => simp [intOf]; omega
    · obtain rfl : k = its.length := by omega
      have E1 : Hid (((its.take its.length).filter combB).length = twoN its) := Lib.hid (by rw [List.take_length]; rfl)
      have E2 : Hid (((its.take its.length).filter (fun (it : ItemD) => decide (2 < it.names.length))).length = threeN its) := Lib.hid (by rw [List.take_length]; rfl)
      rw [E1.out, E2.out]
      rw [E1.out] at f1
      rw [E2.out] at f2
      have HF : Hid (fewB its = (decide (twoN its ≤ 3) && decide (threeN its ≤ 1))) := Lib.hid rfl
      generalize twoN its = tn at *
      generalize threeN its = hn at *
      clear E1 E2
      by_cases c1 : tn ≤ 3 <;> by_cases c2 : hn ≤ 1
      · have HV : Hid (fewB its = true) := Lib.hid (by rw [HF.out]; simp [c1, c2])
        have e1 : decide ((tn : Int) ≤ 3) = true := by simp; omega
        have e2 : decide ((hn : Int) ≤ 1) = true := by simp; omega
        go_wp2_with fail
        go_ret
        exact ⟨ret_bool HV.out.symm, Kr⟩
      · have HV : Hid (fewB its = false) := Lib.hid (by rw [HF.out]; simp [c1, c2])
        have e1 : decide ((tn : Int) ≤ 3) = true := by simp; omega
        have e2 : decide ((hn : Int) ≤ 1) = false := by simp; omega
        go_wp2_with fail
        go_ret
        exact ⟨ret_bool HV.out.symm, Kr⟩
      · have HV : Hid (fewB its = false) := Lib.hid (by rw [HF.out]; simp [c1, c2])
        have e1 : decide ((tn : Int) ≤ 3) = false := by simp; omega
        have e2 : decide ((hn : Int) ≤ 1) = true := by simp; omega
        go_wp2_with fail
        go_ret
        exact ⟨ret_bool HV.out.symm, Kr⟩
      · have HV : Hid (fewB its = false) := Lib.hid (by rw [HF.out]; simp [c1, c2])
        have e1 : decide ((tn : Int) ≤ 3) = false := by simp; omega
        have e2 : decide ((hn : Int) ≤ 1) = false := by simp; omega
        go_wp2_with fail
        go_ret
        exact ⟨ret_bool HV.out.symm, Kr⟩
set_option maxHeartbeats 2000000 in
theorem pgClean_any (v0 : Value) (its : List ItemD) (w : World) (h0 : ItemsAt w v0 its)  :
    Calls Try.prog 103 #[v0] w fun e w' => e = .returned (.bool (cleanB its)) ∧ Kept w w' := by
  have H0 := Lib.hid h0
  obtain ⟨A0, c0, cs0, rfl, hnc0, hcm0, hA0⟩ := h0.out; have HA0 := Lib.hid hA0; clear hA0 h0; unfold maxLen at hcm0
  go_enter Try.func103, Try.ntmps103
  have K0 := Kept.refl w
  go_wp2_with fail
  go_loopw [7] (fun  i wr => ∃ k : Nat, k ≤ its.length ∧ i = .int .i64 k ∧ (its.take k).all cleanI = true ∧ Kept w wr) (fun  i _ => its.length - (intOf i).toNat)
  case atStart => exact ⟨0, Nat.zero_le _, rfl, rfl, Kept.refl _⟩
  case round =>
    obtain ⟨k, hk, rfl, ha, hkept⟩ := hrel
    have HB := Lib.hid ha
    clear ha
    have szr := hkept.size
    have Kr := K0.trans hkept
    by_cases hlt : k < its.length
    · obtain ⟨b, o, Aa, ca, Ab, cb, it, rfl, hbb, h2, h3, hit, q0, q1, q2⟩ := items_at (HA0.out.kept Kr) hlt
      have HM := Lib.hid hit.parts.2
      have HZ := Lib.hid h2
      clear h2 h3 hit
      go_upto_region 4 with (fail)
      obtain ⟨wb1, hwb1⟩ : ∃ w' : World, w' = wr.alloc (.cells #[.slice Aa it.names.length ca, .slice Ab it.marks.length cb, .bool it.late] 52) := ⟨_, rfl⟩
      rw [← hwb1]
      have KBt : Kept wr wb1 := hwb1 ▸ (Kept.refl wr).alloc _
      have Bt : Box wb1 (wr.heap.size) 52 #[.slice Aa it.names.length ca, .slice Ab it.marks.length cb, .bool it.late] := hwb1 ▸ Box.new wr (wr.heap.size) 52 #[.slice Aa it.names.length ca, .slice Ab it.marks.length cb, .bool it.late] rfl
      have swb1 : wb1.heap.size = wr.heap.size + 1 := by rw [hwb1]; simp
      clear hwb1
      have Kwb1 := Kr.trans KBt
      obtain ⟨xt, yt⟩ := Bt.three
      go_wp2_with fail
      clear xt yt
      refine (l1All_any _ it.marks _ _ _ (HM.out.kept KBt)).mono ?_
      rintro e w' ⟨rfl, rfl⟩
      by_cases hq : it.marks.all (inB · 0 0) = true
      · rw [hq]
        have HF : Hid (cleanI it = true) := Lib.hid hq
        clear hq
        obtain ⟨xt, yt⟩ := Bt.three
        go_wp2_with fail
        clear xt yt
        go_roundw
        case rel => exact ⟨k + 1, by omega, by go_num, all_snoc HZ.out HB.out HF.out, hkept.trans KBt⟩
        case measure => simp [intOf]; omega
      · simp only [Bool.not_eq_true] at hq
        rw [hq]
        have HF : Hid (cleanI it = false) := Lib.hid hq
        clear hq
        obtain ⟨xt, yt⟩ := Bt.three
        go_wp2_with fail
        clear xt yt
        go_ret
        exact ⟨ret_bool (all_not (p := cleanI) HZ.out HF.out).symm, Kwb1⟩
    · have HI := Lib.hid (all_full (p := cleanI) (by omega) HB.out)
      go_wp2_with fail
      go_ret
      exact ⟨ret_bool HI.out.symm, Kr⟩
set_option maxHeartbeats 2000000 in
theorem pgHalf_any (v0 : Value) (its : List ItemD) (w : World) (h0 : ItemsAt w v0 its) (hb : itemsB its = true) :
    Calls Try.prog 106 #[v0] w fun e w' => e = .returned (.bool (halfB its)) ∧ Kept w w' := by
  have H0 := Lib.hid h0
  obtain ⟨A0, c0, cs0, rfl, hnc0, hcm0, hA0⟩ := h0.out; have HA0 := Lib.hid hA0; clear hA0 h0; unfold maxLen at hcm0
  have HBB := Lib.hid hb
  have hl14 := (itemsB_true hb).1
  go_enter Try.func106, Try.ntmps106
  have K0 := Kept.refl w
  go_wp2_with fail
  go_loopw [7] (fun  i wr => ∃ k : Nat, k ≤ its.length ∧ i = .int .i64 k ∧ (List.range k).all (lateB its) = true ∧ Kept w wr) (fun  i _ => its.length - (intOf i).toNat)
  case atStart => exact ⟨0, Nat.zero_le _, rfl, rfl, Kept.refl _⟩
  case round =>
    obtain ⟨k, hk, rfl, ha, hkept⟩ := hrel
    have HB8 := Lib.hid ha
    clear ha
    have szr := hkept.size
    have Kr := K0.trans hkept
    by_cases hlt : k < its.length
    · obtain ⟨b, o, Aa, ca, Ab, cb, it, rfl, hbb, h2, h3, hit, q0, q1, q2⟩ := items_at (HA0.out.kept Kr) hlt
      have HLT := Lib.hid (lateB_at h2)
      clear h2 h3 hit
      go_upto_region 4 with (fail)
      obtain ⟨wb1, hwb1⟩ : ∃ w' : World, w' = wr.alloc (.cells #[.slice Aa it.names.length ca, .slice Ab it.marks.length cb, .bool it.late] 52) := ⟨_, rfl⟩
      rw [← hwb1]
      have KBt : Kept wr wb1 := hwb1 ▸ (Kept.refl wr).alloc _
      have Bt : Box wb1 (wr.heap.size) 52 #[.slice Aa it.names.length ca, .slice Ab it.marks.length cb, .bool it.late] := hwb1 ▸ Box.new wr (wr.heap.size) 52 #[.slice Aa it.names.length ca, .slice Ab it.marks.length cb, .bool it.late] rfl
      have swb1 : wb1.heap.size = wr.heap.size + 1 := by rw [hwb1]; simp
      clear hwb1
      have Kwb1 := Kr.trans KBt
      clear q0 q1 q2
      by_cases hq : its.length ≤ 2 * k <;> cases hL : it.late
      · have HV : Hid (lateB its k = false) := Lib.hid (by rw [HLT.out, hL, decide_eq_true hq]; rfl)
        rw [hL] at Bt
        have hd0 : decide (its.length ≤ 2 * k) = true := decide_eq_true hq
        have hd2 : decide (2 * (k : Int) ≥ (its.length : Int)) = true := by simp; omega
        have HD := Lib.hid hd0
        clear hd0 hq hL
        have HN := Lib.hid (half_no hlt HV.out)
        obtain ⟨xt, yt⟩ := Bt.three
        go_wp2_with fail
        clear xt yt
        go_ret
        exact ⟨ret_bool HN.out.symm, Kwb1⟩
      · have HV : Hid (lateB its k = true) := Lib.hid (by rw [HLT.out, hL, decide_eq_true hq]; rfl)
        rw [hL] at Bt
        have hd0 : decide (its.length ≤ 2 * k) = true := decide_eq_true hq
        have hd2 : decide (2 * (k : Int) ≥ (its.length : Int)) = true := by simp; omega
        have HD := Lib.hid hd0
        clear hd0 hq hL
        obtain ⟨xt, yt⟩ := Bt.three
        go_wp2_with fail
        clear xt yt
        go_roundw
        case rel => exact ⟨k + 1, by omega, by go_num, by rw [half_snoc, HB8.out, HV.out]; rfl, hkept.trans KBt⟩
        case measure => simp [intOf]; omega
      · have HV : Hid (lateB its k = true) := Lib.hid (by rw [HLT.out, hL, decide_eq_false hq]; rfl)
        rw [hL] at Bt
        have hd0 : decide (its.length ≤ 2 * k) = false := decide_eq_false hq
        have hd2 : decide (2 * (k : Int) ≥ (its.length : Int)) = false := by simp; omega
        have HD := Lib.hid hd0
        clear hd0 hq hL
        obtain ⟨xt, yt⟩ := Bt.three
        go_wp2_with fail
        clear xt yt
        go_roundw
        case rel => exact ⟨k + 1, by omega, by go_num, by rw [half_snoc, HB8.out, HV.out]; rfl, hkept.trans KBt⟩
        case measure => simp [intOf]; omega
      · have HV : Hid (lateB its k = false) := Lib.hid (by rw [HLT.out, hL, decide_eq_false hq]; rfl)
        rw [hL] at Bt
        have hd0 : decide (its.length ≤ 2 * k) = false := decide_eq_false hq
        have hd2 : decide (2 * (k : Int) ≥ (its.length : Int)) = false := by simp; omega
        have HD := Lib.hid hd0
        clear hd0 hq hL
        have HN := Lib.hid (half_no hlt HV.out)
        obtain ⟨xt, yt⟩ := Bt.three
        go_wp2_with fail
        clear xt yt
        go_ret
        exact ⟨ret_bool HN.out.symm, Kwb1⟩
    · obtain rfl : k = its.length := by omega
      go_wp2_with fail
      go_ret
      exact ⟨ret_bool (show halfB its = true from HB8.out).symm, Kr⟩
set_option maxHeartbeats 2000000 in
theorem fitsLimits_any (v0 v1 : Value) (x : CodeD) (its : List ItemD) (w : World) (h0 : CodeAt w v0 x) (h1 : ItemsAt w v1 its) (hx : codeB x = true) (hb : itemsB its = true) :
    Calls Try.prog 116 #[v0, v1] w fun e w' => e = .returned (.bool (fitB x its)) ∧ Kept w w' := by
  have H0 := Lib.hid h0
  obtain ⟨n0, m0, rfl, p0, q0⟩ := h0
  have HE0 := Lib.hid p0; have HI0 := Lib.hid q0
  obtain ⟨A0, c0, rfl, hnc0, hcm0, _⟩ := p0.1.out; obtain ⟨D0, d0, rfl, hnd0, hdm0, _⟩ := q0.out; clear p0 q0; unfold maxLen at hcm0 hdm0
  have H1 := Lib.hid h1
  obtain ⟨A1, c1, cs1, rfl, hnc1, hcm1, hA1⟩ := h1.out; have HA1 := Lib.hid hA1; clear hA1 h1; unfold maxLen at hcm1
  have HBB := Lib.hid hb
  have hl14 := (itemsB_true hb).1
  have HX := Lib.hid hx
  go_enter Try.func116, Try.ntmps116
  have K0 := Kept.refl w
  go_wp2_with fail
  obtain ⟨wb1, hwb1⟩ : ∃ w' : World, w' = w.alloc (.cells #[.slice A0 x.elems.length c0, .slice D0 x.limits.length d0, .int .i64 x.repeats, .int .i64 x.bonus, .int .i64 x.keeps, .int .i64 x.fall] 43) := ⟨_, rfl⟩
  rw [← hwb1]
  have KB0 : Kept w wb1 := hwb1 ▸ (Kept.refl w).alloc _
  have B0 : Box wb1 (w.heap.size) 43 #[.slice A0 x.elems.length c0, .slice D0 x.limits.length d0, .int .i64 x.repeats, .int .i64 x.bonus, .int .i64 x.keeps, .int .i64 x.fall] := hwb1 ▸ Box.new w (w.heap.size) 43 #[.slice A0 x.elems.length c0, .slice D0 x.limits.length d0, .int .i64 x.repeats, .int .i64 x.bonus, .int .i64 x.keeps, .int .i64 x.fall] rfl
  have swb1 : wb1.heap.size = w.heap.size + 1 := by rw [hwb1]; simp
  clear hwb1
  have Kwb1 := K0.trans KB0
  refine (familyCounts_any _ _ x its _ (H0.out.kept Kwb1) (H1.out.kept Kwb1) HX.out HBB.out).mono ?_
  rintro e w1 ⟨v1, rfl, o1, k1⟩
  replace B0 := B0.kept k1
  have sz1 := k1.size
  have K1 := Kwb1.trans k1
  have hl5 : x.limits.length = 5 := (codeB_heads HX.out).2
  have HL5 := Lib.hid hl5
  have HCL := Lib.hid (countsV_len x its)
  have HFL := Lib.hid (fit_len x its hl5)
  clear hl5
  have HCO := Lib.hid (show Seq w1 v1 5 ((countsV x its).map (Value.int .i64)) from HCL.out ▸ Seq.of_own o1)
  clear o1
  obtain ⟨Ag, cg, rfl, hcg1, hcg2, _⟩ := HCO.out.out
  unfold maxLen at hcg2
  obtain ⟨x0, y0⟩ := B0.six
  go_wp2_with fail
  clear x0 y0
  go_loopw [11] (fun  i wr => ∃ k : Nat, k ≤ 5 ∧ i = .int .i64 k ∧ (((countsV x its).zip x.limits).take k).all (fun p => decide (p.1 ≤ p.2)) = true ∧ Kept w1 wr) (fun  i _ => 5 - (intOf i).toNat)
  case atStart => exact ⟨0, Nat.zero_le _, rfl, rfl, Kept.refl _⟩
  case round =>
    obtain ⟨k, hk, rfl, ha, hkept⟩ := hrel
    have HB6 := Lib.hid ha
    clear ha
    replace B0 := B0.kept hkept
    have szr := hkept.size
    have Kr := K1.trans hkept
    by_cases hlt : k < 5
    · obtain ⟨b, o, l, rfl, hb', hl, hcl⟩ := ints_at (HI0.out.kept Kr).addr (k := k) (by rw [HL5.out]; exact hlt)
      obtain ⟨n, hn⟩ : ∃ n, (countsV x its)[k]? = some n := ⟨_, List.getElem?_eq_getElem (by rw [HCL.out]; exact hlt)⟩
      obtain ⟨bg, og, rfl, hbg, hcn⟩ := ((HCO.out.kept hkept).addr).at_ (j := k) (u := .int .i64 n) (by omega) (by rw [List.getElem?_map, hn]; rfl)
      have HZ := Lib.hid (fit_get hn hl)
      have hjl : (k : Int) < (x.limits.length : Int) := by rw [HL5.out]; omega
      clear hn hl
      by_cases hq : n ≤ l
      · have e1 : decide (n > l) = false := by simp; omega
        have HF : Hid (decide (n ≤ l) = true) := Lib.hid (decide_eq_true hq)
        clear hq
        obtain ⟨x0, y0⟩ := B0.six
        go_wp2_with fail
        clear x0 y0
        go_roundw
        case rel => exact ⟨k + 1, by omega, by go_num, all_snoc HZ.out HB6.out HF.out, hkept⟩
        case measure => simp [intOf]; omega
      · have e1 : decide (n > l) = true := by simp; omega
        have HF : Hid (decide (n ≤ l) = false) := Lib.hid (decide_eq_false hq)
        clear hq
        have HN : Hid (fitB x its = false) := Lib.hid (all_not (p := fun (p : Int × Int) => decide (p.1 ≤ p.2)) HZ.out HF.out)
        obtain ⟨x0, y0⟩ := B0.six
        go_wp2_with fail
        clear x0 y0
        go_ret
        exact ⟨ret_bool HN.out.symm, Kr⟩
    · have HY : Hid (fitB x its = true) := Lib.hid (all_full (p := fun (p : Int × Int) => decide (p.1 ≤ p.2)) (by rw [HFL.out]; omega) HB6.out)
      obtain ⟨x0, y0⟩ := B0.six
      go_wp2_with fail
      clear x0 y0
      go_ret
      exact ⟨ret_bool HY.out.symm, Kr⟩
end Go.Proofs.Ytapmlnpdjdneoaa
