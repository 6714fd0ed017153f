/- Contracts of functions that the proof leans on. No condition. -/
import Derived.Test.YtkekpolfdmmgeaaGreatMa250da258d
import Derived.Deep.DeepCutAuto
import Derived.StillTailTactics
import Derived.Deep.RegionHeld3
/- Programmes: the rules. -/
namespace Go.Proofs.YtkekpolfdmmgeaaGreat
set_option linter.unusedVariables false
set_option linter.unusedSimpArgs false
open Go.RowKit

theorem times_any_bd {its : List ItemD} (hb : itemsB its = true) (s : ByteArray) : times its s ≤ 42 ∧ timesC its s ≤ 42 := by
  have h := times_bd hb s its.length
  rw [List.take_length] at h
  exact h
def pnB (x : CodeD) (its : List ItemD) (it : ItemD) (s : ByteArray) (r : Int) : Bool := if r = 2 then knS x s else if r = 4 then jumpS x it s else repS x its s
theorem jumpS_one {x : CodeD} {it : ItemD} (s : ByteArray) (h : ¬ 1 < it.names.length) : jumpS x it s = true := by unfold jumpS combB; rw [decide_eq_false h]; rfl
theorem jumpS_two {x : CodeD} {it : ItemD} (s : ByteArray) (h : 1 < it.names.length) : jumpS x it s = (famN x s == 0) := by unfold jumpS combB; rw [decide_eq_true h]; rfl
set_option maxHeartbeats 2000000 in
theorem combinesJumps_any (v0 v1 : Value) (x : CodeD) (its : List ItemD) (w : World) (h0 : CodeAt w v0 x) (h1 : ItemsAt w v1 its) (hb : itemsB its = true) :
    Calls Tryz.prog 84 #[v0, v1] w fun e w' => e = .returned (.bool (jumpB x its)) ∧ Kept w w' := by
  have H0 := Lib.hid h0
  obtain ⟨n0, m0, rfl, p0, q0⟩ := h0
  have HE0 := Lib.hid p0; have HI0 := Lib.hid q0
  obtain ⟨A0, c0, rfl, hnc0, hcm0, _⟩ := p0.1.out; obtain ⟨D0, d0, rfl, hnd0, hdm0, _⟩ := q0.out; clear p0 q0; unfold maxLen at hcm0 hdm0
  have H1 := Lib.hid h1
  obtain ⟨A1, c1, cs1, rfl, hnc1, hcm1, hA1⟩ := h1.out; have HA1 := Lib.hid hA1; clear hA1 h1; unfold maxLen at hcm1
  have HBB := Lib.hid hb
  have hl14 := (itemsB_true hb).1
  go_enter Tryz.func84, Tryz.ntmps84
  have K0 := Kept.refl w
  go_wp2_with fail
  obtain ⟨wb1, hwb1⟩ : ∃ w' : World, w' = w.alloc (.cells #[.slice A0 x.elems.length c0, .slice D0 x.limits.length d0, .int .i64 x.repeats, .int .i64 x.bonus, .int .i64 x.keeps, .int .i64 x.fall] 26) := ⟨_, rfl⟩
  rw [← hwb1]
  have KB0 : Kept w wb1 := hwb1 ▸ (Kept.refl w).alloc _
  have B0 : Box wb1 (w.heap.size) 26 #[.slice A0 x.elems.length c0, .slice D0 x.limits.length d0, .int .i64 x.repeats, .int .i64 x.bonus, .int .i64 x.keeps, .int .i64 x.fall] := hwb1 ▸ Box.new w (w.heap.size) 26 #[.slice A0 x.elems.length c0, .slice D0 x.limits.length d0, .int .i64 x.repeats, .int .i64 x.bonus, .int .i64 x.keeps, .int .i64 x.fall] rfl
  have swb1 : wb1.heap.size = w.heap.size + 1 := by rw [hwb1]; simp
  clear hwb1
  have Kwb1 := K0.trans KB0
  go_loopw [12] (fun i wr => ∃ k : Nat, k ≤ its.length ∧ i = .int .i64 k ∧ (its.take k).all (jumpI x) = true ∧ Kept wb1 wr) (fun i _ => its.length - (intOf i).toNat)
  case atStart => exact ⟨0, Nat.zero_le _, rfl, rfl, Kept.refl _⟩
  case round =>
    obtain ⟨wo, rfl⟩ : ∃ wo : World, wo = wr := ⟨_, rfl⟩
    obtain ⟨k, hk, rfl, ha, hkept⟩ := hrel
    have HB := Lib.hid ha
    clear ha
    replace B0 := B0.kept hkept
    have szo := hkept.size
    have Ko := Kwb1.trans hkept
    by_cases hlt : k < its.length
    · obtain ⟨b, o, Aa, ca, Ab, cb, it, rfl, hbb, h2, h3, hit, q0, q1, q2⟩ := items_at (HA1.out.kept Ko) hlt
      have HS := Lib.hid hit.parts.1
      have HIT := Lib.hid hit
      have HZ := Lib.hid h2
      have hsm := items_some HBB.out h2
      obtain ⟨hi1, hi3, him⟩ := hsm
      clear h2 h3 hit him
      have hle : it.names.length ≤ ca ∧ ca ≤ maxLen := by obtain ⟨_, _, e, h1, h2, _⟩ := HS.out.1.out; injection e with _ _ e; subst e; exact ⟨h1, h2⟩
      obtain ⟨hle1, hle2⟩ := hle
      unfold maxLen at hle2
      obtain ⟨x0, y0⟩ := B0.six
      go_upto_region 4 with (fail)
      clear x0 y0
      obtain ⟨wb2, hwb2⟩ : ∃ w' : World, w' = wo.alloc (.cells #[.slice Aa it.names.length ca, .slice Ab it.marks.length cb, .bool it.late] 30) := ⟨_, rfl⟩
      rw [← hwb2]
      have KBt : Kept wo wb2 := hwb2 ▸ (Kept.refl wo).alloc _
      have Bt : Box wb2 (wo.heap.size) 30 #[.slice Aa it.names.length ca, .slice Ab it.marks.length cb, .bool it.late] := hwb2 ▸ Box.new wo (wo.heap.size) 30 #[.slice Aa it.names.length ca, .slice Ab it.marks.length cb, .bool it.late] rfl
      have swb2 : wb2.heap.size = wo.heap.size + 1 := by rw [hwb2]; simp
      clear hwb2
      replace B0 := B0.kept KBt
      have Kwb2 := Ko.trans KBt
      obtain ⟨x0, y0⟩ := B0.six
      obtain ⟨xt, yt⟩ := Bt.three
      go_wp2_with fail
      clear x0 y0 xt yt
      go_loopw [19] (fun i wi => ∃ j : Nat, j ≤ it.names.length ∧ i = .int .i64 j ∧ (it.names.take j).all (jumpS x it) = true ∧ Kept wb2 wi) (fun i _ => it.names.length - (intOf i).toNat)
      case atStart => exact ⟨0, Nat.zero_le _, rfl, rfl, Kept.refl _⟩
      case round =>
        obtain ⟨j, hj, rfl, ha, hki⟩ := hrel
        have HJ := Lib.hid ha
        clear ha
        replace B0 := B0.kept hki
        replace Bt := Bt.kept hki
        have szr := hki.size
        have Kr := Kwb2.trans hki
        by_cases hltj : j < it.names.length
        · obtain ⟨b1, o1, z, rfl, hb1, hz, hc⟩ := strs_at (HS.out.kept ((KBt).trans hki)).1.addr hltj
          have hzs := HS.out.2 z (List.mem_of_getElem? hz)
          have HY := Lib.hid hz
          clear hz
          obtain ⟨x0, y0⟩ := B0.six
          obtain ⟨xt, yt⟩ := Bt.three
          go_wp2_with fail
          clear x0 y0 xt yt
          refine (findElement_any _ x z _ (H0.out.kept Kr)).mono ?_
          rintro e w1 ⟨rfl, k1⟩
          replace B0 := B0.kept k1
          replace Bt := Bt.kept k1
          have sz1 := k1.size
          have K1 := Kr.trans k1
          by_cases hcm2 : 1 < it.names.length
          · have hd : decide (1 < it.names.length) = true := decide_eq_true hcm2
            have HJS := Lib.hid (jumpS_two (x := x) z hcm2)
            obtain ⟨x0, y0⟩ := B0.six
            obtain ⟨xt, yt⟩ := Bt.three
            go_wp2_with fail
            clear x0 y0 xt yt
            refine (isCombined_any _ it _ (HIT.out.kept ((KBt.trans hki).trans k1))).mono ?_
            rintro e w2 ⟨rfl, k2⟩
            replace B0 := B0.kept k2
            replace Bt := Bt.kept k2
            have sz2 := k2.size
            have K2 := K1.trans k2
            rw [hd]
            rcases findV_cases x.elems z with hf | ⟨kk, y, hf, hy, hit⟩
            · have HF : Hid (jumpS x it z = false) := Lib.hid (by rw [HJS.out, famN_none hf]; rfl)
              rw [hf]
              clear hf
              obtain ⟨x0, y0⟩ := B0.six
              obtain ⟨xt, yt⟩ := Bt.three
              go_wp2_with fail
              clear x0 y0 xt yt
              go_ret
              exact ⟨ret_bool (all_not HZ.out (all_not (p := jumpS x it) HY.out (HF.out))).symm, K2⟩
            · have HFM := Lib.hid (famN_hit hf hy)
              rw [hf]
              have hlt3 : kk < x.elems.length := (List.getElem?_eq_some_iff.1 hy).1
              obtain ⟨b', o', y', rfl, hb', h2, q0, q1, q2, q3⟩ := elems_at (HE0.out.kept K2).1.addr hlt3
              rw [hy] at h2; injection h2 with h2; subst h2
              have hlt4 : (kk : Int) < (x.elems.length : Int) := by omega
              clear hf hy hit
              by_cases hy0 : y.family = 0
              · have HF : Hid (jumpS x it z = true) := Lib.hid (by rw [HJS.out, HFM.out, hy0]; rfl)
                have e1 : (y.family != 0) = false := by simp [hy0]
                clear hy0
                obtain ⟨x0, y0⟩ := B0.six
                obtain ⟨xt, yt⟩ := Bt.three
                go_wp2_with fail
                clear x0 y0 xt yt
                go_roundw
                case rel => exact ⟨j + 1, by omega, by go_num, all_snoc HY.out HJ.out (HF.out), hki.trans (k1.trans k2)⟩
                case measure => simp [intOf]; omega
              · have HF : Hid (jumpS x it z = false) := Lib.hid (by rw [HJS.out, HFM.out]; exact beq_eq_false_iff_ne.2 hy0)
                have e1 : (y.family != 0) = true := by simp [hy0]
                clear hy0
                obtain ⟨x0, y0⟩ := B0.six
                obtain ⟨xt, yt⟩ := Bt.three
                go_wp2_with fail
                clear x0 y0 xt yt
                go_ret
                exact ⟨ret_bool (all_not HZ.out (all_not (p := jumpS x it) HY.out (HF.out))).symm, K2⟩
          · have hd : decide (1 < it.names.length) = false := decide_eq_false hcm2
            have HF := Lib.hid (jumpS_one (x := x) z hcm2)
            obtain ⟨x0, y0⟩ := B0.six
            obtain ⟨xt, yt⟩ := Bt.three
            go_wp2_with fail
            clear x0 y0 xt yt
            refine (isCombined_any _ it _ (HIT.out.kept ((KBt.trans hki).trans k1))).mono ?_
            rintro e w3 ⟨rfl, k3⟩
            replace B0 := B0.kept k3
            replace Bt := Bt.kept k3
            have sz3 := k3.size
            have K3 := K1.trans k3
            rw [hd]
            obtain ⟨x0, y0⟩ := B0.six
            obtain ⟨xt, yt⟩ := Bt.three
            go_wp2_with fail
            clear x0 y0 xt yt
            go_roundw
            case rel => exact ⟨j + 1, by omega, by go_num, all_snoc HY.out HJ.out (HF.out), hki.trans (k1.trans k3)⟩
            case measure => simp [intOf]; omega
        · have HI := Lib.hid (all_full (p := jumpS x it) (by omega) HJ.out)
          obtain ⟨x0, y0⟩ := B0.six
          obtain ⟨xt, yt⟩ := Bt.three
          go_wp2_with fail
          clear x0 y0 xt yt
          go_roundw
          case rel => exact ⟨k + 1, by omega, by go_num, all_snoc (p := jumpI x) HZ.out HB.out HI.out, hkept.trans (KBt.trans hki)⟩
          case measure => simp [intOf]; omega
    · have HI := Lib.hid (all_full (p := jumpI x) (by omega) HB.out)
      obtain ⟨x0, y0⟩ := B0.six
      go_wp2_with fail
      clear x0 y0
      go_ret
      exact ⟨ret_bool HI.out.symm, Ko⟩
set_option maxHeartbeats 2000000 in
theorem repeatsWell_any (v0 v1 : Value) (x : CodeD) (its : List ItemD) (w : World) (h0 : CodeAt w v0 x) (h1 : ItemsAt w v1 its) (hb : itemsB its = true) :
    Calls Tryz.prog 87 #[v0, v1] w fun e w' => e = .returned (.bool (repB x its)) ∧ Kept w w' := by
  have H0 := Lib.hid h0
  obtain ⟨n0, m0, rfl, p0, q0⟩ := h0
  have HE0 := Lib.hid p0; have HI0 := Lib.hid q0
  obtain ⟨A0, c0, rfl, hnc0, hcm0, _⟩ := p0.1.out; obtain ⟨D0, d0, rfl, hnd0, hdm0, _⟩ := q0.out; clear p0 q0; unfold maxLen at hcm0 hdm0
  have H1 := Lib.hid h1
  obtain ⟨A1, c1, cs1, rfl, hnc1, hcm1, hA1⟩ := h1.out; have HA1 := Lib.hid hA1; clear hA1 h1; unfold maxLen at hcm1
  have HBB := Lib.hid hb
  have hl14 := (itemsB_true hb).1
  go_enter Tryz.func87, Tryz.ntmps87
  have K0 := Kept.refl w
  go_wp2_with fail
  obtain ⟨wb1, hwb1⟩ : ∃ w' : World, w' = w.alloc (.cells #[.slice A0 x.elems.length c0, .slice D0 x.limits.length d0, .int .i64 x.repeats, .int .i64 x.bonus, .int .i64 x.keeps, .int .i64 x.fall] 26) := ⟨_, rfl⟩
  rw [← hwb1]
  have KB0 : Kept w wb1 := hwb1 ▸ (Kept.refl w).alloc _
  have B0 : Box wb1 (w.heap.size) 26 #[.slice A0 x.elems.length c0, .slice D0 x.limits.length d0, .int .i64 x.repeats, .int .i64 x.bonus, .int .i64 x.keeps, .int .i64 x.fall] := hwb1 ▸ Box.new w (w.heap.size) 26 #[.slice A0 x.elems.length c0, .slice D0 x.limits.length d0, .int .i64 x.repeats, .int .i64 x.bonus, .int .i64 x.keeps, .int .i64 x.fall] rfl
  have swb1 : wb1.heap.size = w.heap.size + 1 := by rw [hwb1]; simp
  clear hwb1
  have Kwb1 := K0.trans KB0
  go_loopw [13] (fun i wr => ∃ k : Nat, k ≤ its.length ∧ i = .int .i64 k ∧ (its.take k).all (repI x its) = true ∧ Kept wb1 wr) (fun i _ => its.length - (intOf i).toNat)
  case atStart => exact ⟨0, Nat.zero_le _, rfl, rfl, Kept.refl _⟩
  case round =>
    obtain ⟨wo, rfl⟩ : ∃ wo : World, wo = wr := ⟨_, rfl⟩
    obtain ⟨k, hk, rfl, ha, hkept⟩ := hrel
    have HB := Lib.hid ha
    clear ha
    replace B0 := B0.kept hkept
    have szo := hkept.size
    have Ko := Kwb1.trans hkept
    by_cases hlt : k < its.length
    · obtain ⟨b, o, Aa, ca, Ab, cb, it, rfl, hbb, h2, h3, hit, q0, q1, q2⟩ := items_at (HA1.out.kept Ko) hlt
      have HS := Lib.hid hit.parts.1
      have HIT := Lib.hid hit
      have HZ := Lib.hid h2
      have hsm := items_some HBB.out h2
      obtain ⟨hi1, hi3, him⟩ := hsm
      clear h2 h3 hit him
      have hle : it.names.length ≤ ca ∧ ca ≤ maxLen := by obtain ⟨_, _, e, h1, h2, _⟩ := HS.out.1.out; injection e with _ _ e; subst e; exact ⟨h1, h2⟩
      obtain ⟨hle1, hle2⟩ := hle
      unfold maxLen at hle2
      obtain ⟨x0, y0⟩ := B0.six
      go_wp2_with fail
      clear x0 y0
      go_loopw [20] (fun i wi => ∃ j : Nat, j ≤ it.names.length ∧ i = .int .i64 j ∧ (it.names.take j).all (repS x its) = true ∧ Kept wo wi) (fun i _ => it.names.length - (intOf i).toNat)
      case atStart => exact ⟨0, Nat.zero_le _, rfl, rfl, (Kept.refl _).alloc _⟩
      case round =>
        obtain ⟨j, hj, rfl, ha, hki⟩ := hrel
        have HJ := Lib.hid ha
        clear ha
        replace B0 := B0.kept hki
        have szr := hki.size
        have Kr := Ko.trans hki
        by_cases hltj : j < it.names.length
        · obtain ⟨b1, o1, z, rfl, hb1, hz, hc⟩ := strs_at (HS.out.kept hki).1.addr hltj
          have hzs := HS.out.2 z (List.mem_of_getElem? hz)
          have HY := Lib.hid hz
          clear hz
          have htp := times_pos HZ.out HY.out
          obtain ⟨tb1, tb2⟩ := times_any_bd HBB.out z
          obtain ⟨x0, y0⟩ := B0.six
          go_wp2_with fail
          clear x0 y0
          refine (timesOf_any _ its z _ (H1.out.kept Kr) HBB.out).mono ?_
          rintro e w1 ⟨rfl, k1⟩
          replace B0 := B0.kept k1
          have sz1 := k1.size
          have K1 := Kr.trans k1
          have HRS := Lib.hid (repS_impl (x := x) htp)
          generalize times its z = tz at *
          generalize timesC its z = tc at *
          by_cases h1 : x.repeats < (tz : Int)
          · have e1 : decide ((tz : Int) > x.repeats) = true := by simp; omega
            have HF : Hid (repS x its z = false) := Lib.hid (by rw [HRS.out, Bool.eq_iff_iff]; simp; omega)
            obtain ⟨x0, y0⟩ := B0.six
            go_wp2_with fail
            clear x0 y0
            go_ret
            exact ⟨ret_bool (all_not HZ.out (all_not (p := repS x its) HY.out (HF.out))).symm, K1⟩
          · have e1 : decide ((tz : Int) > x.repeats) = false := by simp; omega
            by_cases h2 : 1 < tz
            · have e2 : decide ((tz : Int) > 1) = true := by simp; omega
              by_cases h3 : tc = 0
              · have e3 : ((tc : Int) == 0) = true := by simp [h3]
                have HF : Hid (repS x its z = false) := Lib.hid (by rw [HRS.out, Bool.eq_iff_iff]; simp; omega)
                obtain ⟨x0, y0⟩ := B0.six
                go_wp2_with fail
                clear x0 y0
                go_ret
                exact ⟨ret_bool (all_not HZ.out (all_not (p := repS x its) HY.out (HF.out))).symm, K1⟩
              · have e3 : ((tc : Int) == 0) = false := beq_eq_false_iff_ne.2 (by omega)
                have HF : Hid (repS x its z = true) := Lib.hid (by rw [HRS.out, Bool.eq_iff_iff]; simp; omega)
                obtain ⟨x0, y0⟩ := B0.six
                go_wp2_with fail
                clear x0 y0
                go_roundw
                case rel => exact ⟨j + 1, by omega, by go_num, all_snoc HY.out HJ.out (HF.out), hki.trans k1⟩
                case measure => simp [intOf]; omega
            · have e2 : decide ((tz : Int) > 1) = false := by simp; omega
              have HF : Hid (repS x its z = true) := Lib.hid (by rw [HRS.out, Bool.eq_iff_iff]; simp; omega)
              obtain ⟨x0, y0⟩ := B0.six
              go_wp2_with fail
              clear x0 y0
              go_roundw
              case rel => exact ⟨j + 1, by omega, by go_num, all_snoc HY.out HJ.out (HF.out), hki.trans k1⟩
              case measure => simp [intOf]; omega
        · have HI := Lib.hid (all_full (p := repS x its) (by omega) HJ.out)
          obtain ⟨x0, y0⟩ := B0.six
          go_wp2_with fail
          clear x0 y0
          go_roundw
          case rel => exact ⟨k + 1, by omega, by go_num, all_snoc (p := repI x its) HZ.out HB.out HI.out, hkept.trans hki⟩
          case measure => simp [intOf]; omega
    · have HI := Lib.hid (all_full (p := repI x its) (by omega) HB.out)
      obtain ⟨x0, y0⟩ := B0.six
      go_wp2_with fail
      clear x0 y0
      go_ret
      exact ⟨ret_bool HI.out.symm, Ko⟩
set_option maxHeartbeats 2000000 in
theorem pgName_any (v0 v1 v2 : Value) (x : CodeD) (its : List ItemD) (it : ItemD) (z : ByteArray) (r : Int) (w : World) (h0 : CodeAt w v0 x) (h1 : ItemsAt w v1 its) (h2 : ItemAt w v2 it) (hb : itemsB its = true) (h1n : 1 ≤ it.names.length) :
    Calls Tryz.prog 100 #[v0, v1, v2, .string z, .int .i64 r] w fun e w' => e = .returned (.bool (pnB x its it z r)) ∧ Kept w w' := by
  have H0 := Lib.hid h0
  obtain ⟨n0, m0, rfl, p0, q0⟩ := h0
  have HE0 := Lib.hid p0; have HI0 := Lib.hid q0
  obtain ⟨A0, c0, rfl, hnc0, hcm0, _⟩ := p0.1.out; obtain ⟨D0, d0, rfl, hnd0, hdm0, _⟩ := q0.out; clear p0 q0; unfold maxLen at hcm0 hdm0
  have H1 := Lib.hid h1
  obtain ⟨A1, c1, cs1, rfl, hnc1, hcm1, hA1⟩ := h1.out; have HA1 := Lib.hid hA1; clear hA1 h1; unfold maxLen at hcm1
  have H2 := Lib.hid h2
  obtain ⟨n2, m2, rfl, p2, q2⟩ := h2
  have HN2 := Lib.hid p2; have HM2 := Lib.hid q2
  obtain ⟨A2, c2, rfl, hnc2, hcm2, _⟩ := p2.1.out; obtain ⟨D2, d2, rfl, hnd2, hdm2, _⟩ := q2.out; clear p2 q2; unfold maxLen at hcm2 hdm2
  have HBB := Lib.hid hb
  obtain ⟨tb1, tb2⟩ := times_any_bd hb z
  have hl14 := (itemsB_true hb).1
  go_enter Tryz.func100, Tryz.ntmps100
  have K0 := Kept.refl w
  go_wp2_with fail
  obtain ⟨wb1, hwb1⟩ : ∃ w' : World, w' = w.alloc (.cells #[.slice A0 x.elems.length c0, .slice D0 x.limits.length d0, .int .i64 x.repeats, .int .i64 x.bonus, .int .i64 x.keeps, .int .i64 x.fall] 26) := ⟨_, rfl⟩
  rw [← hwb1]
  have KB0 : Kept w wb1 := hwb1 ▸ (Kept.refl w).alloc _
  have B0 : Box wb1 (w.heap.size) 26 #[.slice A0 x.elems.length c0, .slice D0 x.limits.length d0, .int .i64 x.repeats, .int .i64 x.bonus, .int .i64 x.keeps, .int .i64 x.fall] := hwb1 ▸ Box.new w (w.heap.size) 26 #[.slice A0 x.elems.length c0, .slice D0 x.limits.length d0, .int .i64 x.repeats, .int .i64 x.bonus, .int .i64 x.keeps, .int .i64 x.fall] rfl
  have swb1 : wb1.heap.size = w.heap.size + 1 := by rw [hwb1]; simp
  clear hwb1
  have Kwb1 := K0.trans KB0
  obtain ⟨wb2, hwb2⟩ : ∃ w' : World, w' = wb1.alloc (.cells #[.slice A2 it.names.length c2, .slice D2 it.marks.length d2, .bool it.late] 30) := ⟨_, rfl⟩
  rw [← hwb2]
  have KB2 : Kept wb1 wb2 := hwb2 ▸ (Kept.refl wb1).alloc _
  have B2 : Box wb2 (w.heap.size + 1) 30 #[.slice A2 it.names.length c2, .slice D2 it.marks.length d2, .bool it.late] := hwb2 ▸ Box.new wb1 (w.heap.size + 1) 30 #[.slice A2 it.names.length c2, .slice D2 it.marks.length d2, .bool it.late] (by omega)
  have swb2 : wb2.heap.size = wb1.heap.size + 1 := by rw [hwb2]; simp
  clear hwb2
  replace B0 := B0.kept KB2
  have Kwb2 := Kwb1.trans KB2
  refine (cdFind_any _ x z _ (H0.out.kept Kwb2)).mono ?_
  rintro e w1 ⟨rfl, k1⟩
  replace B0 := B0.kept k1
  replace B2 := B2.kept k1
  have sz1 := k1.size
  have K1 := Kwb2.trans k1
  by_cases r2 : r = 2
  · subst r2
    have HV : Hid (pnB x its it z 2 = knS x z) := Lib.hid (if_pos rfl)
    by_cases hf : findV x.elems z < 0
    · have HF := Lib.hid (knS_none hf)
      have e1 : decide (findV x.elems z ≥ 0) = false := by simp; omega
      obtain ⟨x0, y0⟩ := B0.six
      obtain ⟨x2, y2⟩ := B2.three
      go_wp2_with fail
      clear x0 y0 x2 y2
      go_ret
      exact ⟨ret_bool (by rw [HV.out, HF.out]), K1⟩
    · have HF := Lib.hid (knS_hit hf)
      have e1 : decide (findV x.elems z ≥ 0) = true := by simp; omega
      obtain ⟨x0, y0⟩ := B0.six
      obtain ⟨x2, y2⟩ := B2.three
      go_wp2_with fail
      clear x0 y0 x2 y2
      go_ret
      exact ⟨ret_bool (by rw [HV.out, HF.out]), K1⟩
  have e2 : (r == 2) = false := beq_eq_false_iff_ne.2 r2
  by_cases r4 : r = 4
  · subst r4
    have HV : Hid (pnB x its it z 4 = jumpS x it z) := Lib.hid rfl
    by_cases hcm : 1 < it.names.length
    · have HJS := Lib.hid (jumpS_two (x := x) z hcm)
      have ec : ((it.names.length : Int) == 1) = false := beq_eq_false_iff_ne.2 (by omega)
      rcases findV_cases x.elems z with hf | ⟨kk, y, hf, hy, hit⟩
      · have HF : Hid (jumpS x it z = false) := Lib.hid (by rw [HJS.out, famN_none hf]; rfl)
        rw [hf]
        clear hf
        obtain ⟨x0, y0⟩ := B0.six
        obtain ⟨x2, y2⟩ := B2.three
        go_wp2_with fail
        clear x0 y0 x2 y2
        go_ret
        exact ⟨ret_bool (by rw [HV.out, HF.out]), K1⟩
      · have HFM := Lib.hid (famN_hit hf hy)
        rw [hf]
        have hlt3 : kk < x.elems.length := (List.getElem?_eq_some_iff.1 hy).1
        obtain ⟨b', o', y', rfl, hb', h2, q0, q1, q2, q3⟩ := elems_at (HE0.out.kept K1).1.addr hlt3
        rw [hy] at h2; injection h2 with h2; subst h2
        have hlt4 : (kk : Int) < (x.elems.length : Int) := by omega
        clear hf hy hit
        by_cases hy0 : y.family = 0
        · have HF : Hid (jumpS x it z = true) := Lib.hid (by rw [HJS.out, HFM.out, hy0]; rfl)
          have e1 : (y.family == 0) = true := by simp [hy0]
          clear hy0
          obtain ⟨x0, y0⟩ := B0.six
          obtain ⟨x2, y2⟩ := B2.three
          go_wp2_with fail
          clear x0 y0 x2 y2
          go_ret
          exact ⟨ret_bool (by rw [HV.out, HF.out]), K1⟩
        · have HF : Hid (jumpS x it z = false) := Lib.hid (by rw [HJS.out, HFM.out]; exact beq_eq_false_iff_ne.2 hy0)
          have e1 : (y.family == 0) = false := by simp [hy0]
          clear hy0
          obtain ⟨x0, y0⟩ := B0.six
          obtain ⟨x2, y2⟩ := B2.three
          go_wp2_with fail
          clear x0 y0 x2 y2
          go_ret
          exact ⟨ret_bool (by rw [HV.out, HF.out]), K1⟩
    · have HF := Lib.hid (jumpS_one (x := x) z hcm)
      have ec : ((it.names.length : Int) == 1) = true := by simp; omega
      obtain ⟨x0, y0⟩ := B0.six
      obtain ⟨x2, y2⟩ := B2.three
      go_wp2_with fail
      clear x0 y0 x2 y2
      go_ret
      exact ⟨ret_bool (by rw [HV.out, HF.out]), K1⟩
  have e4 : (r == 4) = false := beq_eq_false_iff_ne.2 r4
  have HV : Hid (pnB x its it z r = repS x its z) := Lib.hid (by unfold pnB; rw [if_neg r2, if_neg r4])
  clear r2 r4
  obtain ⟨x0, y0⟩ := B0.six
  obtain ⟨x2, y2⟩ := B2.three
  go_wp2_with fail
  clear x0 y0 x2 y2
  refine (pgTimes_any _ its z _ (H1.out.kept K1) HBB.out).mono ?_
  rintro e w2 ⟨rfl, k2⟩
  replace B0 := B0.kept k2
  replace B2 := B2.kept k2
  have sz2 := k2.size
  have K2 := K1.trans k2
  have HRS : Hid (repS x its z = (decide ((times its z : Int) ≤ x.repeats) && (times its z == 1 || decide (0 < timesC its z)))) := Lib.hid rfl
  generalize times its z = tz at *
  generalize timesC its z = tc at *
  by_cases h1 : (tz : Int) ≤ x.repeats
  · have e1 : decide ((tz : Int) ≤ x.repeats) = true := decide_eq_true h1
    by_cases h2 : tz = 1
    · have e3 : ((tz : Int) == 1) = true := by simp [h2]
      have HF : Hid (repS x its z = true) := Lib.hid (by rw [HRS.out, Bool.eq_iff_iff]; simp; omega)
      obtain ⟨x0, y0⟩ := B0.six
      obtain ⟨x2, y2⟩ := B2.three
      go_wp2_with fail
      clear x0 y0 x2 y2
      go_ret
      exact ⟨ret_bool (by rw [HV.out, HF.out]), K2⟩
    · have e3 : ((tz : Int) == 1) = false := beq_eq_false_iff_ne.2 (by omega)
      by_cases h3 : 0 < tc
      · have e5 : decide ((tc : Int) > 0) = true := by simp; omega
        have HF : Hid (repS x its z = true) := Lib.hid (by rw [HRS.out, Bool.eq_iff_iff]; simp; omega)
        obtain ⟨x0, y0⟩ := B0.six
        obtain ⟨x2, y2⟩ := B2.three
        go_wp2_with fail
        clear x0 y0 x2 y2
        go_ret
        exact ⟨ret_bool (by rw [HV.out, HF.out]), K2⟩
      · have e5 : decide ((tc : Int) > 0) = false := by simp; omega
        have HF : Hid (repS x its z = false) := Lib.hid (by rw [HRS.out, Bool.eq_iff_iff]; simp; omega)
        obtain ⟨x0, y0⟩ := B0.six
        obtain ⟨x2, y2⟩ := B2.three
        go_wp2_with fail
        clear x0 y0 x2 y2
        go_ret
        exact ⟨ret_bool (by rw [HV.out, HF.out]), K2⟩
  · have e1 : decide ((tz : Int) ≤ x.repeats) = false := decide_eq_false h1
    have HF : Hid (repS x its z = false) := Lib.hid (by rw [HRS.out, Bool.eq_iff_iff]; simp; omega)
    obtain ⟨x0, y0⟩ := B0.six
    obtain ⟨x2, y2⟩ := B2.three
    go_wp2_with fail
    clear x0 y0 x2 y2
    go_ret
    exact ⟨ret_bool (by rw [HV.out, HF.out]), K2⟩
set_option maxHeartbeats 2000000 in
theorem pgNames_any (v0 v1 : Value) (x : CodeD) (its : List ItemD) (r : Int) (w : World) (h0 : CodeAt w v0 x) (h1 : ItemsAt w v1 its) (hb : itemsB its = true) :
    Calls Tryz.prog 94 #[v0, v1, .int .i64 r] w fun e w' => e = .returned (.bool (its.all fun it => it.names.all fun s => pnB x its it s r)) ∧ Kept w w' := by
  have H0 := Lib.hid h0
  obtain ⟨n0, m0, rfl, p0, q0⟩ := h0
  have HE0 := Lib.hid p0; have HI0 := Lib.hid q0
  obtain ⟨A0, c0, rfl, hnc0, hcm0, _⟩ := p0.1.out; obtain ⟨D0, d0, rfl, hnd0, hdm0, _⟩ := q0.out; clear p0 q0; unfold maxLen at hcm0 hdm0
  have H1 := Lib.hid h1
  obtain ⟨A1, c1, cs1, rfl, hnc1, hcm1, hA1⟩ := h1.out; have HA1 := Lib.hid hA1; clear hA1 h1; unfold maxLen at hcm1
  have HBB := Lib.hid hb
  have hl14 := (itemsB_true hb).1
  go_enter Tryz.func94, Tryz.ntmps94
  have K0 := Kept.refl w
  go_wp2_with fail
  obtain ⟨wb1, hwb1⟩ : ∃ w' : World, w' = w.alloc (.cells #[.slice A0 x.elems.length c0, .slice D0 x.limits.length d0, .int .i64 x.repeats, .int .i64 x.bonus, .int .i64 x.keeps, .int .i64 x.fall] 26) := ⟨_, rfl⟩
  rw [← hwb1]
  have KB0 : Kept w wb1 := hwb1 ▸ (Kept.refl w).alloc _
  have B0 : Box wb1 (w.heap.size) 26 #[.slice A0 x.elems.length c0, .slice D0 x.limits.length d0, .int .i64 x.repeats, .int .i64 x.bonus, .int .i64 x.keeps, .int .i64 x.fall] := hwb1 ▸ Box.new w (w.heap.size) 26 #[.slice A0 x.elems.length c0, .slice D0 x.limits.length d0, .int .i64 x.repeats, .int .i64 x.bonus, .int .i64 x.keeps, .int .i64 x.fall] rfl
  have swb1 : wb1.heap.size = w.heap.size + 1 := by rw [hwb1]; simp
  clear hwb1
  have Kwb1 := K0.trans KB0
  go_loopw [13] (fun i wr => ∃ k : Nat, k ≤ its.length ∧ i = .int .i64 k ∧ (its.take k).all (fun (it : ItemD) => it.names.all fun s => pnB x its it s r) = true ∧ Kept wb1 wr) (fun i _ => its.length - (intOf i).toNat)
  case atStart => exact ⟨0, Nat.zero_le _, rfl, rfl, Kept.refl _⟩
  case round =>
    obtain ⟨wo, rfl⟩ : ∃ wo : World, wo = wr := ⟨_, rfl⟩
    obtain ⟨k, hk, rfl, ha, hkept⟩ := hrel
    have HB := Lib.hid ha
    clear ha
    replace B0 := B0.kept hkept
    have szo := hkept.size
    have Ko := Kwb1.trans hkept
    by_cases hlt : k < its.length
    · obtain ⟨b, o, Aa, ca, Ab, cb, it, rfl, hbb, h2, h3, hit, q0, q1, q2⟩ := items_at (HA1.out.kept Ko) hlt
      have HS := Lib.hid hit.parts.1
      have HIT := Lib.hid hit
      have HZ := Lib.hid h2
      have hsm := items_some HBB.out h2
      obtain ⟨hi1, hi3, him⟩ := hsm
      clear h2 h3 hit him
      have hle : it.names.length ≤ ca ∧ ca ≤ maxLen := by obtain ⟨_, _, e, h1, h2, _⟩ := HS.out.1.out; injection e with _ _ e; subst e; exact ⟨h1, h2⟩
      obtain ⟨hle1, hle2⟩ := hle
      unfold maxLen at hle2
      obtain ⟨x0, y0⟩ := B0.six
      go_upto_region 4 with (fail)
      clear x0 y0
      obtain ⟨wb2, hwb2⟩ : ∃ w' : World, w' = wo.alloc (.cells #[.slice Aa it.names.length ca, .slice Ab it.marks.length cb, .bool it.late] 30) := ⟨_, rfl⟩
      rw [← hwb2]
      have KBt : Kept wo wb2 := hwb2 ▸ (Kept.refl wo).alloc _
      have Bt : Box wb2 (wo.heap.size) 30 #[.slice Aa it.names.length ca, .slice Ab it.marks.length cb, .bool it.late] := hwb2 ▸ Box.new wo (wo.heap.size) 30 #[.slice Aa it.names.length ca, .slice Ab it.marks.length cb, .bool it.late] rfl
      have swb2 : wb2.heap.size = wo.heap.size + 1 := by rw [hwb2]; simp
      clear hwb2
      replace B0 := B0.kept KBt
      have Kwb2 := Ko.trans KBt
      obtain ⟨x0, y0⟩ := B0.six
      obtain ⟨xt, yt⟩ := Bt.three
      go_wp2_with fail
      clear x0 y0 xt yt
      go_loopw [20] (fun i wi => ∃ j : Nat, j ≤ it.names.length ∧ i = .int .i64 j ∧ (it.names.take j).all (fun (s : ByteArray) => pnB x its it s r) = true ∧ Kept wb2 wi) (fun i _ => it.names.length - (intOf i).toNat)
      case atStart => exact ⟨0, Nat.zero_le _, rfl, rfl, Kept.refl _⟩
      case round =>
        obtain ⟨j, hj, rfl, ha, hki⟩ := hrel
        have HJ := Lib.hid ha
        clear ha
        replace B0 := B0.kept hki
        replace Bt := Bt.kept hki
        have szr := hki.size
        have Kr := Kwb2.trans hki
        by_cases hltj : j < it.names.length
        · obtain ⟨b1, o1, z, rfl, hb1, hz, hc⟩ := strs_at (HS.out.kept ((KBt).trans hki)).1.addr hltj
          have hzs := HS.out.2 z (List.mem_of_getElem? hz)
          have HY := Lib.hid hz
          clear hz
          obtain ⟨x0, y0⟩ := B0.six
          obtain ⟨xt, yt⟩ := Bt.three
          go_wp2_with fail
          clear x0 y0 xt yt
          refine (pgName_any _ _ _ x its it z r _ (H0.out.kept Kr) (H1.out.kept Kr) (HIT.out.kept (KBt.trans hki)) HBB.out hi1).mono ?_
          rintro e w1 ⟨rfl, k1⟩
          replace B0 := B0.kept k1
          replace Bt := Bt.kept k1
          have sz1 := k1.size
          have K1 := Kr.trans k1
          by_cases hq : pnB x its it z r = true
          · rw [hq]
            have HF := Lib.hid hq
            clear hq
            obtain ⟨x0, y0⟩ := B0.six
            obtain ⟨xt, yt⟩ := Bt.three
            go_wp2_with fail
            clear x0 y0 xt yt
            go_roundw
            case rel => exact ⟨j + 1, by omega, by go_num, all_snoc HY.out HJ.out (HF.out), hki.trans k1⟩
            case measure => simp [intOf]; omega
          · simp only [Bool.not_eq_true] at hq
            rw [hq]
            have HF := Lib.hid hq
            clear hq
            obtain ⟨x0, y0⟩ := B0.six
            obtain ⟨xt, yt⟩ := Bt.three
            go_wp2_with fail
            clear x0 y0 xt yt
            go_ret
            exact ⟨ret_bool (all_not HZ.out (all_not (p := fun (s : ByteArray) => pnB x its it s r) HY.out (HF.out))).symm, K1⟩
        · have HI := Lib.hid (all_full (p := fun (s : ByteArray) => pnB x its it s r) (by omega) HJ.out)
          obtain ⟨x0, y0⟩ := B0.six
          obtain ⟨xt, yt⟩ := Bt.three
          go_wp2_with fail
          clear x0 y0 xt yt
          go_roundw
          case rel => exact ⟨k + 1, by omega, by go_num, all_snoc (p := fun (it : ItemD) => it.names.all fun s => pnB x its it s r) HZ.out HB.out HI.out, hkept.trans (KBt.trans hki)⟩
          case measure => simp [intOf]; omega
    · have HI := Lib.hid (all_full (p := fun (it : ItemD) => it.names.all fun s => pnB x its it s r) (by omega) HB.out)
      obtain ⟨x0, y0⟩ := B0.six
      go_wp2_with fail
      clear x0 y0
      go_ret
      exact ⟨ret_bool HI.out.symm, Ko⟩
end Go.Proofs.YtkekpolfdmmgeaaGreat

/- The texts that the laws write as marks. -/
namespace Go.Proofs.YtkekpolfdmmgeaaGreat
set_option linter.unusedVariables false
set_option linter.unusedSimpArgs false
open Go.RowKit

def dgc (q : Nat) : UInt8 := UInt8.ofNat (48 + q % 10)
theorem dgc_toNat (q : Nat) : (dgc q).toNat = 48 + q % 10 := by
  unfold dgc
  rw [UInt8.toNat_ofNat']
  omega
def digF : Nat → Nat → List UInt8 → List UInt8
  | 0, _, out => out
  | f + 1, q, out => if q = 0 then out else digF f (q / 10) (dgc q :: out)
def mt (k : Int) : ByteArray := ⟨(109 :: digF 20 k.toNat []).toArray⟩
theorem digF_zero (f : Nat) (out : List UInt8) : digF f 0 out = out := by cases f <;> simp [digF]
theorem ba_cons (c : UInt8) (l : List UInt8) : (⟨#[c]⟩ : ByteArray) ++ ⟨l.toArray⟩ = ⟨(c :: l).toArray⟩ := by
  apply ByteArray.ext
  simp
theorem conv_one (w : World) (c : UInt8) (n : Int) (hn : n = c.toNat) :
    (convert 22 9 (.slice (some ⟨w.heap.size, 0, none⟩) 1 1)).run Tryz.prog (w.alloc (.cells #[.int .u8 n] 5)) = .ok (.string ⟨#[c]⟩) (w.alloc (.cells #[.int .u8 n] 5)) := by
  subst hn
  exact run_convert_bytes_back (P := Tryz.prog) (w.alloc (.cells #[.int .u8 (c.toNat : Int)] 5)) 22 9 5 ⟨w.heap.size, 0, none⟩ 1 [c] Tryz.underlying22 Tryz.underlying5 Tryz.underlying9 (fun j hj => by
    obtain rfl : j = 0 := by simpa using hj
    simp [Addr.add])
theorem digF_length (f q : Nat) (out : List UInt8) : (digF f q out).length ≤ out.length + f := by
  induction f generalizing q out with
  | zero => simp [digF]
  | succ f ih =>
    rw [digF]
    split
    · omega
    · have := ih (q / 10) (dgc q :: out)
      simp at this
      omega
theorem mt_size (k : Int) : (mt k).size ≤ maxLen := by
  have := digF_length 20 k.toNat []
  have h : (mt k).size = (digF 20 k.toNat []).length + 1 := by
    show (109 :: digF 20 k.toNat []).toArray.size = _
    simp
  rw [h]
  unfold maxLen
  simp at this
  omega
def marksS (k : Int) (n : Nat) : List ByteArray := (List.range n).map fun (i : Nat) => mt (k + (i : Int))
theorem marksS_length (k : Int) (n : Nat) : (marksS k n).length = n := by simp [marksS]
theorem marksS_get {k : Int} {n i : Nat} (h : i < n) : (marksS k n)[i]? = some (mt (k + i)) := by simp [marksS, h]
theorem marksS_size (k : Int) (n : Nat) : ∀ z ∈ marksS k n, z.size ≤ maxLen := by
  intro z hz
  unfold marksS at hz
  obtain ⟨i, _, rfl⟩ := List.mem_map.1 hz
  exact mt_size _
end Go.Proofs.YtkekpolfdmmgeaaGreat

/- The marks that the laws write: strings. -/
namespace Go.Proofs.YtkekpolfdmmgeaaGreat
set_option linter.unusedVariables false
set_option linter.unusedSimpArgs false
open Go.RowKit

/-! ### items marked -/
def nextK (k : Int) (it : ItemD) : Int := k + it.names.length + it.marks.length + 1
def markIt (k : Int) (it : ItemD) : ItemD := ⟨marksS k it.names.length, marksI (k + it.names.length) it.marks.length, ((k + it.names.length + it.marks.length) % 3 == 0)⟩
def ml : Int → List ItemD → List ItemD
  | _, [] => []
  | k, it :: l => markIt k it :: ml (nextK k it) l
def nk : Int → List ItemD → Int
  | k, [] => k
  | k, it :: l => nk (nextK k it) l
theorem ml_length (k : Int) (l : List ItemD) : (ml k l).length = l.length := by
  induction l generalizing k with
  | nil => rfl
  | cons it l ih => simp [ml, ih]
theorem ml_snoc (k : Int) (l : List ItemD) (it : ItemD) : ml k (l ++ [it]) = ml k l ++ [markIt (nk k l) it] := by
  induction l generalizing k with
  | nil => rfl
  | cons x l ih => simp [ml, nk, ih]
theorem nk_snoc (k : Int) (l : List ItemD) (it : ItemD) : nk k (l ++ [it]) = nextK (nk k l) it := by
  induction l generalizing k with
  | nil => rfl
  | cons x l ih => simp [nk, ih]
theorem nk_bd (k : Int) (l : List ItemD) : k ≤ nk k l ∧ nk k l ≤ k + itemsSize l := by
  induction l generalizing k with
  | nil => simp [nk, itemsSize]
  | cons it l ih =>
    have h := ih (nextK k it)
    have hp : it.names.length + it.marks.length ≤ it.size := by unfold ItemD.size strsSize; omega
    unfold nextK at h
    rw [nk]
    unfold nextK
    unfold itemsSize at *
    simp only [List.length_cons, List.map_cons, List.sum_cons]
    omega
theorem itemsSize_take (l : List ItemD) (k : Nat) : itemsSize (l.take k) ≤ itemsSize l := by
  unfold itemsSize
  have := sum_take _ ItemD.size l k
  have := List.length_take_le k l
  have : (l.take k).length ≤ l.length := by rw [List.length_take]; omega
  omega
/-- the list of items with the slices' values in hand -/
def OwnC (w : World) (base : Nat) (v : Value) (its : List ItemD) (cs : List (Value × Value)) : Prop :=
  cs.length = its.length ∧ w.ownsRow base 30 3 v its.length ((cs.zip its).flatMap row3) ∧
    (∀ (k : Nat) (nv mv : Value) (it : ItemD), cs[k]? = some (nv, mv) → its[k]? = some it → OwnS w base nv it.names ∧ OwnI w base mv it.marks) ∧ (fp v ++ fpL cs).Nodup
theorem fpL_other {cs : List (Value × Value)} (h : (fpL cs).Nodup) {i j : Nat} {p q : Value × Value} (hi : cs[i]? = some p) (hj : cs[j]? = some q) (hne : i ≠ j) {b : Nat} (hb : b ∈ fp p.1 ++ fp p.2) : b ∉ fp q.1 ++ fp q.2 := by
  have hp := (List.pairwise_flatMap.1 h).2
  rw [List.pairwise_iff_getElem] at hp
  obtain ⟨hil, rfl⟩ := List.getElem?_eq_some_iff.1 hi
  obtain ⟨hjl, rfl⟩ := List.getElem?_eq_some_iff.1 hj
  intro hb2
  rcases Nat.lt_or_gt_of_ne hne with hlt | hgt
  · exact hp i j hil hjl hlt b hb b hb2 rfl
  · exact hp j i hjl hil hgt b hb2 b hb rfl
theorem fpL_inner {cs : List (Value × Value)} (h : (fpL cs).Nodup) {i : Nat} {p : Value × Value} (hi : cs[i]? = some p) : (fp p.1 ++ fp p.2).Nodup := by
  exact (List.pairwise_flatMap.1 h).1 p (List.mem_of_getElem? hi)
theorem flat_row3 (cs : List (Value × Value)) (its : List ItemD) : (cs.zip its).flatMap row3 = (cs.zip (its.map ItemD.late)).flatMap fun p => [p.1.1, p.1.2, .bool p.2] := by
  rw [List.zip_map_right, List.flatMap_map]
  rfl
theorem set_same {α : Type} {l : List α} {k : Nat} {x : α} (h : l[k]? = some x) : l.set k x = l := by
  obtain ⟨hk, rfl⟩ := List.getElem?_eq_some_iff.1 h
  exact List.set_getElem_self hk
theorem OwnC.setItem {w w' : World} {base : Nat} {v : Value} {its : List ItemD} {cs : List (Value × Value)} {j : Nat} {it it' : ItemD} {nv mv : Value} {T : List Nat}
    (h : OwnC w base v its cs) (hi : its[j]? = some it) (hc : cs[j]? = some (nv, mv)) (ho : Only T w w') (hT : ∀ b ∈ T, b ∈ fp nv ++ fp mv) (hl : it'.late = it.late) (hn : OwnS w' base nv it'.names) (hm : OwnI w' base mv it'.marks) :
    OwnC w' base v (its.set j it') cs := by
  obtain ⟨h1, h2, h3, h4⟩ := h
  have hnd := (List.nodup_append.1 h4)
  refine ⟨by simpa using h1, ?_, ?_, h4⟩
  · have hz : (cs.zip (its.set j it')).flatMap row3 = (cs.zip its).flatMap row3 := by
      rw [flat_row3, flat_row3, List.map_set, hl, set_same (by rw [List.getElem?_map, hi]; rfl)]
    rw [hz, List.length_set]
    refine own_only h2 ho (fun b hb hbT => ?_)
    exact hnd.2.2 b hb b (mem_fpL hc (List.mem_append.1 (hT b hbT))) rfl
  · intro k nv' mv' x q1 q2
    by_cases hk : k = j
    · subst hk
      rw [hc] at q1
      simp at q1
      obtain ⟨rfl, rfl⟩ := q1
      have hlt : k < its.length := (List.getElem?_eq_some_iff.1 hi).1
      rw [List.getElem?_set_self hlt] at q2
      simp at q2
      subst q2
      exact ⟨hn, hm⟩
    · rw [List.getElem?_set_ne (Ne.symm hk)] at q2
      obtain ⟨r1, r2⟩ := h3 k nv' mv' x q1 q2
      have hd := fun b hb => fpL_other hnd.2.1 q1 hc hk (b := b) hb
      exact ⟨r1.only ho (fun b hb hbT => hd b (List.mem_append_left _ hb) (hT b hbT)), r2.only ho (fun b hb hbT => hd b (List.mem_append_right _ hb) (hT b hbT))⟩
end Go.Proofs.YtkekpolfdmmgeaaGreat

/- Lists of items marked, and read again. -/
namespace Go.Proofs.YtkekpolfdmmgeaaGreat
set_option linter.unusedVariables false
set_option linter.unusedSimpArgs false
open Go.RowKit

theorem zip_set_row {cs : List (Value × Value)} {its : List ItemD} {j : Nat} {it' : ItemD} (hl : cs.length = its.length) (hj : j < its.length) :
    ((cs.zip its).flatMap row3).set (j * 3 + 2) (.bool it'.late) = (cs.zip (its.set j it')).flatMap row3 := by
  have hz : (cs.zip its).length = its.length := by rw [List.length_zip]; omega
  have hz' : (cs.zip (its.set j it')).length = its.length := by rw [List.length_zip, List.length_set]; omega
  apply List.ext_getElem?
  intro i
  by_cases hi : i < its.length * 3
  · have e : i = i / 3 * 3 + i % 3 := by omega
    have hm : i % 3 < 3 := by omega
    have hq : i / 3 < its.length := by omega
    have f1 := flat_get row3 3 (fun _ => rfl) (cs.zip its) (i / 3) (i % 3) hm
    have f2 := flat_get row3 3 (fun _ => rfl) (cs.zip (its.set j it')) (i / 3) (i % 3) hm
    rw [← e] at f1 f2
    have g1 : (cs.zip its)[i / 3]? = some (cs[i / 3], its[i / 3]) := by
      rw [List.getElem?_zip_eq_some]
      exact ⟨List.getElem?_eq_getElem _, List.getElem?_eq_getElem _⟩
    have g2 : (cs.zip (its.set j it'))[i / 3]? = some (cs[i / 3], (its.set j it')[i / 3]'(by rw [List.length_set]; exact hq)) := by
      rw [List.getElem?_zip_eq_some]
      exact ⟨List.getElem?_eq_getElem _, List.getElem?_eq_getElem _⟩
    rw [g1] at f1
    rw [g2] at f2
    rw [f2, List.getElem?_set, f1]
    by_cases hij : i / 3 = j
    · subst hij
      have h3 : i % 3 = 0 ∨ i % 3 = 1 ∨ i % 3 = 2 := by omega
      rcases h3 with h | h | h
      · rw [if_neg (by omega), h]; rfl
      · rw [if_neg (by omega), h]; rfl
      · rw [if_pos (by omega), if_pos (by rw [flat_length row3 3 (fun _ => rfl), hz]; omega), h]
        simp [row3]
    · rw [if_neg (by omega)]
      have : (its.set j it')[i / 3]'(by rw [List.length_set]; exact hq) = its[i / 3] := by rw [List.getElem_set_ne (Ne.symm hij)]
      simp [row3, this]
  · rw [List.getElem?_eq_none (by rw [List.length_set, flat_length row3 3 (fun _ => rfl), hz]; omega), List.getElem?_eq_none (by rw [flat_length row3 3 (fun _ => rfl), hz']; omega)]
theorem OwnC.setLate {w : World} {base g cap n : Nat} {its : List ItemD} {cs : List (Value × Value)} {j : Nat} {it it' : ItemD} {nv mv : Value}
    (h : OwnC w base (.slice (some ⟨g, 0, none⟩) n cap) its cs) (hnl : n = its.length) (hi : its[j]? = some it) (hc : cs[j]? = some (nv, mv)) (hn : it'.names = it.names) (hm : it'.marks = it.marks) :
    OwnC (w.setCell ⟨g, j * 3 + 2, none⟩ (.bool it'.late)) base (.slice (some ⟨g, 0, none⟩) n cap) (its.set j it') cs := by
  subst hnl
  obtain ⟨h1, h2, h3, h4⟩ := h
  have hj : j < its.length := (List.getElem?_eq_some_iff.1 hi).1
  have hnd := List.nodup_append.1 h4
  have ho : Only [g] w (w.setCell ⟨g, j * 3 + 2, none⟩ (.bool it'.late)) := (Only.refl _ _).setCell (by simp) _
  refine ⟨by simpa using h1, ?_, ?_, h4⟩
  · have hs := (h2.stored (j * 3 + 2) (.bool it'.late)).1
    rw [zip_set_row h1 hj] at hs
    rw [List.length_set]
    exact hs
  · intro k nv' mv' x q1 q2
    have hg : ∀ b, b ∈ fp nv' ∨ b ∈ fp mv' → b ∉ [g] := fun b hb hbg => by
      rw [List.mem_singleton] at hbg
      exact hnd.2.2 g (by simp [fp_some]) b (mem_fpL q1 hb) hbg.symm
    by_cases hk : k = j
    · subst hk
      rw [List.getElem?_set_self hj] at q2
      simp at q2
      subst q2
      obtain ⟨r1, r2⟩ := h3 k nv' mv' it q1 hi
      rw [hn, hm]
      exact ⟨r1.only ho (fun b hb => hg b (.inl hb)), r2.only ho (fun b hb => hg b (.inr hb))⟩
    · rw [List.getElem?_set_ne (Ne.symm hk)] at q2
      obtain ⟨r1, r2⟩ := h3 k nv' mv' x q1 q2
      exact ⟨r1.only ho (fun b hb => hg b (.inl hb)), r2.only ho (fun b hb => hg b (.inr hb))⟩
/-- the cells of an item of a list that the call owns -/
theorem ownC_cells {w : World} {base g n cap : Nat} {its : List ItemD} {cs : List (Value × Value)} {j : Nat} {it : ItemD} {nv mv : Value} (h : OwnC w base (.slice (some ⟨g, 0, none⟩) n cap) its cs) (hi : its[j]? = some it) (hc : cs[j]? = some (nv, mv)) :
    (w.cell? ⟨g, j * 3, none⟩ = some nv ∧ w.cell? ⟨g, j * 3 + 1, none⟩ = some mv ∧ w.cell? ⟨g, j * 3 + 2, none⟩ = some (.bool it.late)) ∧
      (w.frozen? ⟨g, j * 3, none⟩ = false ∧ w.frozen? ⟨g, j * 3 + 1, none⟩ = false ∧ w.frozen? ⟨g, j * 3 + 2, none⟩ = false) := by
  obtain ⟨h1, h2, h3, h4⟩ := h
  obtain ⟨A', c', e, _, _, hA⟩ := own_form h2
  simp only [Value.slice.injEq] at e
  obtain ⟨_, hn, rfl⟩ := e
  subst hn
  have hj : j < its.length := (List.getElem?_eq_some_iff.1 hi).1
  have hz : (cs.zip its)[j]? = some ((nv, mv), it) := by rw [List.getElem?_zip_eq_some]; exact ⟨hc, hi⟩
  have hf := flat_get row3 3 (fun _ => rfl) (cs.zip its) j
  have hcell : ∀ i, i < 3 → w.cell? ⟨g, j * 3 + i, none⟩ = (row3 ((nv, mv), it))[i]? := fun i hi3 => by
    rw [h2.cellAt (j * 3 + i) (by omega), hf i hi3, hz]
    rfl
  exact ⟨⟨hcell 0 (by omega), hcell 1 (by omega), hcell 2 (by omega)⟩, h2.frozenAt _, h2.frozenAt _, h2.frozenAt _⟩
theorem ownC_at {w : World} {base : Nat} {A : Option Addr} {n c : Nat} {its : List ItemD} {cs : List (Value × Value)} (h : OwnC w base (.slice A n c) its cs) (hnl : n = its.length) {j : Nat} (hj : j < n) :
    ∃ g A1 c1 A2 c2 it, A = some ⟨g, 0, none⟩ ∧ its[j]? = some it ∧ cs[j]? = some (.slice A1 it.names.length c1, .slice A2 it.marks.length c2) ∧
      OwnS w base (.slice A1 it.names.length c1) it.names ∧ OwnI w base (.slice A2 it.marks.length c2) it.marks := by
  subst hnl
  obtain ⟨h1, h2, h3, h4⟩ := h
  obtain ⟨A', c', e, _, _, hA⟩ := own_form h2
  simp only [Value.slice.injEq] at e
  obtain ⟨rfl, _, rfl⟩ := e
  obtain ⟨g, rfl⟩ := hA (by omega)
  have q1 : its[j]? = some its[j] := List.getElem?_eq_getElem hj
  obtain ⟨nv, mv, q2⟩ : ∃ nv mv, cs[j]? = some (nv, mv) := ⟨_, _, List.getElem?_eq_getElem (by omega)⟩
  obtain ⟨r1, r2⟩ := h3 j nv mv its[j] q2 q1
  obtain ⟨A1, c1, rfl, _⟩ := own_form r1.1
  obtain ⟨A2, c2, rfl, _⟩ := own_form r2
  exact ⟨g, A1, c1, A2, c2, its[j], rfl, q1, q2, r1, r2⟩
theorem OwnC.items {w : World} {base : Nat} {v : Value} {its : List ItemD} {cs : List (Value × Value)} (h : OwnC w base v its cs) : ItemsAt w v its := by
  obtain ⟨h1, h2, h3, _⟩ := h
  exact ⟨cs, h1, Seq.of_own h2, fun k nv mv it q1 q2 => ⟨(h3 k nv mv it q1 q2).1.strs, (h3 k nv mv it q1 q2).2.ints⟩⟩
theorem OwnC.only {w w' : World} {base : Nat} {v : Value} {its : List ItemD} {cs : List (Value × Value)} {T : List Nat} (h : OwnC w base v its cs) (ho : Only T w w') (hd : ∀ b ∈ fp v ++ fpL cs, b ∉ T) : OwnC w' base v its cs := by
  obtain ⟨h1, h2, h3, h4⟩ := h
  exact ⟨h1, own_only h2 ho (fun b hb => hd b (List.mem_append_left _ hb)), fun k nv mv it q1 q2 => ⟨(h3 k nv mv it q1 q2).1.only ho (fun b hb => hd b (List.mem_append_right _ (mem_fpL q1 (.inl hb)))), (h3 k nv mv it q1 q2).2.only ho (fun b hb => hd b (List.mem_append_right _ (mem_fpL q1 (.inr hb))))⟩, h4⟩
theorem OwnC.kept {w w' : World} {base : Nat} {v : Value} {its : List ItemD} {cs : List (Value × Value)} (h : OwnC w base v its cs) (hk : Kept w w') : OwnC w' base v its cs := h.only (hk.only []) (fun _ _ => List.not_mem_nil)
theorem OwnL.toC {w : World} {base : Nat} {v : Value} {its : List ItemD} {S : List Nat} (h : OwnL w base v its S) : ∃ cs, OwnC w base v its cs ∧ S = fp v ++ fpL cs ∧ ∀ b ∈ S, base ≤ b ∧ b < w.heap.size := by
  obtain ⟨cs, h1, h2, h3, h4, h5, h6⟩ := h
  exact ⟨cs, ⟨h1, h2, h3, h4 ▸ h5⟩, h4, h6⟩
theorem set_mid {α : Type} (A B : List α) (x y : α) (j : Nat) (hj : j = A.length) : (A ++ x :: B).set j y = A ++ y :: B := by
  subst hj
  rw [List.set_append_right _ _ (Nat.le_refl _)]
  simp
theorem ml_step (k : Int) (its : List ItemD) (j : Nat) (it : ItemD) (h : its[j]? = some it) :
    (ml k (its.take j) ++ its.drop j).set j (markIt (nk k (its.take j)) it) = ml k (its.take (j + 1)) ++ its.drop (j + 1) := by
  obtain ⟨hj, rfl⟩ := List.getElem?_eq_some_iff.1 h
  rw [List.drop_eq_getElem_cons hj, set_mid _ _ _ _ _ (by rw [ml_length, List.length_take]; omega), take_snoc h, ml_snoc, List.append_assoc]
  rfl
theorem ml_at (k : Int) (its : List ItemD) (j : Nat) (hj : j < its.length) : (ml k (its.take j) ++ its.drop j)[j]? = its[j]? := by
  have hl : (ml k (its.take j)).length = j := by rw [ml_length, List.length_take]; omega
  rw [List.getElem?_append_right (by omega), hl, Nat.sub_self, List.getElem?_drop, Nat.add_zero]
theorem ml_len (k : Int) (its : List ItemD) (j : Nat) (hj : j ≤ its.length) : (ml k (its.take j) ++ its.drop j).length = its.length := by
  rw [List.length_append, ml_length, List.length_take, List.length_drop]
  omega
theorem ml_get (k : Int) (its : List ItemD) (j : Nat) (it : ItemD) (h : its[j]? = some it) : (ml k its)[j]? = some (markIt (nk k (its.take j)) it) := by
  induction its generalizing k j with
  | nil => simp at h
  | cons x l ih =>
    cases j with
    | zero => simp at h; subst h; simp [ml, nk]
    | succ j => simp at h; simp [ml, nk, ih _ _ h]
end Go.Proofs.YtkekpolfdmmgeaaGreat

/- The marks that the laws write: elements, codes. -/
namespace Go.Proofs.YtkekpolfdmmgeaaGreat
set_option linter.unusedVariables false
set_option linter.unusedSimpArgs false
open Go.RowKit

def markE (k : Int) : ElemD := ⟨mt k, k + 1, k + 2, k + 3⟩
def marksE (k : Int) (n : Nat) : List ElemD := (List.range n).map fun (i : Nat) => markE (k + 4 * (i : Int))
theorem marksE_length (k : Int) (n : Nat) : (marksE k n).length = n := by simp [marksE]
theorem marksE_get {k : Int} {n i : Nat} (h : i < n) : (marksE k n)[i]? = some (markE (k + 4 * i)) := by simp [marksE, h]
theorem marksE_size (k : Int) (n : Nat) : ∀ e ∈ marksE k n, e.name.size ≤ maxLen := by
  intro z hz
  unfold marksE at hz
  obtain ⟨i, _, rfl⟩ := List.mem_map.1 hz
  exact mt_size _
def markK (k : Int) (x : CodeD) : CodeD := { x with elems := marksE k x.elems.length, limits := marksI (k + 4 * x.elems.length) x.limits.length }
def nextC (k : Int) (x : CodeD) : Int := k + 4 * x.elems.length + x.limits.length
theorem OwnK.nodup {w : World} {base : Nat} {v : Value} {x : CodeD} (h : OwnK w base v x) : (fpA v).Nodup := by
  obtain ⟨_, _, _, _, _, h⟩ := h
  exact h
end Go.Proofs.YtkekpolfdmmgeaaGreat

/- Items over a code: FamilyOf, ItemFamily, KnowsItems. -/
namespace Go.Proofs.YtkekpolfdmmgeaaGreat
set_option linter.unusedVariables false
set_option linter.unusedSimpArgs false
open Go.RowKit

def onB (b v : Bool) : Bool := cond b v false
end Go.Proofs.YtkekpolfdmmgeaaGreat

/- Rounding and sums. -/
namespace Go.Proofs.YtkekpolfdmmgeaaGreat
set_option linter.unusedVariables false
set_option linter.unusedSimpArgs false
open Go.RowKit

theorem fdiv_of (a b : Int) (hb : 1 ≤ b) : a / b = if a.tmod b < 0 then a.tdiv b - 1 else a.tdiv b := by
  have h1 := Int.mul_tdiv_add_tmod a b
  have h2 : (a.tmod b) < b := Int.tmod_lt_of_pos a (by omega)
  have h3 : -b < a.tmod b := by
    have h := Int.tmod_lt_of_pos (-a) (show 0 < b by omega)
    rw [Int.neg_tmod] at h
    omega
  split
  · rw [Int.ediv_eq_iff_of_pos (by omega)]
    rw [Int.sub_mul]
    have := Int.mul_comm b (a.tdiv b)
    constructor <;> omega
  · rw [Int.ediv_eq_iff_of_pos (by omega)]
    have := Int.mul_comm b (a.tdiv b)
    constructor <;> omega
theorem tdiv_bd (a b A : Int) (h1 : -A ≤ a) (h2 : a ≤ A) : -A ≤ a.tdiv b ∧ a.tdiv b ≤ A := by
  have h3 : (a.tdiv b).natAbs = a.natAbs / b.natAbs := Int.natAbs_tdiv a b
  have h4 := Nat.div_le_self a.natAbs b.natAbs
  omega
theorem ediv_bd (a b A : Int) (hb : 1 ≤ b) (h1 : -A ≤ a) (h2 : a ≤ A) : -A - 1 ≤ a / b ∧ a / b ≤ A := by
  have h3 := fdiv_of a b hb
  have h4 := tdiv_bd a b A h1 h2
  split at h3 <;> omega
theorem sum_bd (zs : List Int) (M : Int) (hM : 0 ≤ M) (h : ∀ z ∈ zs, -M ≤ z ∧ z ≤ M) (k : Nat) : -((k : Int) * M) ≤ (zs.take k).sum ∧ (zs.take k).sum ≤ (k : Int) * M := by
  induction zs generalizing k with
  | nil =>
    have : 0 ≤ (k : Int) * M := Int.mul_nonneg (by omega) hM
    simp
    omega
  | cons z zs ih =>
    cases k with
    | zero => simp
    | succ k =>
      have h1 := h z (by simp)
      have h2 := ih (fun y hy => h y (by simp [hy])) k
      have h3 : ((k + 1 : Nat) : Int) * M = (k : Int) * M + M := by rw [Int.natCast_add, Int.add_mul]; simp
      rw [List.take_succ_cons, List.sum_cons, h3]
      omega
end Go.Proofs.YtkekpolfdmmgeaaGreat

/- append to rows of the call's own, in the words of the readings. -/
namespace Go.Proofs.YtkekpolfdmmgeaaGreat
set_option linter.unusedVariables false
set_option linter.unusedSimpArgs false
open Go.RowKit

theorem own_nil (w : World) (base : Nat) : OwnI w base (.slice none 0 0) [] := World.ownsRow_nil _ _ _ _
theorem OwnI.base {w : World} {base base' : Nat} {v : Value} {zs : List Int} (h : OwnI w base v zs) (hb : base' ≤ base) : OwnI w base' v zs := own_base h hb
/-- what was there when a0 stood is kept by an append to a row that lies above -/
theorem Kept.grew {a w w' : World} {base : Nat} {e : TypeId} {size : Nat} {v : Value} {n : Nat} {xs : List Value} (hk : Kept a w) (h : w.ownsRow base e size v n xs) (hg : w.grownBy w' v.ownBlock) (hb : a.heap.size ≤ base) : Kept a w' :=
  (only_of_grown hg).above hk (fun b hb' => Nat.le_trans hb (own_fp h b hb').1)
/-- a row built of no element -/
theorem own_made {w : World} {base : Nat} (g : Nat) (e : TypeId) (size : Nat) (hb : base ≤ g) (h : Box w g e #[]) : w.ownsRow base e size (.slice (some ⟨g, 0, none⟩) 0 0) 0 [] :=
  ⟨by simp, .inr ⟨g, 0, _, rfl, hb, h, Nat.le_refl _, Nat.zero_le _, by simp, by simp⟩⟩
/-- append(out, x), numbers -/
theorem wpList_append_int (w : World) {ops : Array Oper} {rest : List Oper} {o : Oper} {a : Act} {Q : Exit → Act → World → Prop} (hgd : o.guard = none) (s x : Operand)
    (ho : o.op = .call { callee := .builtin .append, args := #[s, x], argTypes := #[24, 24] })
    (base : Nat) (v : Value) (zs : List Int) (hs : a.eval s = v) (hown : OwnI w base v zs)
    (g : Nat) (z : Int) (hx : a.eval x = .slice (some ⟨g, 0, none⟩) 1 1) (hc : w.cell? ⟨g, 0, none⟩ = some (.int .i64 z))
    (hl : zs.length ≤ 16777216) (hbase : base ≤ w.heap.size)
    (h : ∀ v' w', OwnI w' base v' (zs ++ [z]) → w.grownBy w' v.ownBlock → wpList Tryz.prog ops Q rest (a.put o.dst v') w') : wpList Tryz.prog ops Q (o :: rest) a w := by
  obtain ⟨i0, hi, hz0, hz1, hz2⟩ := info_parts info_int
  refine wpList_append_own_at w hgd s x 24 ho base 3 i0 _ 1 8 Tryz.underlying24 hi hz0 hz1 hz2 rfl (by omega) v zs.length _ hs hown ⟨g, 0, none⟩ 1 1 [.int .i64 z] hx rfl ?_ ?_ (by unfold maxLen; omega) (by omega) hbase (fun v' w' q1 q2 _ _ => h v' w' ?_ q2)
  · intro j u hu
    rcases j with _ | j
    · simp at hu
      subst hu
      exact hc
    · simp at hu
  · intro u hu
    simp at hu
    subst hu
    rfl
  · unfold OwnI
    simpa using q1
end Go.Proofs.YtkekpolfdmmgeaaGreat
