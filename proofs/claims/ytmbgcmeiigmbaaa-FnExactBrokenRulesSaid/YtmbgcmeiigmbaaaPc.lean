/- Programmes: the rules. -/
import Derived.Test.YtmbgcmeiigmbaaaWb
import Derived.Test.YtmbgcmeiigmbaaaPa
import Derived.Deep.DeepCutAuto
namespace Go.Proofs.Ytmbgcmeiigmbaaa
open Go.RowKit

theorem times_any_bd {its : List ItemD} (hb : itemsB its = true) (s : ByteArray) : times its s ≤ 42 ∧ timesC its s ≤ 42 := by
  have h := times_bd hb s its.length
  rw [List.take_length] at h
  exact h
def pnB (x : CodeD) (its : List ItemD) (it : ItemD) (s : ByteArray) (r : Int) : Bool := if r = 2 then knS x s else if r = 4 then jumpS x it s else repS x its s
theorem jumpS_one {x : CodeD} {it : ItemD} (s : ByteArray) (h : ¬ 1 < it.names.length) : jumpS x it s = true := by unfold jumpS combB; rw [decide_eq_false h]; rfl
theorem jumpS_two {x : CodeD} {it : ItemD} (s : ByteArray) (h : 1 < it.names.length) : jumpS x it s = (famN x s == 0) := by unfold jumpS combB; rw [decide_eq_true h]; rfl
set_option maxHeartbeats 2000000 in
theorem combinesJumps_any (v0 v1 : Value) (x : CodeD) (its : List ItemD) (w : World) (h0 : CodeAt w v0 x) (h1 : ItemsAt w v1 its) (hb : itemsB its = true) :
    Calls Try.prog 115 #[v0, v1] w fun e w' => e = .returned (.bool (jumpB x its)) ∧ Kept w w' := by
  have H0 := Lib.hid h0
  obtain ⟨n0, m0, rfl, p0, q0⟩ := h0
  have HE0 := Lib.hid p0; have HI0 := Lib.hid q0
  obtain ⟨A0, c0, rfl, hnc0, hcm0, _⟩ := p0.1.out; obtain ⟨D0, d0, rfl, hnd0, hdm0, _⟩ := q0.out; clear p0 q0; unfold maxLen at hcm0 hdm0
  have H1 := Lib.hid h1
  obtain ⟨A1, c1, cs1, rfl, hnc1, hcm1, hA1⟩ := h1.out; have HA1 := Lib.hid hA1; clear hA1 h1; unfold maxLen at hcm1
  have HBB := Lib.hid hb
  have hl14 := (itemsB_true hb).1
  go_enter Try.func115, Try.ntmps115
  have K0 := Kept.refl w
  go_wp2_with fail
  obtain ⟨wb1, hwb1⟩ : ∃ w' : World, w' = w.alloc (.cells #[.slice A0 x.elems.length c0, .slice D0 x.limits.length d0, .int .i64 x.repeats, .int .i64 x.bonus, .int .i64 x.keeps, .int .i64 x.fall] 51) := ⟨_, rfl⟩
  rw [← hwb1]
  have KB0 : Kept w wb1 := hwb1 ▸ (Kept.refl w).alloc _
  have B0 : Box wb1 (w.heap.size) 51 #[.slice A0 x.elems.length c0, .slice D0 x.limits.length d0, .int .i64 x.repeats, .int .i64 x.bonus, .int .i64 x.keeps, .int .i64 x.fall] := hwb1 ▸ Box.new w (w.heap.size) 51 #[.slice A0 x.elems.length c0, .slice D0 x.limits.length d0, .int .i64 x.repeats, .int .i64 x.bonus, .int .i64 x.keeps, .int .i64 x.fall] rfl
  have swb1 : wb1.heap.size = w.heap.size + 1 := by rw [hwb1]; simp
  clear hwb1
  have Kwb1 := K0.trans KB0
  go_loopw [12] (fun i wr => ∃ k : Nat, k ≤ its.length ∧ i = .int .i64 k ∧ (its.take k).all (jumpI x) = true ∧ Kept wb1 wr) (fun i _ => its.length - (intOf i).toNat)
  case atStart => exact ⟨0, Nat.zero_le _, rfl, rfl, Kept.refl _⟩
  case round =>
    obtain ⟨wo, rfl⟩ : ∃ wo : World, wo = wr := ⟨_, rfl⟩
    obtain ⟨k, hk, rfl, ha, hkept⟩ := hrel
    have HB := Lib.hid ha
    clear ha
    replace B0 := B0.kept hkept
    have szo := hkept.size
    have Ko := Kwb1.trans hkept
    by_cases hlt : k < its.length
    · obtain ⟨b, o, Aa, ca, Ab, cb, it, rfl, hbb, h2, h3, hit, q0, q1, q2⟩ := items_at (HA1.out.kept Ko) hlt
      have HS := Lib.hid hit.parts.1
      have HIT := Lib.hid hit
      have HZ := Lib.hid h2
      have hsm := items_some HBB.out h2
      obtain ⟨hi1, hi3, him⟩ := hsm
      clear h2 h3 hit him
      have hle : it.names.length ≤ ca ∧ ca ≤ maxLen := by obtain ⟨_, _, e, h1, h2, _⟩ := HS.out.1.out; injection e with _ _ e; subst e; exact ⟨h1, h2⟩
      obtain ⟨hle1, hle2⟩ := hle
      unfold maxLen at hle2
      obtain ⟨x0, y0⟩ := B0.six
      go_upto_region 4 with (fail)
      clear x0 y0
      obtain ⟨wb2, hwb2⟩ : ∃ w' : World, w' = wo.alloc (.cells #[.slice Aa it.names.length ca, .slice Ab it.marks.length cb, .bool it.late] 64) := ⟨_, rfl⟩
      rw [← hwb2]
      have KBt : Kept wo wb2 := hwb2 ▸ (Kept.refl wo).alloc _
      have Bt : Box wb2 (wo.heap.size) 64 #[.slice Aa it.names.length ca, .slice Ab it.marks.length cb, .bool it.late] := hwb2 ▸ Box.new wo (wo.heap.size) 64 #[.slice Aa it.names.length ca, .slice Ab it.marks.length cb, .bool it.late] rfl
      have swb2 : wb2.heap.size = wo.heap.size + 1 := by rw [hwb2]; simp
      clear hwb2
      replace B0 := B0.kept KBt
      have Kwb2 := Ko.trans KBt
      obtain ⟨x0, y0⟩ := B0.six
      obtain ⟨xt, yt⟩ := Bt.three
      go_wp2_with fail
      clear x0 y0 xt yt
      go_loopw [19] (fun i wi => ∃ j : Nat, j ≤ it.names.length ∧ i = .int .i64 j ∧ (it.names.take j).all (jumpS x it) = true ∧ Kept wb2 wi) (fun i _ => it.names.length - (intOf i).toNat)
      case atStart => exact ⟨0, Nat.zero_le _, rfl, rfl, Kept.refl _⟩
      case round =>
        obtain ⟨j, hj, rfl, ha, hki⟩ := hrel
        have HJ := Lib.hid ha
        clear ha
        replace B0 := B0.kept hki
        replace Bt := Bt.kept hki
        have szr := hki.size
        have Kr := Kwb2.trans hki
        by_cases hltj : j < it.names.length
        · obtain ⟨b1, o1, z, rfl, hb1, hz, hc⟩ := strs_at (HS.out.kept ((KBt).trans hki)).1.addr hltj
          have hzs := HS.out.2 z (List.mem_of_getElem? hz)
          have HY := Lib.hid hz
          clear hz
          obtain ⟨x0, y0⟩ := B0.six
          obtain ⟨xt, yt⟩ := Bt.three
          go_wp2_with fail
          clear x0 y0 xt yt
          refine (findElement_any _ x z _ (H0.out.kept Kr)).mono ?_
          rintro e w1 ⟨rfl, k1⟩
          replace B0 := B0.kept k1
          replace Bt := Bt.kept k1
          have sz1 := k1.size
          have K1 := Kr.trans k1
          by_cases hcm2 : 1 < it.names.length
          · have hd : decide (1 < it.names.length) = true := decide_eq_true hcm2
            have HJS := Lib.hid (jumpS_two (x := x) z hcm2)
            obtain ⟨x0, y0⟩ := B0.six
            obtain ⟨xt, yt⟩ := Bt.three
            go_wp2_with fail
            clear x0 y0 xt yt
            refine (isCombined_any _ it _ (HIT.out.kept ((KBt.trans hki).trans k1))).mono ?_
            rintro e w2 ⟨rfl, k2⟩
            replace B0 := B0.kept k2
            replace Bt := Bt.kept k2
            have sz2 := k2.size
            have K2 := K1.trans k2
            rw [hd]
            rcases findV_cases x.elems z with hf | ⟨kk, y, hf, hy, hit⟩
            · have HF : Hid (jumpS x it z = false) := Lib.hid (by rw [HJS.out, famN_none hf]; rfl)
              rw [hf]
              clear hf
              obtain ⟨x0, y0⟩ := B0.six
              obtain ⟨xt, yt⟩ := Bt.three
              go_wp2_with fail
              clear x0 y0 xt yt
              go_ret
              exact ⟨ret_bool (all_not HZ.out (all_not (p := jumpS x it) HY.out (HF.out))).symm, K2⟩
            · have HFM := Lib.hid (famN_hit hf hy)
              rw [hf]
              have hlt3 : kk < x.elems.length := (List.getElem?_eq_some_iff.1 hy).1
              obtain ⟨b', o', y', rfl, hb', h2, q0, q1, q2, q3⟩ := elems_at (HE0.out.kept K2).1.addr hlt3
              rw [hy] at h2; injection h2 with h2; subst h2
              have hlt4 : (kk : Int) < (x.elems.length : Int) := by omega
              clear hf hy hit
              by_cases hy0 : y.family = 0
              · have HF : Hid (jumpS x it z = true) := Lib.hid (by rw [HJS.out, HFM.out, hy0]; rfl)
                have e1 : (y.family != 0) = false := by simp [hy0]
                clear hy0
                obtain ⟨x0, y0⟩ := B0.six
                obtain ⟨xt, yt⟩ := Bt.three
                go_wp2_with fail
                clear x0 y0 xt yt
                go_roundw
                case rel => exact ⟨j + 1, by omega, by go_num, all_snoc HY.out HJ.out (HF.out), hki.trans (k1.trans k2)⟩
                case measure => simp [intOf]; omega
              · have HF : Hid (jumpS x it z = false) := Lib.hid (by rw [HJS.out, HFM.out]; exact beq_eq_false_iff_ne.2 hy0)
                have e1 : (y.family != 0) = true := by simp [hy0]
                clear hy0
                obtain ⟨x0, y0⟩ := B0.six
                obtain ⟨xt, yt⟩ := Bt.three
                go_wp2_with fail
                clear x0 y0 xt yt
                go_ret
                exact ⟨ret_bool (all_not HZ.out (all_not (p := jumpS x it) HY.out (HF.out))).symm, K2⟩
          · have hd : decide (1 < it.names.length) = false := decide_eq_false hcm2
            have HF := Lib.hid (jumpS_one (x := x) z hcm2)
            obtain ⟨x0, y0⟩ := B0.six
            obtain ⟨xt, yt⟩ := Bt.three
            go_wp2_with fail
            clear x0 y0 xt yt
            refine (isCombined_any _ it _ (HIT.out.kept ((KBt.trans hki).trans k1))).mono ?_
            rintro e w3 ⟨rfl, k3⟩
            replace B0 := B0.kept k3
            replace Bt := Bt.kept k3
            have sz3 := k3.size
            have K3 := K1.trans k3
            rw [hd]
            obtain ⟨x0, y0⟩ := B0.six
            obtain ⟨xt, yt⟩ := Bt.three
            go_wp2_with fail
            clear x0 y0 xt yt
            go_roundw
            case rel => exact ⟨j + 1, by omega, by go_num, all_snoc HY.out HJ.out (HF.out), hki.trans (k1.trans k3)⟩
            case measure => simp [intOf]; omega
        · have HI := Lib.hid (all_full (p := jumpS x it) (by omega) HJ.out)
          obtain ⟨x0, y0⟩ := B0.six
          obtain ⟨xt, yt⟩ := Bt.three
          go_wp2_with fail
          clear x0 y0 xt yt
          go_roundw
          case rel => exact ⟨k + 1, by omega, by go_num, all_snoc (p := jumpI x) HZ.out HB.out HI.out, hkept.trans (KBt.trans hki)⟩
          case measure => simp [intOf]; omega
    · have HI := Lib.hid (all_full (p := jumpI x) (by omega) HB.out)
      obtain ⟨x0, y0⟩ := B0.six
      go_wp2_with fail
      clear x0 y0
      go_ret
      exact ⟨ret_bool HI.out.symm, Ko⟩
set_option maxHeartbeats 2000000 in
theorem repeatsWell_any (v0 v1 : Value) (x : CodeD) (its : List ItemD) (w : World) (h0 : CodeAt w v0 x) (h1 : ItemsAt w v1 its) (hb : itemsB its = true) :
    Calls Try.prog 118 #[v0, v1] w fun e w' => e = .returned (.bool (repB x its)) ∧ Kept w w' := by
  have H0 := Lib.hid h0
  obtain ⟨n0, m0, rfl, p0, q0⟩ := h0
  have HE0 := Lib.hid p0; have HI0 := Lib.hid q0
  obtain ⟨A0, c0, rfl, hnc0, hcm0, _⟩ := p0.1.out; obtain ⟨D0, d0, rfl, hnd0, hdm0, _⟩ := q0.out; clear p0 q0; unfold maxLen at hcm0 hdm0
  have H1 := Lib.hid h1
  obtain ⟨A1, c1, cs1, rfl, hnc1, hcm1, hA1⟩ := h1.out; have HA1 := Lib.hid hA1; clear hA1 h1; unfold maxLen at hcm1
  have HBB := Lib.hid hb
  have hl14 := (itemsB_true hb).1
  go_enter Try.func118, Try.ntmps118
  have K0 := Kept.refl w
  go_wp2_with fail
  obtain ⟨wb1, hwb1⟩ : ∃ w' : World, w' = w.alloc (.cells #[.slice A0 x.elems.length c0, .slice D0 x.limits.length d0, .int .i64 x.repeats, .int .i64 x.bonus, .int .i64 x.keeps, .int .i64 x.fall] 51) := ⟨_, rfl⟩
  rw [← hwb1]
  have KB0 : Kept w wb1 := hwb1 ▸ (Kept.refl w).alloc _
  have B0 : Box wb1 (w.heap.size) 51 #[.slice A0 x.elems.length c0, .slice D0 x.limits.length d0, .int .i64 x.repeats, .int .i64 x.bonus, .int .i64 x.keeps, .int .i64 x.fall] := hwb1 ▸ Box.new w (w.heap.size) 51 #[.slice A0 x.elems.length c0, .slice D0 x.limits.length d0, .int .i64 x.repeats, .int .i64 x.bonus, .int .i64 x.keeps, .int .i64 x.fall] rfl
  have swb1 : wb1.heap.size = w.heap.size + 1 := by rw [hwb1]; simp
  clear hwb1
  have Kwb1 := K0.trans KB0
  go_loopw [13] (fun i wr => ∃ k : Nat, k ≤ its.length ∧ i = .int .i64 k ∧ (its.take k).all (repI x its) = true ∧ Kept wb1 wr) (fun i _ => its.length - (intOf i).toNat)
  case atStart => exact ⟨0, Nat.zero_le _, rfl, rfl, Kept.refl _⟩
  case round =>
    obtain ⟨wo, rfl⟩ : ∃ wo : World, wo = wr := ⟨_, rfl⟩
    obtain ⟨k, hk, rfl, ha, hkept⟩ := hrel
    have HB := Lib.hid ha
    clear ha
    replace B0 := B0.kept hkept
    have szo := hkept.size
    have Ko := Kwb1.trans hkept
    by_cases hlt : k < its.length
    · obtain ⟨b, o, Aa, ca, Ab, cb, it, rfl, hbb, h2, h3, hit, q0, q1, q2⟩ := items_at (HA1.out.kept Ko) hlt
      have HS := Lib.hid hit.parts.1
      have HIT := Lib.hid hit
      have HZ := Lib.hid h2
      have hsm := items_some HBB.out h2
      obtain ⟨hi1, hi3, him⟩ := hsm
      clear h2 h3 hit him
      have hle : it.names.length ≤ ca ∧ ca ≤ maxLen := by obtain ⟨_, _, e, h1, h2, _⟩ := HS.out.1.out; injection e with _ _ e; subst e; exact ⟨h1, h2⟩
      obtain ⟨hle1, hle2⟩ := hle
      unfold maxLen at hle2
      obtain ⟨x0, y0⟩ := B0.six
      go_wp2_with fail
      clear x0 y0
      go_loopw [20] (fun i wi => ∃ j : Nat, j ≤ it.names.length ∧ i = .int .i64 j ∧ (it.names.take j).all (repS x its) = true ∧ Kept wo wi) (fun i _ => it.names.length - (intOf i).toNat)
      case atStart => exact ⟨0, Nat.zero_le _, rfl, rfl, (Kept.refl _).alloc _⟩
      case round =>
        obtain ⟨j, hj, rfl, ha, hki⟩ := hrel
        have HJ := Lib.hid ha
        clear ha
        replace B0 := B0.kept hki
        have szr := hki.size
        have Kr := Ko.trans hki
        by_cases hltj : j < it.names.length
        · obtain ⟨b1, o1, z, rfl, hb1, hz, hc⟩ := strs_at (HS.out.kept hki).1.addr hltj
          have hzs := HS.out.2 z (List.mem_of_getElem? hz)
          have HY := Lib.hid hz
          clear hz
          have htp := times_pos HZ.out HY.out
          obtain ⟨tb1, tb2⟩ := times_any_bd HBB.out z
          obtain ⟨x0, y0⟩ := B0.six
          go_wp2_with fail
          clear x0 y0
          refine (timesOf_any _ its z _ (H1.out.kept Kr) HBB.out).mono ?_
          rintro e w1 ⟨rfl, k1⟩
          replace B0 := B0.kept k1
          have sz1 := k1.size
          have K1 := Kr.trans k1
          have HRS := Lib.hid (repS_impl (x := x) htp)
          generalize times its z = tz at *
          generalize timesC its z = tc at *
          by_cases h1 : x.repeats < (tz : Int)
          · have e1 : decide ((tz : Int) > x.repeats) = true := by simp; omega
            have HF : Hid (repS x its z = false) := Lib.hid (by rw [HRS.out, Bool.eq_iff_iff]; simp; omega)
            obtain ⟨x0, y0⟩ := B0.six
            go_wp2_with fail
            clear x0 y0
            go_ret
            exact ⟨ret_bool (all_not HZ.out (all_not (p := repS x its) HY.out (HF.out))).symm, K1⟩
          · have e1 : decide ((tz : Int) > x.repeats) = false := by simp; omega
            by_cases h2 : 1 < tz
            · have e2 : decide ((tz : Int) > 1) = true := by simp; omega
              by_cases h3 : tc = 0
              · have e3 : ((tc : Int) == 0) = true := by simp [h3]
                have HF : Hid (repS x its z = false) := Lib.hid (by rw [HRS.out, Bool.eq_iff_iff]; simp; omega)
                obtain ⟨x0, y0⟩ := B0.six
                go_wp2_with fail
                clear x0 y0
                go_ret
                exact ⟨ret_bool (all_not HZ.out (all_not (p := repS x its) HY.out (HF.out))).symm, K1⟩
              · have e3 : ((tc : Int) == 0) = false := beq_eq_false_iff_ne.2 (by omega)
                have HF : Hid (repS x its z = true) := Lib.hid (by rw [HRS.out, Bool.eq_iff_iff]; simp; omega)
                obtain ⟨x0, y0⟩ := B0.six
                go_wp2_with fail
                clear x0 y0
                go_roundw
                case rel => exact ⟨j + 1, by omega, by go_num, all_snoc HY.out HJ.out (HF.out), hki.trans k1⟩
                case measure => simp [intOf]; omega
            · have e2 : decide ((tz : Int) > 1) = false := by simp; omega
              have HF : Hid (repS x its z = true) := Lib.hid (by rw [HRS.out, Bool.eq_iff_iff]; simp; omega)
              obtain ⟨x0, y0⟩ := B0.six
              go_wp2_with fail
              clear x0 y0
              go_roundw
              case rel => exact ⟨j + 1, by omega, by go_num, all_snoc HY.out HJ.out (HF.out), hki.trans k1⟩
              case measure => simp [intOf]; omega
        · have HI := Lib.hid (all_full (p := repS x its) (by omega) HJ.out)
          obtain ⟨x0, y0⟩ := B0.six
          go_wp2_with fail
          clear x0 y0
          go_roundw
          case rel => exact ⟨k + 1, by omega, by go_num, all_snoc (p := repI x its) HZ.out HB.out HI.out, hkept.trans hki⟩
          case measure => simp [intOf]; omega
    · have HI := Lib.hid (all_full (p := repI x its) (by omega) HB.out)
      obtain ⟨x0, y0⟩ := B0.six
      go_wp2_with fail
      clear x0 y0
      go_ret
      exact ⟨ret_bool HI.out.symm, Ko⟩
set_option maxHeartbeats 2000000 in
theorem pgName_any (v0 v1 v2 : Value) (x : CodeD) (its : List ItemD) (it : ItemD) (z : ByteArray) (r : Int) (w : World) (h0 : CodeAt w v0 x) (h1 : ItemsAt w v1 its) (h2 : ItemAt w v2 it) (hb : itemsB its = true) (h1n : 1 ≤ it.names.length) :
    Calls Try.prog 148 #[v0, v1, v2, .string z, .int .i64 r] w fun e w' => e = .returned (.bool (pnB x its it z r)) ∧ Kept w w' := by
  have H0 := Lib.hid h0
  obtain ⟨n0, m0, rfl, p0, q0⟩ := h0
  have HE0 := Lib.hid p0; have HI0 := Lib.hid q0
  obtain ⟨A0, c0, rfl, hnc0, hcm0, _⟩ := p0.1.out; obtain ⟨D0, d0, rfl, hnd0, hdm0, _⟩ := q0.out; clear p0 q0; unfold maxLen at hcm0 hdm0
  have H1 := Lib.hid h1
  obtain ⟨A1, c1, cs1, rfl, hnc1, hcm1, hA1⟩ := h1.out; have HA1 := Lib.hid hA1; clear hA1 h1; unfold maxLen at hcm1
  have H2 := Lib.hid h2
  obtain ⟨n2, m2, rfl, p2, q2⟩ := h2
  have HN2 := Lib.hid p2; have HM2 := Lib.hid q2
  obtain ⟨A2, c2, rfl, hnc2, hcm2, _⟩ := p2.1.out; obtain ⟨D2, d2, rfl, hnd2, hdm2, _⟩ := q2.out; clear p2 q2; unfold maxLen at hcm2 hdm2
  have HBB := Lib.hid hb
  obtain ⟨tb1, tb2⟩ := times_any_bd hb z
  have hl14 := (itemsB_true hb).1
  go_enter Try.func148, Try.ntmps148
  have K0 := Kept.refl w
  go_wp2_with fail
  obtain ⟨wb1, hwb1⟩ : ∃ w' : World, w' = w.alloc (.cells #[.slice A0 x.elems.length c0, .slice D0 x.limits.length d0, .int .i64 x.repeats, .int .i64 x.bonus, .int .i64 x.keeps, .int .i64 x.fall] 51) := ⟨_, rfl⟩
  rw [← hwb1]
  have KB0 : Kept w wb1 := hwb1 ▸ (Kept.refl w).alloc _
  have B0 : Box wb1 (w.heap.size) 51 #[.slice A0 x.elems.length c0, .slice D0 x.limits.length d0, .int .i64 x.repeats, .int .i64 x.bonus, .int .i64 x.keeps, .int .i64 x.fall] := hwb1 ▸ Box.new w (w.heap.size) 51 #[.slice A0 x.elems.length c0, .slice D0 x.limits.length d0, .int .i64 x.repeats, .int .i64 x.bonus, .int .i64 x.keeps, .int .i64 x.fall] rfl
  have swb1 : wb1.heap.size = w.heap.size + 1 := by rw [hwb1]; simp
  clear hwb1
  have Kwb1 := K0.trans KB0
  obtain ⟨wb2, hwb2⟩ : ∃ w' : World, w' = wb1.alloc (.cells #[.slice A2 it.names.length c2, .slice D2 it.marks.length d2, .bool it.late] 64) := ⟨_, rfl⟩
  rw [← hwb2]
  have KB2 : Kept wb1 wb2 := hwb2 ▸ (Kept.refl wb1).alloc _
  have B2 : Box wb2 (w.heap.size + 1) 64 #[.slice A2 it.names.length c2, .slice D2 it.marks.length d2, .bool it.late] := hwb2 ▸ Box.new wb1 (w.heap.size + 1) 64 #[.slice A2 it.names.length c2, .slice D2 it.marks.length d2, .bool it.late] (by omega)
  have swb2 : wb2.heap.size = wb1.heap.size + 1 := by rw [hwb2]; simp
  clear hwb2
  replace B0 := B0.kept KB2
  have Kwb2 := Kwb1.trans KB2
  refine (cdFind_any _ x z _ (H0.out.kept Kwb2)).mono ?_
  rintro e w1 ⟨rfl, k1⟩
  replace B0 := B0.kept k1
  replace B2 := B2.kept k1
  have sz1 := k1.size
  have K1 := Kwb2.trans k1
  by_cases r2 : r = 2
  · subst r2
    have HV : Hid (pnB x its it z 2 = knS x z) := Lib.hid (if_pos rfl)
    by_cases hf : findV x.elems z < 0
    · have HF := Lib.hid (knS_none hf)
      have e1 : decide (findV x.elems z ≥ 0) = false := by simp; omega
      obtain ⟨x0, y0⟩ := B0.six
      obtain ⟨x2, y2⟩ := B2.three
      go_wp2_with fail
      clear x0 y0 x2 y2
      go_ret
      exact ⟨ret_bool (by rw [HV.out, HF.out]), K1⟩
    · have HF := Lib.hid (knS_hit hf)
      have e1 : decide (findV x.elems z ≥ 0) = true := by simp; omega
      obtain ⟨x0, y0⟩ := B0.six
      obtain ⟨x2, y2⟩ := B2.three
      go_wp2_with fail
      clear x0 y0 x2 y2
      go_ret
      exact ⟨ret_bool (by rw [HV.out, HF.out]), K1⟩
  have e2 : (r == 2) = false := beq_eq_false_iff_ne.2 r2
  by_cases r4 : r = 4
  · subst r4
    have HV : Hid (pnB x its it z 4 = jumpS x it z) := Lib.hid rfl
    by_cases hcm : 1 < it.names.length
    · have HJS := Lib.hid (jumpS_two (x := x) z hcm)
      have ec : ((it.names.length : Int) == 1) = false := beq_eq_false_iff_ne.2 (by omega)
      rcases findV_cases x.elems z with hf | ⟨kk, y, hf, hy, hit⟩
      · have HF : Hid (jumpS x it z = false) := Lib.hid (by rw [HJS.out, famN_none hf]; rfl)
        rw [hf]
        clear hf
        obtain ⟨x0, y0⟩ := B0.six
        obtain ⟨x2, y2⟩ := B2.three
        go_wp2_with fail
        clear x0 y0 x2 y2
        go_ret
        exact ⟨ret_bool (by rw [HV.out, HF.out]), K1⟩
      · have HFM := Lib.hid (famN_hit hf hy)
        rw [hf]
        have hlt3 : kk < x.elems.length := (List.getElem?_eq_some_iff.1 hy).1
        obtain ⟨b', o', y', rfl, hb', h2, q0, q1, q2, q3⟩ := elems_at (HE0.out.kept K1).1.addr hlt3
        rw [hy] at h2; injection h2 with h2; subst h2
        have hlt4 : (kk : Int) < (x.elems.length : Int) := by omega
        clear hf hy hit
        by_cases hy0 : y.family = 0
        · have HF : Hid (jumpS x it z = true) := Lib.hid (by rw [HJS.out, HFM.out, hy0]; rfl)
          have e1 : (y.family == 0) = true := by simp [hy0]
          clear hy0
          obtain ⟨x0, y0⟩ := B0.six
          obtain ⟨x2, y2⟩ := B2.three
          go_wp2_with fail
          clear x0 y0 x2 y2
          go_ret
          exact ⟨ret_bool (by rw [HV.out, HF.out]), K1⟩
        · have HF : Hid (jumpS x it z = false) := Lib.hid (by rw [HJS.out, HFM.out]; exact beq_eq_false_iff_ne.2 hy0)
          have e1 : (y.family == 0) = false := by simp [hy0]
          clear hy0
          obtain ⟨x0, y0⟩ := B0.six
          obtain ⟨x2, y2⟩ := B2.three
          go_wp2_with fail
          clear x0 y0 x2 y2
          go_ret
          exact ⟨ret_bool (by rw [HV.out, HF.out]), K1⟩
    · have HF := Lib.hid (jumpS_one (x := x) z hcm)
      have ec : ((it.names.length : Int) == 1) = true := by simp; omega
      obtain ⟨x0, y0⟩ := B0.six
      obtain ⟨x2, y2⟩ := B2.three
      go_wp2_with fail
      clear x0 y0 x2 y2
      go_ret
      exact ⟨ret_bool (by rw [HV.out, HF.out]), K1⟩
  have e4 : (r == 4) = false := beq_eq_false_iff_ne.2 r4
  have HV : Hid (pnB x its it z r = repS x its z) := Lib.hid (by unfold pnB; rw [if_neg r2, if_neg r4])
  clear r2 r4
  obtain ⟨x0, y0⟩ := B0.six
  obtain ⟨x2, y2⟩ := B2.three
  go_wp2_with fail
  clear x0 y0 x2 y2
  refine (pgTimes_any _ its z _ (H1.out.kept K1) HBB.out).mono ?_
  rintro e w2 ⟨rfl, k2⟩
  replace B0 := B0.kept k2
  replace B2 := B2.kept k2
  have sz2 := k2.size
  have K2 := K1.trans k2
  have HRS : Hid (repS x its z = (decide ((times its z : Int) ≤ x.repeats) && (times its z == 1 || decide (0 < timesC its z)))) := Lib.hid rfl
  generalize times its z = tz at *
  generalize timesC its z = tc at *
  by_cases h1 : (tz : Int) ≤ x.repeats
  · have e1 : decide ((tz : Int) ≤ x.repeats) = true := decide_eq_true h1
    by_cases h2 : tz = 1
    · have e3 : ((tz : Int) == 1) = true := by simp [h2]
      have HF : Hid (repS x its z = true) := Lib.hid (by rw [HRS.out, Bool.eq_iff_iff]; simp; omega)
      obtain ⟨x0, y0⟩ := B0.six
      obtain ⟨x2, y2⟩ := B2.three
      go_wp2_with fail
      clear x0 y0 x2 y2
      go_ret
      exact ⟨ret_bool (by rw [HV.out, HF.out]), K2⟩
    · have e3 : ((tz : Int) == 1) = false := beq_eq_false_iff_ne.2 (by omega)
      by_cases h3 : 0 < tc
      · have e5 : decide ((tc : Int) > 0) = true := by simp; omega
        have HF : Hid (repS x its z = true) := Lib.hid (by rw [HRS.out, Bool.eq_iff_iff]; simp; omega)
        obtain ⟨x0, y0⟩ := B0.six
        obtain ⟨x2, y2⟩ := B2.three
        go_wp2_with fail
        clear x0 y0 x2 y2
        go_ret
        exact ⟨ret_bool (by rw [HV.out, HF.out]), K2⟩
      · have e5 : decide ((tc : Int) > 0) = false := by simp; omega
        have HF : Hid (repS x its z = false) := Lib.hid (by rw [HRS.out, Bool.eq_iff_iff]; simp; omega)
        obtain ⟨x0, y0⟩ := B0.six
        obtain ⟨x2, y2⟩ := B2.three
        go_wp2_with fail
        clear x0 y0 x2 y2
        go_ret
        exact ⟨ret_bool (by rw [HV.out, HF.out]), K2⟩
  · have e1 : decide ((tz : Int) ≤ x.repeats) = false := decide_eq_false h1
    have HF : Hid (repS x its z = false) := Lib.hid (by rw [HRS.out, Bool.eq_iff_iff]; simp; omega)
    obtain ⟨x0, y0⟩ := B0.six
    obtain ⟨x2, y2⟩ := B2.three
    go_wp2_with fail
    clear x0 y0 x2 y2
    go_ret
    exact ⟨ret_bool (by rw [HV.out, HF.out]), K2⟩
set_option maxHeartbeats 2000000 in
theorem pgNames_any (v0 v1 : Value) (x : CodeD) (its : List ItemD) (r : Int) (w : World) (h0 : CodeAt w v0 x) (h1 : ItemsAt w v1 its) (hb : itemsB its = true) :
    Calls Try.prog 107 #[v0, v1, .int .i64 r] w fun e w' => e = .returned (.bool (its.all fun it => it.names.all fun s => pnB x its it s r)) ∧ Kept w w' := by
  have H0 := Lib.hid h0
  obtain ⟨n0, m0, rfl, p0, q0⟩ := h0
  have HE0 := Lib.hid p0; have HI0 := Lib.hid q0
  obtain ⟨A0, c0, rfl, hnc0, hcm0, _⟩ := p0.1.out; obtain ⟨D0, d0, rfl, hnd0, hdm0, _⟩ := q0.out; clear p0 q0; unfold maxLen at hcm0 hdm0
  have H1 := Lib.hid h1
  obtain ⟨A1, c1, cs1, rfl, hnc1, hcm1, hA1⟩ := h1.out; have HA1 := Lib.hid hA1; clear hA1 h1; unfold maxLen at hcm1
  have HBB := Lib.hid hb
  have hl14 := (itemsB_true hb).1
  go_enter Try.func107, Try.ntmps107
  have K0 := Kept.refl w
  go_wp2_with fail
  obtain ⟨wb1, hwb1⟩ : ∃ w' : World, w' = w.alloc (.cells #[.slice A0 x.elems.length c0, .slice D0 x.limits.length d0, .int .i64 x.repeats, .int .i64 x.bonus, .int .i64 x.keeps, .int .i64 x.fall] 51) := ⟨_, rfl⟩
  rw [← hwb1]
  have KB0 : Kept w wb1 := hwb1 ▸ (Kept.refl w).alloc _
  have B0 : Box wb1 (w.heap.size) 51 #[.slice A0 x.elems.length c0, .slice D0 x.limits.length d0, .int .i64 x.repeats, .int .i64 x.bonus, .int .i64 x.keeps, .int .i64 x.fall] := hwb1 ▸ Box.new w (w.heap.size) 51 #[.slice A0 x.elems.length c0, .slice D0 x.limits.length d0, .int .i64 x.repeats, .int .i64 x.bonus, .int .i64 x.keeps, .int .i64 x.fall] rfl
  have swb1 : wb1.heap.size = w.heap.size + 1 := by rw [hwb1]; simp
  clear hwb1
  have Kwb1 := K0.trans KB0
  go_loopw [13] (fun i wr => ∃ k : Nat, k ≤ its.length ∧ i = .int .i64 k ∧ (its.take k).all (fun (it : ItemD) => it.names.all fun s => pnB x its it s r) = true ∧ Kept wb1 wr) (fun i _ => its.length - (intOf i).toNat)
  case atStart => exact ⟨0, Nat.zero_le _, rfl, rfl, Kept.refl _⟩
  case round =>
    obtain ⟨wo, rfl⟩ : ∃ wo : World, wo = wr := ⟨_, rfl⟩
    obtain ⟨k, hk, rfl, ha, hkept⟩ := hrel
    have HB := Lib.hid ha
    clear ha
    replace B0 := B0.kept hkept
    have szo := hkept.size
    have Ko := Kwb1.trans hkept
    by_cases hlt : k < its.length
    · obtain ⟨b, o, Aa, ca, Ab, cb, it, rfl, hbb, h2, h3, hit, q0, q1, q2⟩ := items_at (HA1.out.kept Ko) hlt
      have HS := Lib.hid hit.parts.1
      have HIT := Lib.hid hit
      have HZ := Lib.hid h2
      have hsm := items_some HBB.out h2
      obtain ⟨hi1, hi3, him⟩ := hsm
      clear h2 h3 hit him
      have hle : it.names.length ≤ ca ∧ ca ≤ maxLen := by obtain ⟨_, _, e, h1, h2, _⟩ := HS.out.1.out; injection e with _ _ e; subst e; exact ⟨h1, h2⟩
      obtain ⟨hle1, hle2⟩ := hle
      unfold maxLen at hle2
      obtain ⟨x0, y0⟩ := B0.six
      go_upto_region 4 with (fail)
      clear x0 y0
      obtain ⟨wb2, hwb2⟩ : ∃ w' : World, w' = wo.alloc (.cells #[.slice Aa it.names.length ca, .slice Ab it.marks.length cb, .bool it.late] 64) := ⟨_, rfl⟩
      rw [← hwb2]
      have KBt : Kept wo wb2 := hwb2 ▸ (Kept.refl wo).alloc _
      have Bt : Box wb2 (wo.heap.size) 64 #[.slice Aa it.names.length ca, .slice Ab it.marks.length cb, .bool it.late] := hwb2 ▸ Box.new wo (wo.heap.size) 64 #[.slice Aa it.names.length ca, .slice Ab it.marks.length cb, .bool it.late] rfl
      have swb2 : wb2.heap.size = wo.heap.size + 1 := by rw [hwb2]; simp
      clear hwb2
      replace B0 := B0.kept KBt
      have Kwb2 := Ko.trans KBt
      obtain ⟨x0, y0⟩ := B0.six
      obtain ⟨xt, yt⟩ := Bt.three
      go_wp2_with fail
      clear x0 y0 xt yt
      go_loopw [20] (fun i wi => ∃ j : Nat, j ≤ it.names.length ∧ i = .int .i64 j ∧ (it.names.take j).all (fun (s : ByteArray) => pnB x its it s r) = true ∧ Kept wb2 wi) (fun i _ => it.names.length - (intOf i).toNat)
      case atStart => exact ⟨0, Nat.zero_le _, rfl, rfl, Kept.refl _⟩
      case round =>
        obtain ⟨j, hj, rfl, ha, hki⟩ := hrel
        have HJ := Lib.hid ha
        clear ha
        replace B0 := B0.kept hki
        replace Bt := Bt.kept hki
        have szr := hki.size
        have Kr := Kwb2.trans hki
        by_cases hltj : j < it.names.length
        · obtain ⟨b1, o1, z, rfl, hb1, hz, hc⟩ := strs_at (HS.out.kept ((KBt).trans hki)).1.addr hltj
          have hzs := HS.out.2 z (List.mem_of_getElem? hz)
          have HY := Lib.hid hz
          clear hz
          obtain ⟨x0, y0⟩ := B0.six
          obtain ⟨xt, yt⟩ := Bt.three
          go_wp2_with fail
          clear x0 y0 xt yt
          refine (pgName_any _ _ _ x its it z r _ (H0.out.kept Kr) (H1.out.kept Kr) (HIT.out.kept (KBt.trans hki)) HBB.out hi1).mono ?_
          rintro e w1 ⟨rfl, k1⟩
          replace B0 := B0.kept k1
          replace Bt := Bt.kept k1
          have sz1 := k1.size
          have K1 := Kr.trans k1
          by_cases hq : pnB x its it z r = true
          · rw [hq]
            have HF := Lib.hid hq
            clear hq
            obtain ⟨x0, y0⟩ := B0.six
            obtain ⟨xt, yt⟩ := Bt.three
            go_wp2_with fail
            clear x0 y0 xt yt
            go_roundw
            case rel => exact ⟨j + 1, by omega, by go_num, all_snoc HY.out HJ.out (HF.out), hki.trans k1⟩
            case measure => simp [intOf]; omega
          · simp only [Bool.not_eq_true] at hq
            rw [hq]
            have HF := Lib.hid hq
            clear hq
            obtain ⟨x0, y0⟩ := B0.six
            obtain ⟨xt, yt⟩ := Bt.three
            go_wp2_with fail
            clear x0 y0 xt yt
            go_ret
            exact ⟨ret_bool (all_not HZ.out (all_not (p := fun (s : ByteArray) => pnB x its it s r) HY.out (HF.out))).symm, K1⟩
        · have HI := Lib.hid (all_full (p := fun (s : ByteArray) => pnB x its it s r) (by omega) HJ.out)
          obtain ⟨x0, y0⟩ := B0.six
          obtain ⟨xt, yt⟩ := Bt.three
          go_wp2_with fail
          clear x0 y0 xt yt
          go_roundw
          case rel => exact ⟨k + 1, by omega, by go_num, all_snoc (p := fun (it : ItemD) => it.names.all fun s => pnB x its it s r) HZ.out HB.out HI.out, hkept.trans (KBt.trans hki)⟩
          case measure => simp [intOf]; omega
    · have HI := Lib.hid (all_full (p := fun (it : ItemD) => it.names.all fun s => pnB x its it s r) (by omega) HB.out)
      obtain ⟨x0, y0⟩ := B0.six
      go_wp2_with fail
      clear x0 y0
      go_ret
      exact ⟨ret_bool HI.out.symm, Ko⟩
end Go.Proofs.Ytmbgcmeiigmbaaa
