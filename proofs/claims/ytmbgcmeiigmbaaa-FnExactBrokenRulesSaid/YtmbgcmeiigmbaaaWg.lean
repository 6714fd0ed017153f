/- Items over a code: counts of families, room. -/
import Derived.Test.YtmbgcmeiigmbaaaWf
namespace Go.Proofs.Ytmbgcmeiigmbaaa
open Go.RowKit

theorem countsV_len (x : CodeD) (its : List ItemD) : (countsV x its).length = 5 := cns_length _ _
theorem fams_len (x : CodeD) (its : List ItemD) : (fams x its).length = its.length := by simp [fams]
theorem roomV_len {x : CodeD} (its : List ItemD) (h : x.limits.length = 5) : (roomV x its).length = 5 := by
  unfold roomV
  rw [List.length_zipWith, countsV_len, h]
  rfl
theorem countsV_bd {x : CodeD} {its : List ItemD} {f : Nat} {n : Int} (h : (countsV x its)[f]? = some n) : 0 ≤ n ∧ n ≤ its.length := by
  unfold countsV cns at h
  rw [List.getElem?_map] at h
  rcases List.getElem?_eq_some_iff.1 (show ((List.range 5).map fun (d : Nat) => cn (fams x its) (d : Int))[f]? = some n by rw [List.getElem?_map]; exact h) with ⟨hf, e⟩
  simp only [List.getElem_map, List.getElem_range] at e
  have := cn_bd (fams x its) (f : Int)
  rw [fams_len] at this
  omega
theorem roomV_get {x : CodeD} {its : List ItemD} {f : Nat} {l n : Int} (h1 : x.limits[f]? = some l) (h2 : (countsV x its)[f]? = some n) : (roomV x its)[f]? = some (l - n) := by
  unfold roomV
  rw [List.getElem?_zipWith, h1, h2]
theorem codeB_limit {x : CodeD} (h : codeB x = true) {f : Nat} {l : Int} (hl : x.limits[f]? = some l) : 0 ≤ l ∧ l ≤ 9 := by
  unfold codeB headB at h
  simp only [Bool.and_eq_true] at h
  exact inB_true (List.all_eq_true.1 h.1.1.2 l (List.mem_of_getElem? hl))
theorem kwOk_true {x : CodeD} {its : List ItemD} (h : kwOk x its = true) : codeB x = true ∧ itemsB its = true := by
  unfold kwOk at h
  rwa [Bool.and_eq_true] at h
set_option maxHeartbeats 1000000 in
theorem pgAsked_any (v0 v1 : Value) (x : CodeD) (its : List ItemD) (w : World) (h0 : CodeAt w v0 x) (h1 : ItemsAt w v1 its)  :
    Calls Try.prog 70 #[v0, v1] w fun e w' => e = .returned (.bool (kwOk x its)) ∧ Kept w w' := by
  have H0 := Lib.hid h0
  obtain ⟨n0, m0, rfl, p0, q0⟩ := h0
  have HE0 := Lib.hid p0; have HI0 := Lib.hid q0
  obtain ⟨A0, c0, rfl, hnc0, hcm0, _⟩ := p0.1.out; obtain ⟨D0, d0, rfl, hnd0, hdm0, _⟩ := q0.out; clear p0 q0; unfold maxLen at hcm0 hdm0
  have H1 := Lib.hid h1
  obtain ⟨A1, c1, cs1, rfl, hnc1, hcm1, hA1⟩ := h1.out; have HA1 := Lib.hid hA1; clear hA1 h1; unfold maxLen at hcm1
  go_enter Try.func70, Try.ntmps70
  have K0 := Kept.refl w
  go_wp2_with fail
  obtain ⟨wb1, hwb1⟩ : ∃ w' : World, w' = w.alloc (.cells #[.slice A0 x.elems.length c0, .slice D0 x.limits.length d0, .int .i64 x.repeats, .int .i64 x.bonus, .int .i64 x.keeps, .int .i64 x.fall] 51) := ⟨_, rfl⟩
  rw [← hwb1]
  have KB0 : Kept w wb1 := hwb1 ▸ (Kept.refl w).alloc _
  have B0 : Box wb1 (w.heap.size) 51 #[.slice A0 x.elems.length c0, .slice D0 x.limits.length d0, .int .i64 x.repeats, .int .i64 x.bonus, .int .i64 x.keeps, .int .i64 x.fall] := hwb1 ▸ Box.new w (w.heap.size) 51 #[.slice A0 x.elems.length c0, .slice D0 x.limits.length d0, .int .i64 x.repeats, .int .i64 x.bonus, .int .i64 x.keeps, .int .i64 x.fall] rfl
  have swb1 : wb1.heap.size = w.heap.size + 1 := by rw [hwb1]; simp
  clear hwb1
  have Kwb1 := K0.trans KB0
  refine (cdGood_any _ x _ (H0.out.kept Kwb1)).mono ?_
  rintro e w1 ⟨rfl, k1⟩
  replace B0 := B0.kept k1
  have sz1 := k1.size
  have K1 := Kwb1.trans k1
  by_cases hc : codeB x = true
  case neg =>
    simp only [Bool.not_eq_true] at hc
    rw [hc]
    have HO : Hid (kwOk x its = false) := Lib.hid (by unfold kwOk; simp [hc])
    obtain ⟨x0, y0⟩ := B0.six
    go_wp2_with fail
    clear x0 y0
    go_ret
    exact ⟨by rw [HO.out]; rfl, K1⟩
  rw [hc]
  obtain ⟨x0, y0⟩ := B0.six
  go_wp2_with fail
  clear x0 y0
  refine (itList_any _ its _ (H1.out.kept K1)).mono ?_
  rintro e w2 ⟨rfl, k2⟩
  replace B0 := B0.kept k2
  have sz2 := k2.size
  have K2 := K1.trans k2
  obtain ⟨x0, y0⟩ := B0.six
  go_wp2_with fail
  clear x0 y0
  go_ret
  exact ⟨ret_bool (by unfold kwOk; rw [hc]; rfl), K2⟩
set_option maxHeartbeats 4000000 in
theorem pgCounts_any (v0 v1 : Value) (x : CodeD) (its : List ItemD) (w : World) (h0 : CodeAt w v0 x) (h1 : ItemsAt w v1 its) (hx : codeB x = true) (hb : itemsB its = true) :
    Calls Try.prog 105 #[v0, v1] w fun e w' => ∃ v', e = .returned v' ∧ OwnI w' w.heap.size v' (countsV x its) ∧ Kept w w' := by
  have H0 := Lib.hid h0
  obtain ⟨n0, m0, rfl, p0, q0⟩ := h0
  have HE0 := Lib.hid p0; have HI0 := Lib.hid q0
  obtain ⟨A0, c0, rfl, hnc0, hcm0, _⟩ := p0.1.out; obtain ⟨D0, d0, rfl, hnd0, hdm0, _⟩ := q0.out; clear p0 q0; unfold maxLen at hcm0 hdm0
  have H1 := Lib.hid h1
  obtain ⟨A1, c1, cs1, rfl, hnc1, hcm1, hA1⟩ := h1.out; have HA1 := Lib.hid hA1; clear hA1 h1; unfold maxLen at hcm1
  obtain ⟨i0, hi, hz0, hz1, hz2⟩ := info_parts info_int
  go_enter Try.func105, Try.ntmps105
  have K0 := Kept.refl w
  go_upto_region 1 with (fail)
  obtain ⟨wb1, hwb1⟩ : ∃ w' : World, w' = w.alloc (.cells #[.slice A0 x.elems.length c0, .slice D0 x.limits.length d0, .int .i64 x.repeats, .int .i64 x.bonus, .int .i64 x.keeps, .int .i64 x.fall] 51) := ⟨_, rfl⟩
  rw [← hwb1]
  have KB0 : Kept w wb1 := hwb1 ▸ (Kept.refl w).alloc _
  have B0 : Box wb1 (w.heap.size) 51 #[.slice A0 x.elems.length c0, .slice D0 x.limits.length d0, .int .i64 x.repeats, .int .i64 x.bonus, .int .i64 x.keeps, .int .i64 x.fall] := hwb1 ▸ Box.new w (w.heap.size) 51 #[.slice A0 x.elems.length c0, .slice D0 x.limits.length d0, .int .i64 x.repeats, .int .i64 x.bonus, .int .i64 x.keeps, .int .i64 x.fall] rfl
  have swb1 : wb1.heap.size = w.heap.size + 1 := by rw [hwb1]; simp
  clear hwb1
  have Kwb1 := K0.trans KB0
  obtain ⟨x0, y0⟩ := B0.six
  go_wp2_with (at_make; refine wpList_make_full _ rfl _ _ 22 rfl wb1.heap.size 3 i0 _ 1 Try.underlying22 hi hz0 hz1 _ _ _ _ 5 rfl rfl rfl rfl (by rw [hz2]; omega) (by decide) (Nat.le_refl _) ?_; intro w2 hown hgrow)
  clear x0 y0
  have k2 : Kept wb1 w2 := (Below.refl _ _).grown hgrow (Nat.le_refl _) (by intro k hk; cases hk)
  have hown0 : w2.ownsRow wb1.heap.size 3 1 (.slice (some ⟨wb1.heap.size, 0, none⟩) 5 5) 5 ((cns 5 []).map (Value.int .i64)) := by
    rw [show (cns 5 []).map (Value.int .i64) = (madeCells (Value.int .i64 0).cells (5 * 1)).toList from by rw [cns_nil5]; kernel_rfl]
    exact hown
  have HW := Lib.hid hown0
  clear hown0 hgrow hi hz0 hz1 hz2 hown
  have HB := Lib.hid hb
  have hl14 := (itemsB_true hb).1
  have B0s := B0
  have hgz : wb1.heap.size < w2.heap.size := (HW.out.lt _ rfl).2
  go_loopw [12] (fun i wr => ∃ k : Nat, k ≤ its.length ∧ i = .int .i64 k ∧ wr.ownsRow wb1.heap.size 3 1 (.slice (some ⟨wb1.heap.size, 0, none⟩) 5 5) 5 ((cns 5 ((fams x its).take k)).map (Value.int .i64)) ∧ Kept wb1 wr) (fun i _ => its.length - (intOf i).toNat)
  case atStart => exact ⟨0, Nat.zero_le _, rfl, by simpa using HW.out, k2⟩
  case round =>
    obtain ⟨k, hk, rfl, ho, hkept⟩ := hrel
    have HO := Lib.hid ho
    clear ho HW
    replace B0 := B0.kept hkept
    have szr := hkept.size
    have Kr := Kwb1.trans hkept
    by_cases hlt : k < its.length
    · obtain ⟨b, o, Aa, ca, Ab, cb, it, rfl, hbb, h2, h3, hit, q0, q1, q2⟩ := items_at (HA1.out.kept Kr) hlt
      obtain ⟨hi1, hi3, him⟩ := items_some HB.out h2
      have HIT := Lib.hid hit
      have HFS := Lib.hid (fams_snoc (x := x) h2)
      clear h2 h3 hit him
      obtain ⟨x0, y0⟩ := B0.six
      go_upto_region 5 with (fail)
      clear x0 y0
      obtain ⟨wb2, hwb2⟩ : ∃ w' : World, w' = wr.alloc (.cells #[.slice Aa it.names.length ca, .slice Ab it.marks.length cb, .bool it.late] 64) := ⟨_, rfl⟩
      rw [← hwb2]
      have KBt : Kept wr wb2 := hwb2 ▸ (Kept.refl wr).alloc _
      have Bt : Box wb2 (wr.heap.size) 64 #[.slice Aa it.names.length ca, .slice Ab it.marks.length cb, .bool it.late] := hwb2 ▸ Box.new wr (wr.heap.size) 64 #[.slice Aa it.names.length ca, .slice Ab it.marks.length cb, .bool it.late] rfl
      have swb2 : wb2.heap.size = wr.heap.size + 1 := by rw [hwb2]; simp
      clear hwb2
      replace B0 := B0.kept KBt
      have Kwb2 := Kr.trans KBt
      obtain ⟨x0, y0⟩ := B0.six
      obtain ⟨xt, yt⟩ := Bt.three
      go_wp2_with fail
      clear x0 y0 xt yt
      refine (pgFamily_any _ _ x it _ (H0.out.kept Kwb2) (HIT.out.kept KBt) hi1).mono ?_
      rintro e w1 ⟨rfl, k1⟩
      replace B0 := B0.kept k1
      replace Bt := Bt.kept k1
      have sz1 := k1.size
      have K1 := Kwb2.trans k1
      have hfb := famV_bd hx it
      obtain ⟨hf1, hf2⟩ := hfb
      have htl : ((fams x its).take k).length ≤ 14 := by rw [List.length_take, fams_len]; omega
      have ho := own_kept (own_kept HO.out KBt) k1
      generalize famV x it = fv at *
      by_cases hf : fv < 0
      · have hge : decide (fv ≥ 0) = false := by simp; omega
        have HS := Lib.hid (cns_skip 5 ((fams x its).take k) hf)
        have HOs := Lib.hid ho
        clear ho
        obtain ⟨x0, y0⟩ := B0.six
        obtain ⟨xt, yt⟩ := Bt.three
        go_wp2_with fail
        clear x0 y0 xt yt
        go_roundw
        case rel => exact ⟨k + 1, by omega, by go_num, by rw [HFS.out, HS.out]; exact HOs.out, (hkept.trans KBt).trans k1⟩
        case measure => simp [intOf]; omega
      · have h0 : 0 ≤ fv := by omega
        have HS := Lib.hid (cns_snoc (m := 5) ((fams x its).take k) h0 (by omega))
        have hcg := cns_get (m := 5) ((fams x its).take k) h0 (by omega)
        obtain ⟨cb1, cb2⟩ := cn_bd ((fams x its).take k) fv
        have hcell : w1.cell? ⟨w.heap.size + 1, fv.toNat, none⟩ = some (.int .i64 (cn ((fams x its).take k) fv)) := by
          rw [← swb1, ho.cellAt fv.toNat (by omega), List.getElem?_map, hcg]
          rfl
        have hfr : w1.frozen? ⟨w.heap.size + 1, fv.toNat, none⟩ = false := by rw [← swb1]; exact ho.frozenAt fv.toNat
        have HST : Hid ((w1.setCell ⟨w.heap.size + 1, fv.toNat, none⟩ (.int .i64 (cn ((fams x its).take k) fv + 1))).ownsRow wb1.heap.size 3 1 (.slice (some ⟨wb1.heap.size, 0, none⟩) 5 5) 5 _) := Lib.hid (by rw [← swb1]; exact (ho.stored fv.toNat (.int .i64 (cn ((fams x its).take k) fv + 1))).1)
        have h5 : fv < 5 := by omega
        clear hcg ho
        generalize hcd : cn ((fams x its).take k) fv = cd at *
        clear hcd
        obtain ⟨x0, y0⟩ := B0.six
        obtain ⟨xt, yt⟩ := Bt.three
        go_wp2_with fail
        clear x0 y0 xt yt
        go_roundw
        case rel =>
          refine ⟨k + 1, by omega, by go_num, ?_, Kept.setCell ((hkept.trans KBt).trans k1) (by dsimp only; omega) _⟩
          have := HST.out
          rw [HFS.out, HS.out, List.map_set]
          exact this
        case measure => simp [intOf]; omega
    · obtain rfl : k = its.length := by omega
      have HOE : Hid (OwnI wr wb1.heap.size (.slice (some ⟨wb1.heap.size, 0, none⟩) 5 5) (countsV x its)) := Lib.hid (by have := HO.out; rw [List.take_of_length_le (by rw [fams_len]; exact Nat.le_refl _)] at this; exact this)
      obtain ⟨x0, y0⟩ := B0.six
      go_wp2_with fail
      clear x0 y0
      go_ret
      exact ⟨_, by rw [swb1]; rfl, HOE.out.base Kwb1.size, Kr⟩
set_option maxHeartbeats 4000000 in
theorem familyCounts_any (v0 v1 : Value) (x : CodeD) (its : List ItemD) (w : World) (h0 : CodeAt w v0 x) (h1 : ItemsAt w v1 its) (hx : codeB x = true) (hb : itemsB its = true) :
    Calls Try.prog 152 #[v0, v1] w fun e w' => ∃ v', e = .returned v' ∧ OwnI w' w.heap.size v' (countsV x its) ∧ Kept w w' := by
  have H0 := Lib.hid h0
  obtain ⟨n0, m0, rfl, p0, q0⟩ := h0
  have HE0 := Lib.hid p0; have HI0 := Lib.hid q0
  obtain ⟨A0, c0, rfl, hnc0, hcm0, _⟩ := p0.1.out; obtain ⟨D0, d0, rfl, hnd0, hdm0, _⟩ := q0.out; clear p0 q0; unfold maxLen at hcm0 hdm0
  have H1 := Lib.hid h1
  obtain ⟨A1, c1, cs1, rfl, hnc1, hcm1, hA1⟩ := h1.out; have HA1 := Lib.hid hA1; clear hA1 h1; unfold maxLen at hcm1
  obtain ⟨i0, hi, hz0, hz1, hz2⟩ := info_parts info_int
  go_enter Try.func152, Try.ntmps152
  have K0 := Kept.refl w
  go_upto_region 1 with (fail)
  obtain ⟨wb1, hwb1⟩ : ∃ w' : World, w' = w.alloc (.cells #[.slice A0 x.elems.length c0, .slice D0 x.limits.length d0, .int .i64 x.repeats, .int .i64 x.bonus, .int .i64 x.keeps, .int .i64 x.fall] 51) := ⟨_, rfl⟩
  rw [← hwb1]
  have KB0 : Kept w wb1 := hwb1 ▸ (Kept.refl w).alloc _
  have B0 : Box wb1 (w.heap.size) 51 #[.slice A0 x.elems.length c0, .slice D0 x.limits.length d0, .int .i64 x.repeats, .int .i64 x.bonus, .int .i64 x.keeps, .int .i64 x.fall] := hwb1 ▸ Box.new w (w.heap.size) 51 #[.slice A0 x.elems.length c0, .slice D0 x.limits.length d0, .int .i64 x.repeats, .int .i64 x.bonus, .int .i64 x.keeps, .int .i64 x.fall] rfl
  have swb1 : wb1.heap.size = w.heap.size + 1 := by rw [hwb1]; simp
  clear hwb1
  have Kwb1 := K0.trans KB0
  obtain ⟨x0, y0⟩ := B0.six
  go_wp2_with (at_make; refine wpList_make_full _ rfl _ _ 22 rfl wb1.heap.size 3 i0 _ 1 Try.underlying22 hi hz0 hz1 _ _ _ _ 5 rfl rfl rfl rfl (by rw [hz2]; omega) (by decide) (Nat.le_refl _) ?_; intro w2 hown hgrow)
  clear x0 y0
  have k2 : Kept wb1 w2 := (Below.refl _ _).grown hgrow (Nat.le_refl _) (by intro k hk; cases hk)
  have hown0 : w2.ownsRow wb1.heap.size 3 1 (.slice (some ⟨wb1.heap.size, 0, none⟩) 5 5) 5 ((cns 5 []).map (Value.int .i64)) := by
    rw [show (cns 5 []).map (Value.int .i64) = (madeCells (Value.int .i64 0).cells (5 * 1)).toList from by rw [cns_nil5]; kernel_rfl]
    exact hown
  have HW := Lib.hid hown0
  clear hown0 hgrow hi hz0 hz1 hz2 hown
  have HB := Lib.hid hb
  have hl14 := (itemsB_true hb).1
  have B0s := B0
  have hgz : wb1.heap.size < w2.heap.size := (HW.out.lt _ rfl).2
  go_loopw [12] (fun i wr => ∃ k : Nat, k ≤ its.length ∧ i = .int .i64 k ∧ wr.ownsRow wb1.heap.size 3 1 (.slice (some ⟨wb1.heap.size, 0, none⟩) 5 5) 5 ((cns 5 ((fams x its).take k)).map (Value.int .i64)) ∧ Kept wb1 wr) (fun i _ => its.length - (intOf i).toNat)
  case atStart => exact ⟨0, Nat.zero_le _, rfl, by simpa using HW.out, k2⟩
  case round =>
    obtain ⟨k, hk, rfl, ho, hkept⟩ := hrel
    have HO := Lib.hid ho
    clear ho HW
    replace B0 := B0.kept hkept
    have szr := hkept.size
    have Kr := Kwb1.trans hkept
    by_cases hlt : k < its.length
    · obtain ⟨b, o, Aa, ca, Ab, cb, it, rfl, hbb, h2, h3, hit, q0, q1, q2⟩ := items_at (HA1.out.kept Kr) hlt
      obtain ⟨hi1, hi3, him⟩ := items_some HB.out h2
      have HIT := Lib.hid hit
      have HFS := Lib.hid (fams_snoc (x := x) h2)
      clear h2 h3 hit him
      obtain ⟨x0, y0⟩ := B0.six
      go_upto_region 5 with (fail)
      clear x0 y0
      obtain ⟨wb2, hwb2⟩ : ∃ w' : World, w' = wr.alloc (.cells #[.slice Aa it.names.length ca, .slice Ab it.marks.length cb, .bool it.late] 64) := ⟨_, rfl⟩
      rw [← hwb2]
      have KBt : Kept wr wb2 := hwb2 ▸ (Kept.refl wr).alloc _
      have Bt : Box wb2 (wr.heap.size) 64 #[.slice Aa it.names.length ca, .slice Ab it.marks.length cb, .bool it.late] := hwb2 ▸ Box.new wr (wr.heap.size) 64 #[.slice Aa it.names.length ca, .slice Ab it.marks.length cb, .bool it.late] rfl
      have swb2 : wb2.heap.size = wr.heap.size + 1 := by rw [hwb2]; simp
      clear hwb2
      replace B0 := B0.kept KBt
      have Kwb2 := Kr.trans KBt
      obtain ⟨x0, y0⟩ := B0.six
      obtain ⟨xt, yt⟩ := Bt.three
      go_wp2_with fail
      clear x0 y0 xt yt
      refine (familyOf_any _ _ x it _ (H0.out.kept Kwb2) (HIT.out.kept KBt) hi1).mono ?_
      rintro e w1 ⟨rfl, k1⟩
      replace B0 := B0.kept k1
      replace Bt := Bt.kept k1
      have sz1 := k1.size
      have K1 := Kwb2.trans k1
      have hfb := famV_bd hx it
      obtain ⟨hf1, hf2⟩ := hfb
      have htl : ((fams x its).take k).length ≤ 14 := by rw [List.length_take, fams_len]; omega
      have ho := own_kept (own_kept HO.out KBt) k1
      generalize famV x it = fv at *
      by_cases hf : fv < 0
      · have hge : decide (fv ≥ 0) = false := by simp; omega
        have HS := Lib.hid (cns_skip 5 ((fams x its).take k) hf)
        have HOs := Lib.hid ho
        clear ho
        obtain ⟨x0, y0⟩ := B0.six
        obtain ⟨xt, yt⟩ := Bt.three
        go_wp2_with fail
        clear x0 y0 xt yt
        go_roundw
        case rel => exact ⟨k + 1, by omega, by go_num, by rw [HFS.out, HS.out]; exact HOs.out, (hkept.trans KBt).trans k1⟩
        case measure => simp [intOf]; omega
      · have h0 : 0 ≤ fv := by omega
        have HS := Lib.hid (cns_snoc (m := 5) ((fams x its).take k) h0 (by omega))
        have hcg := cns_get (m := 5) ((fams x its).take k) h0 (by omega)
        obtain ⟨cb1, cb2⟩ := cn_bd ((fams x its).take k) fv
        have hcell : w1.cell? ⟨w.heap.size + 1, fv.toNat, none⟩ = some (.int .i64 (cn ((fams x its).take k) fv)) := by
          rw [← swb1, ho.cellAt fv.toNat (by omega), List.getElem?_map, hcg]
          rfl
        have hfr : w1.frozen? ⟨w.heap.size + 1, fv.toNat, none⟩ = false := by rw [← swb1]; exact ho.frozenAt fv.toNat
        have HST : Hid ((w1.setCell ⟨w.heap.size + 1, fv.toNat, none⟩ (.int .i64 (cn ((fams x its).take k) fv + 1))).ownsRow wb1.heap.size 3 1 (.slice (some ⟨wb1.heap.size, 0, none⟩) 5 5) 5 _) := Lib.hid (by rw [← swb1]; exact (ho.stored fv.toNat (.int .i64 (cn ((fams x its).take k) fv + 1))).1)
        have h5 : fv < 5 := by omega
        clear hcg ho
        generalize hcd : cn ((fams x its).take k) fv = cd at *
        clear hcd
        obtain ⟨x0, y0⟩ := B0.six
        obtain ⟨xt, yt⟩ := Bt.three
        go_wp2_with fail
        clear x0 y0 xt yt
        go_roundw
        case rel =>
          refine ⟨k + 1, by omega, by go_num, ?_, Kept.setCell ((hkept.trans KBt).trans k1) (by dsimp only; omega) _⟩
          have := HST.out
          rw [HFS.out, HS.out, List.map_set]
          exact this
        case measure => simp [intOf]; omega
    · obtain rfl : k = its.length := by omega
      have HOE : Hid (OwnI wr wb1.heap.size (.slice (some ⟨wb1.heap.size, 0, none⟩) 5 5) (countsV x its)) := Lib.hid (by have := HO.out; rw [List.take_of_length_le (by rw [fams_len]; exact Nat.le_refl _)] at this; exact this)
      obtain ⟨x0, y0⟩ := B0.six
      go_wp2_with fail
      clear x0 y0
      go_ret
      exact ⟨_, by rw [swb1]; rfl, HOE.out.base Kwb1.size, Kr⟩
end Go.Proofs.Ytmbgcmeiigmbaaa
