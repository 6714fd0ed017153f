/- Items over a code: LateGain. -/
import Derived.Test.YthadbgeafcepoaaWf
import Derived.Deep.DeepCutAuto
namespace Go.Proofs.Ythadbgeafcepoaa
open Go.RowKit

def setL (it : ItemD) (b : Bool) : ItemD := { it with late := b }
def gainV (x : CodeD) (its : List ItemD) (k : Nat) : Int := match its[k]? with | some it => fullV x (setL it true) - fullV x (setL it false) | none => 0
theorem gainV_at {x : CodeD} {its : List ItemD} {k : Nat} {it : ItemD} (h : its[k]? = some it) : gainV x its k = fullV x (setL it true) - fullV x (setL it false) := by unfold gainV; rw [h]
theorem setL_item (it : ItemD) (b : Bool) : itemB (setL it b) = itemB it := rfl
theorem setL_known (x : CodeD) (it : ItemD) (b : Bool) : knI x (setL it b) = knI x it := rfl
theorem bsFull_is (n : Int) (v0 v1 : Value) (x : CodeD) (it : ItemD) (w : World) (hn : fullV x it = n) (h0 : CodeAt w v0 x) (h1 : ItemAt w v1 it) (hx : codeB x = true) (hi : itemB it = true) (hk : knI x it = true) :
    Calls Try.prog 113 #[v0, v1] w fun e w' => e = .returned (.int .i64 n) ∧ Kept w w' := by rw [← hn]; exact bsFull_any v0 v1 x it w h0 h1 hx hi hk
theorem fullBase_is (n : Int) (v0 v1 : Value) (x : CodeD) (it : ItemD) (w : World) (hn : fullV x it = n) (h0 : CodeAt w v0 x) (h1 : ItemAt w v1 it) (hx : codeB x = true) (hi : itemB it = true) (hk : knI x it = true) :
    Calls Try.prog 114 #[v0, v1] w fun e w' => e = .returned (.int .i64 n) ∧ Kept w w' := by rw [← hn]; exact fullBase_any v0 v1 x it w h0 h1 hx hi hk
set_option maxHeartbeats 4000000 in
theorem specLateGain_any (v0 v1 : Value) (x : CodeD) (its : List ItemD) (a : Int) (w : World) (h0 : CodeAt w v0 x) (h1 : ItemsAt w v1 its)  :
    Calls Try.prog 50 #[v0, v1, .int .i64 a] w fun e w' => e = .returned (.tuple #[.int .i64 (onI (hasB x its a) (gainV x its a.toNat)), .bool (hasB x its a)]) ∧ Kept w w' := by
  have H0 := Lib.hid h0
  obtain ⟨n0, m0, rfl, p0, q0⟩ := h0
  have HE0 := Lib.hid p0; have HI0 := Lib.hid q0
  obtain ⟨A0, c0, rfl, hnc0, hcm0, _⟩ := p0.1.out; obtain ⟨D0, d0, rfl, hnd0, hdm0, _⟩ := q0.out; clear p0 q0; unfold maxLen at hcm0 hdm0
  have H1 := Lib.hid h1
  obtain ⟨A1, c1, cs1, rfl, hnc1, hcm1, hA1⟩ := h1.out; have HA1 := Lib.hid hA1; clear hA1 h1; unfold maxLen at hcm1
  go_enter Try.func50, Try.ntmps50
  have K0 := Kept.refl w
  go_wp2_with fail
  obtain ⟨wb1, hwb1⟩ : ∃ w' : World, w' = w.alloc (.cells #[.slice A0 x.elems.length c0, .slice D0 x.limits.length d0, .int .i64 x.repeats, .int .i64 x.bonus, .int .i64 x.keeps, .int .i64 x.fall] 32) := ⟨_, rfl⟩
  rw [← hwb1]
  have KB0 : Kept w wb1 := hwb1 ▸ (Kept.refl w).alloc _
  have B0 : Box wb1 (w.heap.size) 32 #[.slice A0 x.elems.length c0, .slice D0 x.limits.length d0, .int .i64 x.repeats, .int .i64 x.bonus, .int .i64 x.keeps, .int .i64 x.fall] := hwb1 ▸ Box.new w (w.heap.size) 32 #[.slice A0 x.elems.length c0, .slice D0 x.limits.length d0, .int .i64 x.repeats, .int .i64 x.bonus, .int .i64 x.keeps, .int .i64 x.fall] rfl
  have swb1 : wb1.heap.size = w.heap.size + 1 := by rw [hwb1]; simp
  clear hwb1
  have Kwb1 := K0.trans KB0
  refine (bsHas_any _ _ x its a _ (H0.out.kept Kwb1) (H1.out.kept Kwb1)).mono ?_
  rintro e w1 ⟨rfl, k1⟩
  replace B0 := B0.kept k1
  have sz1 := k1.size
  have K1 := Kwb1.trans k1
  by_cases hg : hasB x its a = true
  case neg =>
    simp only [Bool.not_eq_true] at hg
    rw [hg]
    have HO := Lib.hid hg
    clear hg
    obtain ⟨x0, y0⟩ := B0.six
    go_wp2_with fail
    clear x0 y0
    go_ret2
    exact ⟨by rw [HO.out]; rfl, K1⟩
  rw [hg]
  have HG := Lib.hid hg
  obtain ⟨hgd, h0a, hka⟩ := hasB_true hg
  obtain ⟨hx, hb, hkn⟩ := gdB_true hgd
  clear hg
  obtain ⟨k, rfl⟩ := Int.eq_ofNat_of_zero_le h0a
  rw [Int.toNat_natCast] at hka
  have hkl : (k : Int) < (its.length : Int) := by omega
  have hl14 := (itemsB_true hb).1
  obtain ⟨b, o, Aa, ca, Ab, cb, it, rfl, hbb, h2, h3, hit, q0, q1, q2⟩ := items_at (HA1.out.kept K1) hka
  have hib := (itemsB_true hb).2 it (List.mem_of_getElem? h2)
  have hik := knB_item hkn h2
  have HV := Lib.hid (gainV_at (x := x) h2)
  obtain ⟨p1, p2⟩ := hit.parts
  have P1 := Lib.hid p1
  have P2 := Lib.hid p2
  clear h2 h3 hit p1 p2 hgd hb hkn
  obtain ⟨x0, y0⟩ := B0.six
  go_wp2_with fail
  clear x0 y0
  obtain ⟨wb2, hwb2⟩ : ∃ w' : World, w' = w1.alloc (.cells #[.slice Aa it.names.length ca, .slice Ab it.marks.length cb, .bool true] 47) := ⟨_, rfl⟩
  rw [← hwb2]
  have KBl : Kept w1 wb2 := hwb2 ▸ (Kept.refl w1).alloc _
  have Bl : Box wb2 (w1.heap.size) 47 #[.slice Aa it.names.length ca, .slice Ab it.marks.length cb, .bool true] := hwb2 ▸ Box.new w1 (w1.heap.size) 47 #[.slice Aa it.names.length ca, .slice Ab it.marks.length cb, .bool true] rfl
  have swb2 : wb2.heap.size = w1.heap.size + 1 := by rw [hwb2]; simp
  clear hwb2
  replace B0 := B0.kept KBl
  have Kwb2 := K1.trans KBl
  obtain ⟨wb3, hwb3⟩ : ∃ w' : World, w' = wb2.alloc (.cells #[.slice Aa it.names.length ca, .slice Ab it.marks.length cb, .bool false] 47) := ⟨_, rfl⟩
  rw [← hwb3]
  have KBe : Kept wb2 wb3 := hwb3 ▸ (Kept.refl wb2).alloc _
  have Be : Box wb3 (w1.heap.size + 1) 47 #[.slice Aa it.names.length ca, .slice Ab it.marks.length cb, .bool false] := hwb3 ▸ Box.new wb2 (w1.heap.size + 1) 47 #[.slice Aa it.names.length ca, .slice Ab it.marks.length cb, .bool false] (by omega)
  have swb3 : wb3.heap.size = wb2.heap.size + 1 := by rw [hwb3]; simp
  clear hwb3
  replace B0 := B0.kept KBe
  replace Bl := Bl.kept KBe
  have Kwb3 := Kwb2.trans KBe
  clear q0 q1 q2
  have Kd1_ : Kept wb3 wb3.drew := (Kept.refl _).drew
  replace B0 := B0.kept Kd1_
  replace Bl := Bl.kept Kd1_
  replace Be := Be.kept Kd1_
  have Kd1 := Kwb3.trans Kd1_
  have HCO := Lib.hid (H0.out.kept Kd1)
  have kk : Kept w1 wb3.drew := ((Kept.refl _).trans KBl |>.trans KBe).drew
  have HT : Hid (ItemAt wb3.drew (.agg #[.slice Aa it.names.length ca, .slice Ab it.marks.length cb, .bool true]) (setL it true)) := Lib.hid ⟨_, _, rfl, P1.out.kept kk, P2.out.kept kk⟩
  have HF : Hid (ItemAt wb3.drew (.agg #[.slice Aa it.names.length ca, .slice Ab it.marks.length cb, .bool false]) (setL it false)) := Lib.hid ⟨_, _, rfl, P1.out.kept kk, P2.out.kept kk⟩
  have bd1 := fullV_bd hx ((setL_item it true).trans hib) ((setL_known x it true).trans hik)
  have bd2 := fullV_bd hx ((setL_item it false).trans hib) ((setL_known x it false).trans hik)
  generalize hf1 : fullV x (setL it true) = f1 at *
  generalize hf2 : fullV x (setL it false) = f2 at *
  have HF1 := Lib.hid hf1
  have HF2 := Lib.hid hf2
  clear hf1 hf2
  obtain ⟨d1, d2⟩ := bd1
  obtain ⟨d3, d4⟩ := bd2
  have hwr : IntKind.i64.wrap (f1 - f2) = f1 - f2 := IntWalk.i64_in _ (by omega)
  have x0 := fun t : After (wb3.drew) => (B0.kept t.kept).six.1
  have xl := fun t : After (wb3.drew) => (Bl.kept t.kept).three.1
  have xe := fun t : After (wb3.drew) => (Be.kept t.kept).three.1
  refine region_after (by kernel_rfl) (by kernel_rfl) ?_
  repeat (go_big_quiet_step ((first | (go_at_call 113; exact after_of (bsFull_is _ _ _ x (setL it true) _ HF1.out (HCO.out.kept (After.kept _)) (HT.out.kept (After.kept _)) hx hib hik)) | (go_at_call 113; exact after_of (bsFull_is _ _ _ x (setL it false) _ HF2.out (HCO.out.kept (After.kept _)) (HF.out.kept (After.kept _)) hx hib hik)))))
  refine wpQuiet_nil ?_
  intro wq hw'
  obtain ⟨⟨_, kq⟩, hw''⟩ := hw'
  subst hw''
  try dsimp only
  clear x0 xl xe
  replace B0 := B0.kept kq
  replace Bl := Bl.kept kq
  replace Be := Be.kept kq
  have Kq2 := Kd1.trans kq
  obtain ⟨x0, y0⟩ := B0.six
  obtain ⟨xl, yl⟩ := Bl.three
  obtain ⟨xe, ye⟩ := Be.three
  go_wp2_with fail
  clear x0 y0 xl yl xe ye
  go_ret2
  exact ⟨by rw [HG.out]; simp only [Int.toNat_natCast, HV.out]; rfl, Kq2⟩
set_option maxHeartbeats 4000000 in
theorem implLateGain_any (v0 v1 : Value) (x : CodeD) (its : List ItemD) (a : Int) (w : World) (h0 : CodeAt w v0 x) (h1 : ItemsAt w v1 its)  :
    Calls Try.prog 51 #[v0, v1, .int .i64 a] w fun e w' => e = .returned (.tuple #[.int .i64 (onI (hasB x its a) (gainV x its a.toNat)), .bool (hasB x its a)]) ∧ Kept w w' := by
  have H0 := Lib.hid h0
  obtain ⟨n0, m0, rfl, p0, q0⟩ := h0
  have HE0 := Lib.hid p0; have HI0 := Lib.hid q0
  obtain ⟨A0, c0, rfl, hnc0, hcm0, _⟩ := p0.1.out; obtain ⟨D0, d0, rfl, hnd0, hdm0, _⟩ := q0.out; clear p0 q0; unfold maxLen at hcm0 hdm0
  have H1 := Lib.hid h1
  obtain ⟨A1, c1, cs1, rfl, hnc1, hcm1, hA1⟩ := h1.out; have HA1 := Lib.hid hA1; clear hA1 h1; unfold maxLen at hcm1
  go_enter Try.func51, Try.ntmps51
  have K0 := Kept.refl w
  go_wp2_with fail
  obtain ⟨wb1, hwb1⟩ : ∃ w' : World, w' = w.alloc (.cells #[.slice A0 x.elems.length c0, .slice D0 x.limits.length d0, .int .i64 x.repeats, .int .i64 x.bonus, .int .i64 x.keeps, .int .i64 x.fall] 32) := ⟨_, rfl⟩
  rw [← hwb1]
  have KB0 : Kept w wb1 := hwb1 ▸ (Kept.refl w).alloc _
  have B0 : Box wb1 (w.heap.size) 32 #[.slice A0 x.elems.length c0, .slice D0 x.limits.length d0, .int .i64 x.repeats, .int .i64 x.bonus, .int .i64 x.keeps, .int .i64 x.fall] := hwb1 ▸ Box.new w (w.heap.size) 32 #[.slice A0 x.elems.length c0, .slice D0 x.limits.length d0, .int .i64 x.repeats, .int .i64 x.bonus, .int .i64 x.keeps, .int .i64 x.fall] rfl
  have swb1 : wb1.heap.size = w.heap.size + 1 := by rw [hwb1]; simp
  clear hwb1
  have Kwb1 := K0.trans KB0
  refine (hasKnown_any _ _ x its a _ (H0.out.kept Kwb1) (H1.out.kept Kwb1)).mono ?_
  rintro e w1 ⟨rfl, k1⟩
  replace B0 := B0.kept k1
  have sz1 := k1.size
  have K1 := Kwb1.trans k1
  by_cases hg : hasB x its a = true
  case neg =>
    simp only [Bool.not_eq_true] at hg
    rw [hg]
    have HO := Lib.hid hg
    clear hg
    obtain ⟨x0, y0⟩ := B0.six
    go_wp2_with fail
    clear x0 y0
    go_ret2
    exact ⟨by rw [HO.out]; rfl, K1⟩
  rw [hg]
  have HG := Lib.hid hg
  obtain ⟨hgd, h0a, hka⟩ := hasB_true hg
  obtain ⟨hx, hb, hkn⟩ := gdB_true hgd
  clear hg
  obtain ⟨k, rfl⟩ := Int.eq_ofNat_of_zero_le h0a
  rw [Int.toNat_natCast] at hka
  have hkl : (k : Int) < (its.length : Int) := by omega
  have hl14 := (itemsB_true hb).1
  obtain ⟨b, o, Aa, ca, Ab, cb, it, rfl, hbb, h2, h3, hit, q0, q1, q2⟩ := items_at (HA1.out.kept K1) hka
  have hib := (itemsB_true hb).2 it (List.mem_of_getElem? h2)
  have hik := knB_item hkn h2
  have HV := Lib.hid (gainV_at (x := x) h2)
  obtain ⟨p1, p2⟩ := hit.parts
  have P1 := Lib.hid p1
  have P2 := Lib.hid p2
  clear h2 h3 hit p1 p2 hgd hb hkn
  obtain ⟨x0, y0⟩ := B0.six
  go_upto_region 3 with (fail)
  clear x0 y0
  have QC := Lib.hid (⟨q0, q1, q2⟩ : _ ∧ _ ∧ _)
  clear q0 q1 q2
  go_cut [8, 9] (fun s8 s9 wx => ∃ g1 g2 : Nat, s8 = .pointer (some ⟨g1, 0, none⟩) ∧ s9 = .pointer (some ⟨g2, 0, none⟩) ∧ g1 ≠ g2 ∧ w1.heap.size ≤ g1 ∧ w1.heap.size ≤ g2 ∧ Box wx g1 47 #[.slice Aa it.names.length ca, .slice Ab it.marks.length cb, .bool it.late] ∧ Box wx g2 47 #[.slice Aa it.names.length ca, .slice Ab it.marks.length cb, .bool it.late] ∧ Kept w1 wx)
  case first =>
    obtain ⟨q0, q1, q2⟩ := QC.out
    have z0 := World.new_ne w1 ⟨b, o + k * 3, none⟩ q0
    have z1 := World.new_ne w1 ⟨b, o + k * 3 + 1, none⟩ q1
    have z2 := World.new_ne w1 ⟨b, o + k * 3 + 2, none⟩ q2
    go_region_held3 (fun w' => w'.cell? ⟨b, o + k * 3, none⟩ = some (.slice Aa it.names.length ca) ∧ w'.cell? ⟨b, o + k * 3 + 1, none⟩ = some (.slice Ab it.marks.length cb) ∧ w'.cell? ⟨b, o + k * 3 + 2, none⟩ = some (.bool it.late)) (go_keep) (fail)
    all_goals go_wp2_with fail
    all_goals go_meet
    · exact ⟨w1.heap.size, w1.heap.size + 1, rfl, rfl, by omega, by omega, by omega, (Box.new w1 _ _ _ rfl).alloc _, Box.new (w1.alloc _) _ _ _ (by simp), (((Kept.refl _).alloc _).alloc _).drew⟩
    · exact ⟨w1.heap.size + 1, w1.heap.size, rfl, rfl, by omega, by omega, by omega, Box.new (w1.alloc _) _ _ _ (by simp), (Box.new w1 _ _ _ rfl).alloc _, (((Kept.refl _).alloc _).alloc _).drew⟩
  case rest =>
    obtain ⟨g1, g2, rfl, rfl, hne, hg1, hg2, Bl, Be, kx⟩ := hcut
    have hne' : g2 ≠ g1 := fun e => hne e.symm
    obtain ⟨xl, yl⟩ := Bl.three
    obtain ⟨xe, ye⟩ := Be.three
    obtain ⟨x0, y0⟩ := (B0.kept kx).six
    go_upto_region 5 with (fail)
    clear xl yl xe ye x0 y0
    have kz : Kept w1 ((wc.setCell ⟨g1, 2, none⟩ (.bool true)).setCell ⟨g2, 2, none⟩ (.bool false)) := (kx.setCell hg1 _).setCell hg2 _
    replace Bl : Box ((wc.setCell ⟨g1, 2, none⟩ (.bool true)).setCell ⟨g2, 2, none⟩ (.bool false)) g1 47 #[.slice Aa it.names.length ca, .slice Ab it.marks.length cb, .bool true] := (Bl.set 2 _).far _ hne _
    replace Be : Box ((wc.setCell ⟨g1, 2, none⟩ (.bool true)).setCell ⟨g2, 2, none⟩ (.bool false)) g2 47 #[.slice Aa it.names.length ca, .slice Ab it.marks.length cb, .bool false] := (Be.far ⟨g1, 2, none⟩ hne' _).set 2 _
    generalize (wc.setCell ⟨g1, 2, none⟩ (.bool true)).setCell ⟨g2, 2, none⟩ (.bool false) = wz at *
    clear kx
    replace B0 := B0.kept kz
    have szz := kz.size
    have Kz := K1.trans kz
    have Kd1_ : Kept wz wz.drew := (Kept.refl _).drew
    replace B0 := B0.kept Kd1_
    replace Bl := Bl.kept Kd1_
    replace Be := Be.kept Kd1_
    have Kd1 := Kz.trans Kd1_
    have HCO := Lib.hid (H0.out.kept Kd1)
    have kk : Kept w1 wz.drew := kz.drew
    have HT : Hid (ItemAt wz.drew (.agg #[.slice Aa it.names.length ca, .slice Ab it.marks.length cb, .bool true]) (setL it true)) := Lib.hid ⟨_, _, rfl, P1.out.kept kk, P2.out.kept kk⟩
    have HF : Hid (ItemAt wz.drew (.agg #[.slice Aa it.names.length ca, .slice Ab it.marks.length cb, .bool false]) (setL it false)) := Lib.hid ⟨_, _, rfl, P1.out.kept kk, P2.out.kept kk⟩
    have bd1 := fullV_bd hx ((setL_item it true).trans hib) ((setL_known x it true).trans hik)
    have bd2 := fullV_bd hx ((setL_item it false).trans hib) ((setL_known x it false).trans hik)
    generalize hf1 : fullV x (setL it true) = f1 at *
    generalize hf2 : fullV x (setL it false) = f2 at *
    have HF1 := Lib.hid hf1
    have HF2 := Lib.hid hf2
    clear hf1 hf2
    obtain ⟨d1, d2⟩ := bd1
    obtain ⟨d3, d4⟩ := bd2
    have hwr : IntKind.i64.wrap (f1 - f2) = f1 - f2 := IntWalk.i64_in _ (by omega)
    have x0 := fun t : After (wz.drew) => (B0.kept t.kept).six.1
    have xl := fun t : After (wz.drew) => (Bl.kept t.kept).three.1
    have xe := fun t : After (wz.drew) => (Be.kept t.kept).three.1
    refine region_after (by kernel_rfl) (by kernel_rfl) ?_
    repeat (go_big_quiet_step ((first | (go_at_call 114; exact after_of (fullBase_is _ _ _ x (setL it true) _ HF1.out (HCO.out.kept (After.kept _)) (HT.out.kept (After.kept _)) hx hib hik)) | (go_at_call 114; exact after_of (fullBase_is _ _ _ x (setL it false) _ HF2.out (HCO.out.kept (After.kept _)) (HF.out.kept (After.kept _)) hx hib hik)))))
    refine wpQuiet_nil ?_
    intro wq hw'
    obtain ⟨⟨_, kq⟩, hw''⟩ := hw'
    subst hw''
    try dsimp only
    clear x0 xl xe
    replace B0 := B0.kept kq
    replace Bl := Bl.kept kq
    replace Be := Be.kept kq
    have Kq2 := Kd1.trans kq
    obtain ⟨x0, y0⟩ := B0.six
    obtain ⟨xl, yl⟩ := Bl.three
    obtain ⟨xe, ye⟩ := Be.three
    go_wp2_with fail
    clear x0 y0 xl yl xe ye
    go_ret2
    exact ⟨by rw [HG.out]; simp only [Int.toNat_natCast, HV.out]; rfl, Kq2⟩
set_option maxHeartbeats 2000000 in
theorem lawLateGain_any {w : World} {v0 : Value} {v1 : Value} (z0 : CodeD) (z1 : List ItemD) (a2 : Int) (h0 : CodeAt w v0 z0) (h1 : ItemsAt w v1 z1) (_ : (Lit.int .i64 a2).wf = true) :
    Calls Try.prog 11 #[v0, v1, .int .i64 a2] w fun e w' => e = .returned (.bool true) ∧ Kept w w' := by
  have H0 := Lib.hid h0
  obtain ⟨n0, m0, rfl, p0, q0⟩ := h0
  obtain ⟨A0, c0, rfl, _⟩ := p0.1.out
  obtain ⟨D0, d0, rfl, _⟩ := q0.out
  clear p0 q0
  have H1 := Lib.hid h1
  clear h1
  go_enter Try.func11, Try.ntmps11
  have K0 := Kept.refl w
  go_wp2_with fail
  obtain ⟨wb1, hwb1⟩ : ∃ w' : World, w' = w.alloc (.cells #[.slice A0 z0.elems.length c0, .slice D0 z0.limits.length d0, .int .i64 z0.repeats, .int .i64 z0.bonus, .int .i64 z0.keeps, .int .i64 z0.fall] 25) := ⟨_, rfl⟩
  rw [← hwb1]
  have KB0 : Kept w wb1 := hwb1 ▸ (Kept.refl w).alloc _
  have B0 : Box wb1 (w.heap.size) 25 #[.slice A0 z0.elems.length c0, .slice D0 z0.limits.length d0, .int .i64 z0.repeats, .int .i64 z0.bonus, .int .i64 z0.keeps, .int .i64 z0.fall] := hwb1 ▸ Box.new w (w.heap.size) 25 #[.slice A0 z0.elems.length c0, .slice D0 z0.limits.length d0, .int .i64 z0.repeats, .int .i64 z0.bonus, .int .i64 z0.keeps, .int .i64 z0.fall] rfl
  have szwb1 : wb1.heap.size = w.heap.size + 1 := by rw [hwb1]; simp
  clear hwb1
  have Kwb1 := K0.trans KB0
  refine (szCode_any _ z0 _ _ (H0.out.kept Kwb1) (by omega) (by omega)).mono ?_
  rintro e w1 ⟨rfl, k1⟩
  replace B0 := B0.kept k1
  have sz1 := k1.size
  have K1 := Kwb1.trans k1
  by_cases hbig0 : ((z0.size : Nat) : Int) ≤ 1048576
  case neg =>
    have e1 : lessOr 1048576 (z0.size) = -1 := by unfold lessOr; exact if_neg (by omega)
    rw [e1]
    go_wp2_with fail
    go_ret
    exact ⟨rfl, K1⟩
  have e1 : lessOr 1048576 (z0.size) = 1048576 - (z0.size : Int) := by unfold lessOr; exact if_pos (by omega)
  rw [e1]
  clear e1
  have hparts0 := code_parts z0
  obtain ⟨x0, y0⟩ := B0.six
  go_wp2_with fail
  clear x0 y0
  refine (szItemS_any _ z1 _ _ (H1.out.kept K1) (by omega) (by omega)).mono ?_
  rintro e w2 ⟨rfl, k2⟩
  replace B0 := B0.kept k2
  have sz2 := k2.size
  have K2 := K1.trans k2
  by_cases hbig1 : ((itemsSize z1 : Nat) : Int) ≤ (1048576 - (z0.size : Int))
  case neg =>
    have e1 : lessOr (1048576 - (z0.size : Int)) (itemsSize z1) = -1 := by unfold lessOr; exact if_neg (by omega)
    rw [e1]
    go_wp2_with fail
    go_ret
    exact ⟨rfl, K2⟩
  have e1 : lessOr (1048576 - (z0.size : Int)) (itemsSize z1) = (1048576 - (z0.size : Int)) - (itemsSize z1 : Int) := by unfold lessOr; exact if_pos (by omega)
  rw [e1]
  clear e1
  obtain ⟨x0, y0⟩ := B0.six
  go_wp2_with fail
  clear x0 y0
  refine (toCode_any _ z0 _ (H0.out.kept K2) (by omega) (by omega)).mono ?_
  rintro e w3 ⟨u3, rfl, o3, k3⟩
  replace B0 := B0.kept k3
  have sz3 := k3.size
  have K3 := K2.trans k3
  have R3 := Lib.hid o3.code
  clear o3
  obtain ⟨x0, y0⟩ := B0.six
  go_wp2_with fail
  clear x0 y0
  refine (toItemS_any _ z1 _ (H1.out.kept K3) (by omega)).mono ?_
  rintro e w4 ⟨u4, S4, rfl, o4, k4⟩
  replace B0 := B0.kept k4
  replace R3 := Lib.hid (R3.out.kept k4)
  have sz4 := k4.size
  have K4 := K3.trans k4
  have R4 := Lib.hid o4.items
  clear o4
  obtain ⟨x0, y0⟩ := B0.six
  go_wp2_with fail
  clear x0 y0
  refine (specLateGain_any _ _ z0 z1 _ _ R3.out R4.out).mono ?_
  rintro e w5 ⟨rfl, k5⟩
  replace B0 := B0.kept k5
  replace R3 := Lib.hid (R3.out.kept k5)
  replace R4 := Lib.hid (R4.out.kept k5)
  have sz5 := k5.size
  have K5 := K4.trans k5
  clear R3
  clear R4
  obtain ⟨x0, y0⟩ := B0.six
  go_wp2_with fail
  clear x0 y0
  refine (toCode_any _ z0 _ (H0.out.kept K5) (by omega) (by omega)).mono ?_
  rintro e w6 ⟨u6, rfl, o6, k6⟩
  replace B0 := B0.kept k6
  have sz6 := k6.size
  have K6 := K5.trans k6
  obtain ⟨n6, m6, rfl, p6, q6, nd6⟩ := o6
  obtain ⟨A6, c6, rfl, _⟩ := own_form p6.1
  obtain ⟨D6, d6, rfl, _⟩ := own_form q6
  have o6 : OwnK w6 _ (.agg #[.slice A6 z0.elems.length c6, .slice D6 z0.limits.length d6, .int .i64 z0.repeats, .int .i64 z0.bonus, .int .i64 z0.keeps, .int .i64 z0.fall]) z0 := ⟨_, _, rfl, p6, q6, nd6⟩
  clear p6 q6 nd6
  have F6 := Lib.hid o6.fps
  have O6 := Lib.hid o6
  clear o6
  obtain ⟨x0, y0⟩ := B0.six
  have l0 := B0.lt
  go_wp2_with fail
  clear x0 y0 l0
  obtain ⟨wb2, hwb2⟩ : ∃ w' : World, w' = w6.alloc (.cells #[.slice A6 z0.elems.length c6, .slice D6 z0.limits.length d6, .int .i64 z0.repeats, .int .i64 z0.bonus, .int .i64 z0.keeps, .int .i64 z0.fall] 32) := ⟨_, rfl⟩
  rw [← hwb2]
  have KB6 : Kept w6 wb2 := hwb2 ▸ (Kept.refl w6).alloc _
  have B6 : Box wb2 (w6.heap.size) 32 #[.slice A6 z0.elems.length c6, .slice D6 z0.limits.length d6, .int .i64 z0.repeats, .int .i64 z0.bonus, .int .i64 z0.keeps, .int .i64 z0.fall] := hwb2 ▸ Box.new w6 (w6.heap.size) 32 #[.slice A6 z0.elems.length c6, .slice D6 z0.limits.length d6, .int .i64 z0.repeats, .int .i64 z0.bonus, .int .i64 z0.keeps, .int .i64 z0.fall] rfl
  have szwb2 : wb2.heap.size = w6.heap.size + 1 := by rw [hwb2]; simp
  clear hwb2
  replace B0 := B0.kept KB6
  replace O6 := Lib.hid (O6.out.kept KB6)
  have Kwb2 := K6.trans KB6
  refine (toItemS_any _ z1 _ (H1.out.kept Kwb2) (by omega)).mono ?_
  rintro e w7 ⟨u7, S7, rfl, o7, k7⟩
  replace B0 := B0.kept k7
  replace B6 := B6.kept k7
  replace O6 := Lib.hid (O6.out.kept k7)
  have sz7 := k7.size
  have K7 := Kwb2.trans k7
  obtain ⟨cs7, oc7, rfl, hF7⟩ := o7.toC
  have O7 := Lib.hid oc7
  have F7 := Lib.hid hF7
  clear o7 oc7 hF7
  obtain ⟨x0, y0⟩ := B0.six
  obtain ⟨x6, y6⟩ := B6.six
  go_wp2_with fail
  clear x0 y0 x6 y6
  refine (implLateGain_any _ _ z0 z1 _ _ O6.out.code O7.out.items).mono ?_
  rintro e w8 ⟨rfl, k8⟩
  replace B0 := B0.kept k8
  replace B6 := B6.kept k8
  replace O6 := Lib.hid (O6.out.kept k8)
  replace O7 := Lib.hid (O7.out.kept k8)
  have sz8 := k8.size
  have K8 := K7.trans k8
  obtain ⟨x0, y0⟩ := B0.six
  obtain ⟨x6, y6⟩ := B6.six
  go_wp2_with fail
  clear x0 y0 x6 y6
  have KDw8 : Kept w8 w8.drew := (Kept.refl _).drew
  replace B0 := B0.kept KDw8
  replace B6 := B6.kept KDw8
  replace O6 := Lib.hid (O6.out.kept KDw8)
  replace O7 := Lib.hid (O7.out.kept KDw8)
  have KKw8 := K8.trans KDw8
  have szdw8 : w8.heap.size ≤ w8.drew.heap.size := KDw8.size
  go_region_held3 (fun w' => (w'.cell? ⟨w.heap.size, 0, none⟩ = some (.slice A0 z0.elems.length c0) ∧ w'.cell? ⟨w.heap.size, 1, none⟩ = some (.slice D0 z0.limits.length d0) ∧ w'.cell? ⟨w.heap.size, 2, none⟩ = some (.int .i64 z0.repeats) ∧ w'.cell? ⟨w.heap.size, 3, none⟩ = some (.int .i64 z0.bonus) ∧ w'.cell? ⟨w.heap.size, 4, none⟩ = some (.int .i64 z0.keeps) ∧ w'.cell? ⟨w.heap.size, 5, none⟩ = some (.int .i64 z0.fall)) ∧ (w'.cell? ⟨w6.heap.size, 0, none⟩ = some (.slice A6 z0.elems.length c6) ∧ w'.cell? ⟨w6.heap.size, 1, none⟩ = some (.slice D6 z0.limits.length d6) ∧ w'.cell? ⟨w6.heap.size, 2, none⟩ = some (.int .i64 z0.repeats) ∧ w'.cell? ⟨w6.heap.size, 3, none⟩ = some (.int .i64 z0.bonus) ∧ w'.cell? ⟨w6.heap.size, 4, none⟩ = some (.int .i64 z0.keeps) ∧ w'.cell? ⟨w6.heap.size, 5, none⟩ = some (.int .i64 z0.fall))) (first | exact ⟨B0.six.1, B6.six.1⟩ | exact ⟨(B0.kept (by assumption)).six.1, (B6.kept (by assumption)).six.1⟩)
    (first | (go_at_call 20; refine (toCode_any _ z0 _ (H0.out.kept KKw8) (by omega) (by omega)).mono ?_; rintro e w9 ⟨u9, rfl, o9, k9⟩) | (go_at_call 23; refine (eqCode_any _ _ z0 _ (O6.out.code.kept k9) o9.code).mono ?_; rintro e w10 ⟨rfl, k10⟩; have kk10 := k9.trans k10))
  clear o9
  replace B0 := B0.kept kk10
  replace B6 := B6.kept kk10
  replace O6 := Lib.hid (O6.out.kept kk10)
  replace O7 := Lib.hid (O7.out.kept kk10)
  have sz10 := kk10.size
  have K10 := KKw8.trans kk10
  obtain ⟨x0, y0⟩ := B0.six
  obtain ⟨x6, y6⟩ := B6.six
  go_wp2_with fail
  clear x0 y0 x6 y6
  refine (toItemS_any _ z1 _ (H1.out.kept K10) (by omega)).mono ?_
  rintro e w11 ⟨u11, S11, rfl, o11, k11⟩
  replace B0 := B0.kept k11
  replace B6 := B6.kept k11
  replace O6 := Lib.hid (O6.out.kept k11)
  replace O7 := Lib.hid (O7.out.kept k11)
  have sz11 := k11.size
  have K11 := K10.trans k11
  have R11 := Lib.hid o11.items
  clear o11
  obtain ⟨x0, y0⟩ := B0.six
  obtain ⟨x6, y6⟩ := B6.six
  go_wp2_with fail
  clear x0 y0 x6 y6
  refine (eqItemS_any _ _ (z1) _ O7.out.items R11.out).mono ?_
  rintro e w12 ⟨rfl, k12⟩
  replace B0 := B0.kept k12
  replace B6 := B6.kept k12
  replace R11 := Lib.hid (R11.out.kept k12)
  replace O6 := Lib.hid (O6.out.kept k12)
  replace O7 := Lib.hid (O7.out.kept k12)
  have sz12 := k12.size
  have K12 := K11.trans k12
  clear R11
  go_wp2_with fail
  go_ret
  exact ⟨rfl, K12⟩
end Go.Proofs.Ythadbgeafcepoaa
