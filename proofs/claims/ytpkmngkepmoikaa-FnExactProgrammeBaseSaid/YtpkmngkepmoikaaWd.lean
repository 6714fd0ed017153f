/- Items over a code: full bases. -/
import Derived.Test.YtpkmngkepmoikaaWc
import Derived.Test.YtpkmngkepmoikaaRd
import Derived.Test.YtpkmngkepmoikaaAp2
import Derived.IntWalk
namespace Go.Proofs.Ytpkmngkepmoikaa
set_option linter.unusedVariables false
set_option linter.unusedSimpArgs false
open Go.RowKit

theorem bsWorth_is (n : Int) (v : Value) (x : CodeD) (s : ByteArray) (m : Int) (w : World) (hn : worthAt x s m = n) (h : CodeAt w v x) (hx : codeB x = true) :
    Calls Try.prog 104 #[v, .string s, .int .i64 m] w fun e w' => e = .returned (.int .i64 n) ∧ Kept w w' := by rw [← hn]; exact bsWorth_any v x s m w h hx
theorem worthOf_is (n : Int) (v v1 : Value) (x : CodeD) (y : ElemD) (m : Int) (w : World) (hn : worthN x.keeps y.base m = n) (h : CodeAt w v x) (h1 : ElemAt w v1 y) (hk : 50 ≤ x.keeps ∧ x.keeps ≤ 100) (hy : 1 ≤ y.base ∧ y.base ≤ 2000) :
    Calls Try.prog 120 #[v, v1, .int .i64 m] w fun e w' => e = .returned (.int .i64 n) ∧ Kept w w' := by rw [← hn]; exact worthOf_any v v1 x y m w h h1 hk hy
theorem wsV_small {x : CodeD} {it : ItemD} (hx : codeB x = true) (hk : knI x it = true) : (wsV x it).all (inB · (-1000000) 1000000) = true := by
  rw [List.all_eq_true]
  intro z hz
  have := wsV_bd hx hk z hz
  exact inB_of (by omega) (by omega)
theorem fullV_late {x : CodeD} {it : ItemD} (h : it.late = true) : fullV x it = lateV (sumV x it) x.bonus := by unfold fullV; rw [if_pos h]
theorem fullV_early {x : CodeD} {it : ItemD} (h : it.late = false) : fullV x it = sumV x it := by unfold fullV; rw [h]; rfl
set_option maxHeartbeats 2000000 in
theorem bsFull_any (v0 v1 : Value) (x : CodeD) (it : ItemD) (w : World) (h0 : CodeAt w v0 x) (h1 : ItemAt w v1 it) (hx : codeB x = true) (hi : itemB it = true) (hk : knI x it = true) :
    Calls Try.prog 81 #[v0, v1] w fun e w' => e = .returned (.int .i64 (fullV x it)) ∧ Kept w w' := by
  have H0 := Lib.hid h0
  obtain ⟨n0, m0, rfl, p0, q0⟩ := h0
  have HE0 := Lib.hid p0; have HI0 := Lib.hid q0
  obtain ⟨A0, c0, rfl, hnc0, hcm0, _⟩ := p0.1.out; obtain ⟨D0, d0, rfl, hnd0, hdm0, _⟩ := q0.out; clear p0 q0; unfold maxLen at hcm0 hdm0
  have H1 := Lib.hid h1
  obtain ⟨n1, m1, rfl, p1, q1⟩ := h1
  have HN1 := Lib.hid p1; have HM1 := Lib.hid q1
  obtain ⟨A1, c1, rfl, hnc1, hcm1, _⟩ := p1.1.out; obtain ⟨D1, d1, rfl, hnd1, hdm1, _⟩ := q1.out; clear p1 q1; unfold maxLen at hcm1 hdm1
  go_enter Try.func81, Try.ntmps81
  have K0 := Kept.refl w
  go_wp2_with fail
  obtain ⟨wb1, hwb1⟩ : ∃ w' : World, w' = w.alloc (.cells #[.slice A0 x.elems.length c0, .slice D0 x.limits.length d0, .int .i64 x.repeats, .int .i64 x.bonus, .int .i64 x.keeps, .int .i64 x.fall] 32) := ⟨_, rfl⟩
  rw [← hwb1]
  have KB0 : Kept w wb1 := hwb1 ▸ (Kept.refl w).alloc _
  have B0 : Box wb1 (w.heap.size) 32 #[.slice A0 x.elems.length c0, .slice D0 x.limits.length d0, .int .i64 x.repeats, .int .i64 x.bonus, .int .i64 x.keeps, .int .i64 x.fall] := hwb1 ▸ Box.new w (w.heap.size) 32 #[.slice A0 x.elems.length c0, .slice D0 x.limits.length d0, .int .i64 x.repeats, .int .i64 x.bonus, .int .i64 x.keeps, .int .i64 x.fall] rfl
  have swb1 : wb1.heap.size = w.heap.size + 1 := by rw [hwb1]; simp
  clear hwb1
  have Kwb1 := K0.trans KB0
  obtain ⟨wb2, hwb2⟩ : ∃ w' : World, w' = wb1.alloc (.cells #[.slice A1 it.names.length c1, .slice D1 it.marks.length d1, .bool it.late] 75) := ⟨_, rfl⟩
  rw [← hwb2]
  have KB1 : Kept wb1 wb2 := hwb2 ▸ (Kept.refl wb1).alloc _
  have B1 : Box wb2 (w.heap.size + 1) 75 #[.slice A1 it.names.length c1, .slice D1 it.marks.length d1, .bool it.late] := hwb2 ▸ Box.new wb1 (w.heap.size + 1) 75 #[.slice A1 it.names.length c1, .slice D1 it.marks.length d1, .bool it.late] (by omega)
  have swb2 : wb2.heap.size = wb1.heap.size + 1 := by rw [hwb2]; simp
  clear hwb2
  replace B0 := B0.kept KB1
  have Kwb2 := Kwb1.trans KB1
  have hno := item_some hi
  obtain ⟨hn1, hn3, hml⟩ := hno
  have HML := Lib.hid hml
  clear hml
  go_loopw [5, 11] (fun s i wr => ∃ j : Nat, j ≤ it.names.length ∧ i = .int .i64 j ∧ s = .int .i64 ((wsV x it).take j).sum ∧ Kept wb2 wr) (fun _ i _ => it.names.length - (intOf i).toNat)
  case atStart => exact ⟨0, Nat.zero_le _, rfl, rfl, Kept.refl _⟩
  case round =>
    obtain ⟨j, hj, rfl, rfl, hkept⟩ := hrel
    replace B0 := B0.kept hkept
    replace B1 := B1.kept hkept
    have szr := hkept.size
    have Kr := Kwb2.trans hkept
    by_cases hlt : j < it.names.length
    · obtain ⟨b1, o1, z, rfl, hb1, hz, hc⟩ := strs_at (HN1.out.kept Kr).1.addr hlt
      have HC := Lib.hid hc
      clear hc
      have hc := HC.out
      have hlt2 : (j : Int) < (it.marks.length : Int) := by rw [HML.out]; omega
      obtain ⟨b2, o2, m, rfl, hb2, hm, hc2⟩ := ints_at (HM1.out.kept Kr).addr (k := j) (by omega)
      obtain ⟨q1, q2⟩ := sum_take_bd hx hi hk j
      obtain ⟨q3, q4⟩ := worthAt_bd m hx (knI_name hk hz)
      have HSN := Lib.hid (wsV_snoc x hz hm)
      clear hz hm
      generalize hS : ((wsV x it).take j).sum = S at *
      generalize hw : worthAt x z m = wv at *
      have HSU : Hid (((wsV x it).take (j + 1)).sum = S + wv) := Lib.hid (by rw [HSN.out, isum_snoc, hS])
      have HW := Lib.hid hw
      clear hS hw HSN
      have hwr : IntKind.i64.wrap (S + wv) = S + wv := IntWalk.i64_in _ (by omega)
      obtain ⟨x0, y0⟩ := B0.six
      obtain ⟨x1, y1⟩ := B1.three
      go_wp2_with fail
      clear x0 y0 x1 y1
      have Kd1_ : Kept wr wr.drew := (Kept.refl _).drew
      replace B0 := B0.kept Kd1_
      replace B1 := B1.kept Kd1_
      have Kd1 := Kr.trans Kd1_
      have y2 := After.cell (W := wr.drew) (((Kept.refl wr).drew.cell (p := ⟨b2, o2 + j, none⟩) hb2).trans hc2) hb2
      have HCO := Lib.hid (H0.out.kept Kd1)
      clear hc hc2
      have x0 := fun t : After (wr.drew) => (B0.kept t.kept).six.1
      have x1 := fun t : After (wr.drew) => (B1.kept t.kept).three.1
      refine region_after (by kernel_rfl) (by kernel_rfl) ?_
      repeat (go_big_quiet_step ((go_at_call 104; exact after_of (bsWorth_is _ _ x z m _ HW.out (HCO.out.kept (After.kept _)) hx))))
      refine wpQuiet_nil ?_
      intro wq hw'
      obtain ⟨⟨_, kq⟩, hw''⟩ := hw'
      subst hw''
      try dsimp only
      clear x0 x1
      replace B0 := B0.kept kq
      replace B1 := B1.kept kq
      have Kq2 := Kd1.trans kq
      clear y2 hwr
      obtain ⟨x0, y0⟩ := B0.six
      obtain ⟨x1, y1⟩ := B1.three
      go_wp2_with fail
      clear x0 y0 x1 y1
      go_roundw
      case rel => exact ⟨j + 1, by omega, by go_num, by rw [HSU.out], (hkept.drew).trans kq⟩
      case measure => simp [intOf]; omega
    · obtain rfl : j = it.names.length := by omega
      have HS0 : Hid (((wsV x it).take it.names.length).sum = sumV x it) := Lib.hid (by rw [← wsV_length x HML.out, List.take_length]; rfl)
      rw [HS0.out]
      generalize hS : sumV x it = S at *
      have HS := Lib.hid hS
      clear hS HS0
      have hS := HS.out ▸ sumV_bd hx hi hk
      obtain ⟨hS1, hS2⟩ := hS
      obtain ⟨hb1, hb2⟩ := (codeB_rests hx).2.1
      obtain ⟨hp1, hp2⟩ := late_mul hS1 hS2 hb1 hb2
      by_cases hl : it.late = true
      · have HV : Hid (fullV x it = lateV S x.bonus) := Lib.hid (by rw [fullV_late hl, HS.out])
        obtain ⟨x0, y0⟩ := B0.six
        obtain ⟨x1, y1⟩ := B1.three
        go_wp2_with fail
        clear x0 y0 x1 y1
        refine (poRound_any _ _ _ (by omega) (by omega) (by omega) (by omega)).mono ?_
        rintro e w' ⟨rfl, rfl⟩
        obtain ⟨x0, y0⟩ := B0.six
        obtain ⟨x1, y1⟩ := B1.three
        go_wp2_with fail
        clear x0 y0 x1 y1
        go_ret
        exact ⟨ret_int (by rw [HV.out]; rfl), Kr⟩
      · simp only [Bool.not_eq_true] at hl
        have HV : Hid (fullV x it = S) := Lib.hid (by rw [fullV_early hl, HS.out])
        obtain ⟨x0, y0⟩ := B0.six
        obtain ⟨x1, y1⟩ := B1.three
        go_wp2_with fail
        clear x0 y0 x1 y1
        go_ret
        exact ⟨ret_int HV.out.symm, Kr⟩
/-- the row [z] just built -/
theorem ints_new (w : World) (z : Int) : Ints (w.alloc (.cells #[.int .i64 z] 3)) (.slice (some ⟨w.heap.size, 0, none⟩) 1 1) [z] := by
  refine ⟨_, 1, rfl, Nat.le_refl _, by decide, (fun h => by cases h), fun _ => ⟨w.heap.size, 0, rfl, by simp, fun j u hu => ?_⟩⟩
  rcases j with _ | j
  · simp at hu
    subst hu
    exact (Box.new w _ _ _ rfl).cell 0
  · simp at hu
set_option maxRecDepth 100000 in
set_option maxHeartbeats 4000000 in
theorem worths_any (v0 v1 : Value) (x : CodeD) (it : ItemD) (w : World) (h0 : CodeAt w v0 x) (h1 : ItemAt w v1 it) (hx : codeB x = true) (hi : itemB it = true) (hk : knI x it = true) :
    Calls Try.prog 106 #[v0, v1] w fun e w' => ∃ v', e = .returned v' ∧ OwnI w' w.heap.size v' (wsV x it) ∧ Kept w w' := by
  have H0 := Lib.hid h0
  obtain ⟨n0, m0, rfl, p0, q0⟩ := h0
  have HE0 := Lib.hid p0; have HI0 := Lib.hid q0
  obtain ⟨A0, c0, rfl, hnc0, hcm0, _⟩ := p0.1.out; obtain ⟨D0, d0, rfl, hnd0, hdm0, _⟩ := q0.out; clear p0 q0; unfold maxLen at hcm0 hdm0
  have H1 := Lib.hid h1
  obtain ⟨n1, m1, rfl, p1, q1⟩ := h1
  have HN1 := Lib.hid p1; have HM1 := Lib.hid q1
  obtain ⟨A1, c1, rfl, hnc1, hcm1, _⟩ := p1.1.out; obtain ⟨D1, d1, rfl, hnd1, hdm1, _⟩ := q1.out; clear p1 q1; unfold maxLen at hcm1 hdm1
  go_enter Try.func106, Try.ntmps106
  have K0 := Kept.refl w
  go_wp2_with fail
  obtain ⟨wb1, hwb1⟩ : ∃ w' : World, w' = w.alloc (.cells #[.slice A0 x.elems.length c0, .slice D0 x.limits.length d0, .int .i64 x.repeats, .int .i64 x.bonus, .int .i64 x.keeps, .int .i64 x.fall] 32) := ⟨_, rfl⟩
  rw [← hwb1]
  have KB0 : Kept w wb1 := hwb1 ▸ (Kept.refl w).alloc _
  have B0 : Box wb1 (w.heap.size) 32 #[.slice A0 x.elems.length c0, .slice D0 x.limits.length d0, .int .i64 x.repeats, .int .i64 x.bonus, .int .i64 x.keeps, .int .i64 x.fall] := hwb1 ▸ Box.new w (w.heap.size) 32 #[.slice A0 x.elems.length c0, .slice D0 x.limits.length d0, .int .i64 x.repeats, .int .i64 x.bonus, .int .i64 x.keeps, .int .i64 x.fall] rfl
  have swb1 : wb1.heap.size = w.heap.size + 1 := by rw [hwb1]; simp
  clear hwb1
  have Kwb1 := K0.trans KB0
  obtain ⟨wb2, hwb2⟩ : ∃ w' : World, w' = wb1.alloc (.cells #[.slice A1 it.names.length c1, .slice D1 it.marks.length d1, .bool it.late] 75) := ⟨_, rfl⟩
  rw [← hwb2]
  have KB1 : Kept wb1 wb2 := hwb2 ▸ (Kept.refl wb1).alloc _
  have B1 : Box wb2 (w.heap.size + 1) 75 #[.slice A1 it.names.length c1, .slice D1 it.marks.length d1, .bool it.late] := hwb2 ▸ Box.new wb1 (w.heap.size + 1) 75 #[.slice A1 it.names.length c1, .slice D1 it.marks.length d1, .bool it.late] (by omega)
  have swb2 : wb2.heap.size = wb1.heap.size + 1 := by rw [hwb2]; simp
  clear hwb2
  replace B0 := B0.kept KB1
  have Kwb2 := Kwb1.trans KB1
  have hno := item_some hi
  obtain ⟨hn1, hn3, hml⟩ := hno
  have HML := Lib.hid hml
  clear hml
  obtain ⟨w0, hw0⟩ : ∃ w' : World, w' = wb2.alloc (.cells #[] 3) := ⟨_, rfl⟩
  rw [← hw0]
  have KE : Kept wb2 w0 := hw0 ▸ (Kept.refl wb2).alloc _
  have HO0 : Hid (OwnI w0 wb2.heap.size (.slice (some ⟨w.heap.size + 1 + 1, 0, none⟩) 0 0) []) := Lib.hid (own_made _ _ 1 (by omega) (hw0 ▸ Box.new wb2 _ _ _ (by omega)))
  clear hw0
  have B0s := B0
  have B1s := B1
  go_loopw [5, 12] (fun q i wr => ∃ j : Nat, j ≤ it.names.length ∧ i = .int .i64 j ∧ OwnI wr wb2.heap.size q ((wsV x it).take j) ∧ Kept wb2 wr) (fun _ i _ => it.names.length - (intOf i).toNat)
  case atStart => exact ⟨0, Nat.zero_le _, rfl, HO0.out, KE⟩
  case round =>
    obtain ⟨j, hj, rfl, ho, hkept⟩ := hrel
    have HO := Lib.hid ho
    clear ho HO0
    replace B0 := B0.kept hkept
    replace B1 := B1.kept hkept
    have szr := hkept.size
    have Kr := Kwb2.trans hkept
    by_cases hlt : j < it.names.length
    · obtain ⟨b1, o1, z, rfl, hb1, hz, hc⟩ := strs_at (HN1.out.kept Kwb2).1.addr hlt
      have hlt2 : (j : Int) < (it.marks.length : Int) := by rw [HML.out]; omega
      obtain ⟨b2, o2, m, rfl, hb2, hm, hc2⟩ := ints_at (HM1.out.kept Kwb2).addr (k := j) (by omega)
      obtain ⟨k, y, hf, hy⟩ := knS_at (knI_name hk hz)
      have hlt3 : k < x.elems.length := (List.getElem?_eq_some_iff.1 hy).1
      obtain ⟨b3, o3, y', rfl, hb3, h2, q0, q1, q2, q3⟩ := elems_at (HE0.out.kept Kwb2).1.addr hlt3
      rw [hy] at h2; injection h2 with h2; subst h2
      have hlt4 : (k : Int) < (x.elems.length : Int) := by omega
      have hys := HE0.out.2 y (List.mem_of_getElem? hy)
      have HY := Lib.hid (elemB_parts (codeB_elem hx hy)).2.2
      have HKP := Lib.hid (codeB_rests hx).2.2.1
      have HSN := Lib.hid (wsV_snoc x hz hm)
      have HWN := Lib.hid (worthAt_hit m hf hy)
      have HW : Hid (worthN x.keeps y.base m = worthAt x z m) := Lib.hid (worthAt_hit m hf hy).symm
      generalize worthAt x z m = wv at *
      have HFI := Lib.hid hf
      clear hf hy hz hm HWN
      have htl : ((wsV x it).take j).length ≤ 3 := by rw [List.length_take]; omega
      have hcr := (hkept.cell (p := ⟨b1, o1 + j, none⟩) hb1).trans hc
      obtain ⟨x0, y0⟩ := B0.six
      obtain ⟨x1, y1⟩ := B1.three
      go_wp2_with fail
      clear x0 y0 x1 y1
      have Kd1_ : Kept wr wr.drew := (Kept.refl _).drew
      replace B0 := B0.kept Kd1_
      replace B1 := B1.kept Kd1_
      have Kd1 := Kr.trans Kd1_
      have KW : Kept wb2 wr.drew := hkept.drew
      clear hcr
      have HCO := Lib.hid (H0.out.kept Kd1)
      have HSK : Hid (∀ w' : World, Kept wb2 w' → (w'.cell? ⟨w.heap.size, 0, none⟩ = some (.slice (some ⟨b3, o3, none⟩) x.elems.length c0) ∧ w'.cell? ⟨w.heap.size, 1, none⟩ = some (.slice D0 x.limits.length d0) ∧ w'.cell? ⟨w.heap.size, 2, none⟩ = some (.int .i64 x.repeats) ∧ w'.cell? ⟨w.heap.size, 3, none⟩ = some (.int .i64 x.bonus) ∧ w'.cell? ⟨w.heap.size, 4, none⟩ = some (.int .i64 x.keeps) ∧ w'.cell? ⟨w.heap.size, 5, none⟩ = some (.int .i64 x.fall)) ∧ (w'.cell? ⟨w.heap.size + 1, 0, none⟩ = some (.slice (some ⟨b1, o1, none⟩) it.names.length c1) ∧ w'.cell? ⟨w.heap.size + 1, 1, none⟩ = some (.slice (some ⟨b2, o2, none⟩) it.marks.length d1) ∧ w'.cell? ⟨w.heap.size + 1, 2, none⟩ = some (.bool it.late)) ∧ w'.cell? ⟨b2, o2 + j, none⟩ = some (.int .i64 m) ∧ (w'.cell? ⟨b3, o3 + k * 4, none⟩ = some (.string y.name) ∧ w'.cell? ⟨b3, o3 + k * 4 + 1, none⟩ = some (.int .i64 y.family) ∧ w'.cell? ⟨b3, o3 + k * 4 + 2, none⟩ = some (.int .i64 y.level) ∧ w'.cell? ⟨b3, o3 + k * 4 + 3, none⟩ = some (.int .i64 y.base))) := Lib.hid (fun w' hk => ⟨(B0s.kept hk).six.1, (B1s.kept hk).three.1, (hk.cell hb2).trans hc2, (hk.cell hb3).trans q0, (hk.cell hb3).trans q1, (hk.cell hb3).trans q2, (hk.cell hb3).trans q3⟩)
      clear hc hc2 q0 q1 q2 q3
      go_region_held3 (fun w' => (w'.cell? ⟨w.heap.size, 0, none⟩ = some (.slice (some ⟨b3, o3, none⟩) x.elems.length c0) ∧ w'.cell? ⟨w.heap.size, 1, none⟩ = some (.slice D0 x.limits.length d0) ∧ w'.cell? ⟨w.heap.size, 2, none⟩ = some (.int .i64 x.repeats) ∧ w'.cell? ⟨w.heap.size, 3, none⟩ = some (.int .i64 x.bonus) ∧ w'.cell? ⟨w.heap.size, 4, none⟩ = some (.int .i64 x.keeps) ∧ w'.cell? ⟨w.heap.size, 5, none⟩ = some (.int .i64 x.fall)) ∧ (w'.cell? ⟨w.heap.size + 1, 0, none⟩ = some (.slice (some ⟨b1, o1, none⟩) it.names.length c1) ∧ w'.cell? ⟨w.heap.size + 1, 1, none⟩ = some (.slice (some ⟨b2, o2, none⟩) it.marks.length d1) ∧ w'.cell? ⟨w.heap.size + 1, 2, none⟩ = some (.bool it.late)) ∧ w'.cell? ⟨b2, o2 + j, none⟩ = some (.int .i64 m) ∧ (w'.cell? ⟨b3, o3 + k * 4, none⟩ = some (.string y.name) ∧ w'.cell? ⟨b3, o3 + k * 4 + 1, none⟩ = some (.int .i64 y.family) ∧ w'.cell? ⟨b3, o3 + k * 4 + 2, none⟩ = some (.int .i64 y.level) ∧ w'.cell? ⟨b3, o3 + k * 4 + 3, none⟩ = some (.int .i64 y.base))) (first | (with_reducible exact HSK.out _ (by assumption)) | (with_reducible exact HSK.out _ (Kept.alloc (by assumption) _))) (first | (go_at_call 111; refine (findElement_is _ _ x z _ HFI.out (HCO.out)).mono ?_; rintro e w1 ⟨rfl, k1⟩; have KW1 := KW.trans k1) | (go_at_call 120; refine (worthOf_is _ _ _ x y m _ HW.out (HCO.out.kept k1) (ElemAt.mk y _ hys) HKP.out HY.out).mono ?_; rintro e w2 ⟨rfl, k2⟩; have k12 := k1.trans k2; have KW2 := KW1.trans k2) | (refine step_append_I _ rfl (.tmp 17) (.tmp 32) rfl wb2.heap.size _ ((wsV x it).take j) rfl ((HO.out.kept ((Kept.refl wr).drew.trans k12)).kept ((Kept.refl _).alloc _)) _ [wv] rfl (ints_new w2 wv) (by simp; omega) (by have := KW2.size; simp; omega) ?_; intro v3 w3 o3 g3; have kg : Kept wb2 w3 := (KW2.alloc (.cells #[.int .i64 wv] 3)).grew ((HO.out.kept ((Kept.refl wr).drew.trans k12)).kept ((Kept.refl _).alloc _)) g3 (Nat.le_refl _)))
      rename_i hheld
      clear hheld
      have HO3 := Lib.hid o3
      clear o3 g3
      go_wp2_with fail
      go_roundw
      case rel => exact ⟨j + 1, by omega, by go_num, by rw [HSN.out]; exact HO3.out, kg⟩
      case measure => simp [intOf]; omega
    · obtain rfl : j = it.names.length := by omega
      have HS0 : Hid ((wsV x it).take it.names.length = wsV x it) := Lib.hid (by rw [← wsV_length x HML.out, List.take_length])
      obtain ⟨x0, y0⟩ := B0.six
      obtain ⟨x1, y1⟩ := B1.three
      go_wp2_with fail
      clear x0 y0 x1 y1
      go_ret
      exact ⟨_, rfl, (HS0.out ▸ HO.out : OwnI wr wb2.heap.size _ (wsV x it)).base Kwb2.size, Kr⟩
set_option maxHeartbeats 2000000 in
theorem fullBase_any (v0 v1 : Value) (x : CodeD) (it : ItemD) (w : World) (h0 : CodeAt w v0 x) (h1 : ItemAt w v1 it) (hx : codeB x = true) (hi : itemB it = true) (hk : knI x it = true) :
    Calls Try.prog 85 #[v0, v1] w fun e w' => e = .returned (.int .i64 (fullV x it)) ∧ Kept w w' := by
  have H0 := Lib.hid h0
  obtain ⟨n0, m0, rfl, p0, q0⟩ := h0
  have HE0 := Lib.hid p0; have HI0 := Lib.hid q0
  obtain ⟨A0, c0, rfl, hnc0, hcm0, _⟩ := p0.1.out; obtain ⟨D0, d0, rfl, hnd0, hdm0, _⟩ := q0.out; clear p0 q0; unfold maxLen at hcm0 hdm0
  have H1 := Lib.hid h1
  obtain ⟨n1, m1, rfl, p1, q1⟩ := h1
  have HN1 := Lib.hid p1; have HM1 := Lib.hid q1
  obtain ⟨A1, c1, rfl, hnc1, hcm1, _⟩ := p1.1.out; obtain ⟨D1, d1, rfl, hnd1, hdm1, _⟩ := q1.out; clear p1 q1; unfold maxLen at hcm1 hdm1
  go_enter Try.func85, Try.ntmps85
  have K0 := Kept.refl w
  go_wp2_with fail
  obtain ⟨wb1, hwb1⟩ : ∃ w' : World, w' = w.alloc (.cells #[.slice A0 x.elems.length c0, .slice D0 x.limits.length d0, .int .i64 x.repeats, .int .i64 x.bonus, .int .i64 x.keeps, .int .i64 x.fall] 32) := ⟨_, rfl⟩
  rw [← hwb1]
  have KB0 : Kept w wb1 := hwb1 ▸ (Kept.refl w).alloc _
  have B0 : Box wb1 (w.heap.size) 32 #[.slice A0 x.elems.length c0, .slice D0 x.limits.length d0, .int .i64 x.repeats, .int .i64 x.bonus, .int .i64 x.keeps, .int .i64 x.fall] := hwb1 ▸ Box.new w (w.heap.size) 32 #[.slice A0 x.elems.length c0, .slice D0 x.limits.length d0, .int .i64 x.repeats, .int .i64 x.bonus, .int .i64 x.keeps, .int .i64 x.fall] rfl
  have swb1 : wb1.heap.size = w.heap.size + 1 := by rw [hwb1]; simp
  clear hwb1
  have Kwb1 := K0.trans KB0
  obtain ⟨wb2, hwb2⟩ : ∃ w' : World, w' = wb1.alloc (.cells #[.slice A1 it.names.length c1, .slice D1 it.marks.length d1, .bool it.late] 75) := ⟨_, rfl⟩
  rw [← hwb2]
  have KB1 : Kept wb1 wb2 := hwb2 ▸ (Kept.refl wb1).alloc _
  have B1 : Box wb2 (w.heap.size + 1) 75 #[.slice A1 it.names.length c1, .slice D1 it.marks.length d1, .bool it.late] := hwb2 ▸ Box.new wb1 (w.heap.size + 1) 75 #[.slice A1 it.names.length c1, .slice D1 it.marks.length d1, .bool it.late] (by omega)
  have swb2 : wb2.heap.size = wb1.heap.size + 1 := by rw [hwb2]; simp
  clear hwb2
  replace B0 := B0.kept KB1
  have Kwb2 := Kwb1.trans KB1
  refine (worths_any _ _ x it _ (H0.out.kept Kwb2) (H1.out.kept Kwb2) hx hi hk).mono ?_
  rintro e w1 ⟨v1, rfl, o1, k1⟩
  replace B0 := B0.kept k1
  replace B1 := B1.kept k1
  have sz1 := k1.size
  have K1 := Kwb2.trans k1
  have hno := item_some hi
  obtain ⟨hn1, hn3, hml⟩ := hno
  have hwl := wsV_length x hml
  have HO := Lib.hid o1.ints
  have HSM := Lib.hid (wsV_small hx hk)
  clear o1 hml
  obtain ⟨x0, y0⟩ := B0.six
  obtain ⟨x1, y1⟩ := B1.three
  go_wp2_with fail
  clear x0 y0 x1 y1
  refine (sumInts_any _ (wsV x it) _ HO.out (by omega) HSM.out).mono ?_
  rintro e w' ⟨rfl, rfl⟩
  clear hwl
  have HS0 : Hid ((wsV x it).sum = sumV x it) := Lib.hid rfl
  rw [HS0.out]
  generalize hS : sumV x it = S at *
  have HS := Lib.hid hS
  clear hS HS0
  have hS := HS.out ▸ sumV_bd hx hi hk
  obtain ⟨hS1, hS2⟩ := hS
  obtain ⟨hb1, hb2⟩ := (codeB_rests hx).2.1
  obtain ⟨hp1, hp2⟩ := late_mul hS1 hS2 hb1 hb2
  by_cases hl : it.late = true
  · have HV : Hid (fullV x it = lateV S x.bonus) := Lib.hid (by rw [fullV_late hl, HS.out])
    obtain ⟨x0, y0⟩ := B0.six
    obtain ⟨x1, y1⟩ := B1.three
    go_wp2_with fail
    clear x0 y0 x1 y1
    refine (roundDiv_any _ _ _ (by omega) (by omega) (by omega) (by omega)).mono ?_
    rintro e w' ⟨rfl, rfl⟩
    obtain ⟨x0, y0⟩ := B0.six
    obtain ⟨x1, y1⟩ := B1.three
    go_wp2_with fail
    clear x0 y0 x1 y1
    go_ret
    exact ⟨ret_int (by rw [HV.out]; rfl), K1⟩
  · simp only [Bool.not_eq_true] at hl
    have HV : Hid (fullV x it = S) := Lib.hid (by rw [fullV_early hl, HS.out])
    obtain ⟨x0, y0⟩ := B0.six
    obtain ⟨x1, y1⟩ := B1.three
    go_wp2_with fail
    clear x0 y0 x1 y1
    go_ret
    exact ⟨ret_int HV.out.symm, K1⟩
end Go.Proofs.Ytpkmngkepmoikaa
