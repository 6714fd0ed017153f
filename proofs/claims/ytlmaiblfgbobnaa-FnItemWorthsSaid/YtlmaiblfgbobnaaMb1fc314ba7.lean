/- Contracts of functions that the proof leans on. No condition. -/
import Derived.Test.YtlmaiblfgbobnaaM1f10ce67f5
import Derived.IntWalk
/- Items over a code: full bases. -/
namespace Go.Proofs.Ytlmaiblfgbobnaa
set_option linter.unusedVariables false
set_option linter.unusedSimpArgs false
open Go.RowKit

theorem bsWorth_is (n : Int) (v : Value) (x : CodeD) (s : ByteArray) (m : Int) (w : World) (hn : worthAt x s m = n) (h : CodeAt w v x) (hx : codeB x = true) :
    Calls Try.prog 89 #[v, .string s, .int .i64 m] w fun e w' => e = .returned (.int .i64 n) ∧ Kept w w' := by rw [← hn]; exact bsWorth_any v x s m w h hx
theorem worthOf_is (n : Int) (v v1 : Value) (x : CodeD) (y : ElemD) (m : Int) (w : World) (hn : worthN x.keeps y.base m = n) (h : CodeAt w v x) (h1 : ElemAt w v1 y) (hk : 50 ≤ x.keeps ∧ x.keeps ≤ 100) (hy : 1 ≤ y.base ∧ y.base ≤ 2000) :
    Calls Try.prog 70 #[v, v1, .int .i64 m] w fun e w' => e = .returned (.int .i64 n) ∧ Kept w w' := by rw [← hn]; exact worthOf_any v v1 x y m w h h1 hk hy
theorem wsV_small {x : CodeD} {it : ItemD} (hx : codeB x = true) (hk : knI x it = true) : (wsV x it).all (inB · (-1000000) 1000000) = true := by
  rw [List.all_eq_true]
  intro z hz
  have := wsV_bd hx hk z hz
  exact inB_of (by omega) (by omega)
theorem fullV_late {x : CodeD} {it : ItemD} (h : it.late = true) : fullV x it = lateV (sumV x it) x.bonus := by unfold fullV; rw [if_pos h]
theorem fullV_early {x : CodeD} {it : ItemD} (h : it.late = false) : fullV x it = sumV x it := by unfold fullV; rw [h]; rfl
set_option maxHeartbeats 2000000 in
theorem bsFull_any (v0 v1 : Value) (x : CodeD) (it : ItemD) (w : World) (h0 : CodeAt w v0 x) (h1 : ItemAt w v1 it) (hx : codeB x = true) (hi : itemB it = true) (hk : knI x it = true) :
    Calls Try.prog 63 #[v0, v1] w fun e w' => e = .returned (.int .i64 (fullV x it)) ∧ Kept w w' := by
  have H0 := Lib.hid h0
  obtain ⟨n0, m0, rfl, p0, q0⟩ := h0
  have HE0 := Lib.hid p0; have HI0 := Lib.hid q0
  obtain ⟨A0, c0, rfl, hnc0, hcm0, _⟩ := p0.1.out; obtain ⟨D0, d0, rfl, hnd0, hdm0, _⟩ := q0.out; clear p0 q0; unfold maxLen at hcm0 hdm0
  have H1 := Lib.hid h1
  obtain ⟨n1, m1, rfl, p1, q1⟩ := h1
  have HN1 := Lib.hid p1; have HM1 := Lib.hid q1
  obtain ⟨A1, c1, rfl, hnc1, hcm1, _⟩ := p1.1.out; obtain ⟨D1, d1, rfl, hnd1, hdm1, _⟩ := q1.out; clear p1 q1; unfold maxLen at hcm1 hdm1
  go_enter Try.func63, Try.ntmps63
  have K0 := Kept.refl w
  go_wp2_with fail
  obtain ⟨wb1, hwb1⟩ : ∃ w' : World, w' = w.alloc (.cells #[.slice A0 x.elems.length c0, .slice D0 x.limits.length d0, .int .i64 x.repeats, .int .i64 x.bonus, .int .i64 x.keeps, .int .i64 x.fall] 26) := ⟨_, rfl⟩
  rw [← hwb1]
  have KB0 : Kept w wb1 := hwb1 ▸ (Kept.refl w).alloc _
  have B0 : Box wb1 (w.heap.size) 26 #[.slice A0 x.elems.length c0, .slice D0 x.limits.length d0, .int .i64 x.repeats, .int .i64 x.bonus, .int .i64 x.keeps, .int .i64 x.fall] := hwb1 ▸ Box.new w (w.heap.size) 26 #[.slice A0 x.elems.length c0, .slice D0 x.limits.length d0, .int .i64 x.repeats, .int .i64 x.bonus, .int .i64 x.keeps, .int .i64 x.fall] rfl
  have swb1 : wb1.heap.size = w.heap.size + 1 := by rw [hwb1]; simp
  clear hwb1
  have Kwb1 := K0.trans KB0
  obtain ⟨wb2, hwb2⟩ : ∃ w' : World, w' = wb1.alloc (.cells #[.slice A1 it.names.length c1, .slice D1 it.marks.length d1, .bool it.late] 52) := ⟨_, rfl⟩
  rw [← hwb2]
  have KB1 : Kept wb1 wb2 := hwb2 ▸ (Kept.refl wb1).alloc _
  have B1 : Box wb2 (w.heap.size + 1) 52 #[.slice A1 it.names.length c1, .slice D1 it.marks.length d1, .bool it.late] := hwb2 ▸ Box.new wb1 (w.heap.size + 1) 52 #[.slice A1 it.names.length c1, .slice D1 it.marks.length d1, .bool it.late] (by omega)
  have swb2 : wb2.heap.size = wb1.heap.size + 1 := by rw [hwb2]; simp
  clear hwb2
  replace B0 := B0.kept KB1
  have Kwb2 := Kwb1.trans KB1
  have hno := item_some hi
  obtain ⟨hn1, hn3, hml⟩ := hno
  have HML := Lib.hid hml
  clear hml
  go_loopw [5, 11] (fun s i wr => ∃ j : Nat, j ≤ it.names.length ∧ i = .int .i64 j ∧ s = .int .i64 ((wsV x it).take j).sum ∧ Kept wb2 wr) (fun _ i _ => it.names.length - (intOf i).toNat)
  case atStart => exact ⟨0, Nat.zero_le _, rfl, rfl, Kept.refl _⟩
  case round =>
    obtain ⟨j, hj, rfl, rfl, hkept⟩ := hrel
    replace B0 := B0.kept hkept
    replace B1 := B1.kept hkept
    have szr := hkept.size
    have Kr := Kwb2.trans hkept
    by_cases hlt : j < it.names.length
    · obtain ⟨b1, o1, z, rfl, hb1, hz, hc⟩ := strs_at (HN1.out.kept Kr).1.addr hlt
      have HC := Lib.hid hc
      clear hc
      have hc := HC.out
      have hlt2 : (j : Int) < (it.marks.length : Int) := by rw [HML.out]; omega
      obtain ⟨b2, o2, m, rfl, hb2, hm, hc2⟩ := ints_at (HM1.out.kept Kr).addr (k := j) (by omega)
      obtain ⟨q1, q2⟩ := sum_take_bd hx hi hk j
      obtain ⟨q3, q4⟩ := worthAt_bd m hx (knI_name hk hz)
      have HSN := Lib.hid (wsV_snoc x hz hm)
      clear hz hm
      generalize hS : ((wsV x it).take j).sum = S at *
      generalize hw : worthAt x z m = wv at *
      have HSU : Hid (((wsV x it).take (j + 1)).sum = S + wv) := Lib.hid (by rw [HSN.out, isum_snoc, hS])
      have HW := Lib.hid hw
      clear hS hw HSN
      have hwr : IntKind.i64.wrap (S + wv) = S + wv := IntWalk.i64_in _ (by omega)
      obtain ⟨x0, y0⟩ := B0.six
      obtain ⟨x1, y1⟩ := B1.three
      go_wp2_with fail
      clear x0 y0 x1 y1
      have Kd1_ : Kept wr wr.drew := (Kept.refl _).drew
      replace B0 := B0.kept Kd1_
      replace B1 := B1.kept Kd1_
      have Kd1 := Kr.trans Kd1_
      have y2 := After.cell (W := wr.drew) (((Kept.refl wr).drew.cell (p := ⟨b2, o2 + j, none⟩) hb2).trans hc2) hb2
      have HCO := Lib.hid (H0.out.kept Kd1)
      clear hc hc2
      have x0 := fun t : After (wr.drew) => (B0.kept t.kept).six.1
      have x1 := fun t : After (wr.drew) => (B1.kept t.kept).three.1
      refine region_after (by kernel_rfl) (by kernel_rfl) ?_
      repeat (go_big_quiet_step ((go_at_call 89; exact after_of (bsWorth_is _ _ x z m _ HW.out (HCO.out.kept (After.kept _)) hx))))
      refine wpQuiet_nil ?_
      intro wq hw'
      obtain ⟨⟨_, kq⟩, hw''⟩ := hw'
      subst hw''
      try dsimp only
      clear x0 x1
      replace B0 := B0.kept kq
      replace B1 := B1.kept kq
      have Kq2 := Kd1.trans kq
      clear y2 hwr
      obtain ⟨x0, y0⟩ := B0.six
      obtain ⟨x1, y1⟩ := B1.three
      go_wp2_with fail
      clear x0 y0 x1 y1
      go_roundw
      case rel => exact ⟨j + 1, by omega, by go_num, by rw [HSU.out], (hkept.drew).trans kq⟩
      case measure => simp [intOf]; omega
    · obtain rfl : j = it.names.length := by omega
      have HS0 : Hid (((wsV x it).take it.names.length).sum = sumV x it) := Lib.hid (by rw [← wsV_length x HML.out, List.take_length]; rfl)
      rw [HS0.out]
      generalize hS : sumV x it = S at *
      have HS := Lib.hid hS
      clear hS HS0
      have hS := HS.out ▸ sumV_bd hx hi hk
      obtain ⟨hS1, hS2⟩ := hS
      obtain ⟨hb1, hb2⟩ := (codeB_rests hx).2.1
      obtain ⟨hp1, hp2⟩ := late_mul hS1 hS2 hb1 hb2
      by_cases hl : it.late = true
      · have HV : Hid (fullV x it = lateV S x.bonus) := Lib.hid (by rw [fullV_late hl, HS.out])
        obtain ⟨x0, y0⟩ := B0.six
        obtain ⟨x1, y1⟩ := B1.three
        go_wp2_with fail
        clear x0 y0 x1 y1
        refine (poRound_any _ _ _ (by omega) (by omega) (by omega) (by omega)).mono ?_
        rintro e w' ⟨rfl, rfl⟩
        obtain ⟨x0, y0⟩ := B0.six
        obtain ⟨x1, y1⟩ := B1.three
        go_wp2_with fail
        clear x0 y0 x1 y1
        go_ret
        exact ⟨ret_int (by rw [HV.out]; rfl), Kr⟩
      · simp only [Bool.not_eq_true] at hl
        have HV : Hid (fullV x it = S) := Lib.hid (by rw [fullV_early hl, HS.out])
        obtain ⟨x0, y0⟩ := B0.six
        obtain ⟨x1, y1⟩ := B1.three
        go_wp2_with fail
        clear x0 y0 x1 y1
        go_ret
        exact ⟨ret_int HV.out.symm, Kr⟩
/-- the row [z] just built -/
theorem ints_new (w : World) (z : Int) : Ints (w.alloc (.cells #[.int .i64 z] 3)) (.slice (some ⟨w.heap.size, 0, none⟩) 1 1) [z] := by
  refine ⟨_, 1, rfl, Nat.le_refl _, by decide, (fun h => by cases h), fun _ => ⟨w.heap.size, 0, rfl, by simp, fun j u hu => ?_⟩⟩
  rcases j with _ | j
  · simp at hu
    subst hu
    exact (Box.new w _ _ _ rfl).cell 0
  · simp at hu
set_option maxRecDepth 100000 in
set_option maxHeartbeats 4000000 in
theorem worths_any (v0 v1 : Value) (x : CodeD) (it : ItemD) (w : World) (h0 : CodeAt w v0 x) (h1 : ItemAt w v1 it) (hx : codeB x = true) (hi : itemB it = true) (hk : knI x it = true) :
    Calls Try.prog 87 #[v0, v1] w fun e w' => ∃ v', e = .returned v' ∧ OwnI w' w.heap.size v' (wsV x it) ∧ Kept w w' := by
  have H0 := Lib.hid h0
  obtain ⟨n0, m0, rfl, p0, q0⟩ := h0
  have HE0 := Lib.hid p0; have HI0 := Lib.hid q0
  obtain ⟨A0, c0, rfl, hnc0, hcm0, _⟩ := p0.1.out; obtain ⟨D0, d0, rfl, hnd0, hdm0, _⟩ := q0.out; clear p0 q0; unfold maxLen at hcm0 hdm0
  have H1 := Lib.hid h1
  obtain ⟨n1, m1, rfl, p1, q1⟩ := h1
  have HN1 := Lib.hid p1; have HM1 := Lib.hid q1
  obtain ⟨A1, c1, rfl, hnc1, hcm1, _⟩ := p1.1.out; obtain ⟨D1, d1, rfl, hnd1, hdm1, _⟩ := q1.out; clear p1 q1; unfold maxLen at hcm1 hdm1
  go_enter Try.func87, Try.ntmps87
  have K0 := Kept.refl w
  go_wp2_with fail
  obtain ⟨wb1, hwb1⟩ : ∃ w' : World, w' = w.alloc (.cells #[.slice A0 x.elems.length c0, .slice D0 x.limits.length d0, .int .i64 x.repeats, .int .i64 x.bonus, .int .i64 x.keeps, .int .i64 x.fall] 26) := ⟨_, rfl⟩
  rw [← hwb1]
  have KB0 : Kept w wb1 := hwb1 ▸ (Kept.refl w).alloc _
  have B0 : Box wb1 (w.heap.size) 26 #[.slice A0 x.elems.length c0, .slice D0 x.limits.length d0, .int .i64 x.repeats, .int .i64 x.bonus, .int .i64 x.keeps, .int .i64 x.fall] := hwb1 ▸ Box.new w (w.heap.size) 26 #[.slice A0 x.elems.length c0, .slice D0 x.limits.length d0, .int .i64 x.repeats, .int .i64 x.bonus, .int .i64 x.keeps, .int .i64 x.fall] rfl
  have swb1 : wb1.heap.size = w.heap.size + 1 := by rw [hwb1]; simp
  clear hwb1
  have Kwb1 := K0.trans KB0
  obtain ⟨wb2, hwb2⟩ : ∃ w' : World, w' = wb1.alloc (.cells #[.slice A1 it.names.length c1, .slice D1 it.marks.length d1, .bool it.late] 52) := ⟨_, rfl⟩
  rw [← hwb2]
  have KB1 : Kept wb1 wb2 := hwb2 ▸ (Kept.refl wb1).alloc _
  have B1 : Box wb2 (w.heap.size + 1) 52 #[.slice A1 it.names.length c1, .slice D1 it.marks.length d1, .bool it.late] := hwb2 ▸ Box.new wb1 (w.heap.size + 1) 52 #[.slice A1 it.names.length c1, .slice D1 it.marks.length d1, .bool it.late] (by omega)
  have swb2 : wb2.heap.size = wb1.heap.size + 1 := by rw [hwb2]; simp
  clear hwb2
  replace B0 := B0.kept KB1
  have Kwb2 := Kwb1.trans KB1
  have hno := item_some hi
  obtain ⟨hn1, hn3, hml⟩ := hno
  have HML := Lib.hid hml
  clear hml
  obtain ⟨w0, hw0⟩ : ∃ w' : World, w' = wb2.alloc (.cells #[] 3) := ⟨_, rfl⟩
  rw [← hw0]
  have KE : Kept wb2 w0 := hw0 ▸ (Kept.refl wb2).alloc _
  have HO0 : Hid (OwnI w0 wb2.heap.size (.slice (some ⟨w.heap.size + 1 + 1, 0, none⟩) 0 0) []) := Lib.hid (own_made _ _ 1 (by omega) (hw0 ▸ Box.new wb2 _ _ _ (by omega)))
  clear hw0
  have B0s := B0
  have B1s := B1
  go_loopw [5, 12] (fun q i wr => ∃ j : Nat, j ≤ it.names.length ∧ i = .int .i64 j ∧ OwnI wr wb2.heap.size q ((wsV x it).take j) ∧ Kept wb2 wr) (fun _ i _ => it.names.length - (intOf i).toNat)
  case atStart => exact ⟨0, Nat.zero_le _, rfl, HO0.out, KE⟩
  case round =>
    obtain ⟨j, hj, rfl, ho, hkept⟩ := hrel
    have HO := Lib.hid ho
    clear ho HO0
    replace B0 := B0.kept hkept
    replace B1 := B1.kept hkept
    have szr := hkept.size
    have Kr := Kwb2.trans hkept
    by_cases hlt : j < it.names.length
    · obtain ⟨b1, o1, z, rfl, hb1, hz, hc⟩ := strs_at (HN1.out.kept Kwb2).1.addr hlt
      have hlt2 : (j : Int) < (it.marks.length : Int) := by rw [HML.out]; omega
      obtain ⟨b2, o2, m, rfl, hb2, hm, hc2⟩ := ints_at (HM1.out.kept Kwb2).addr (k := j) (by omega)
      obtain ⟨k, y, hf, hy⟩ := knS_at (knI_name hk hz)
      have hlt3 : k < x.elems.length := (List.getElem?_eq_some_iff.1 hy).1
      obtain ⟨b3, o3, y', rfl, hb3, h2, q0, q1, q2, q3⟩ := elems_at (HE0.out.kept Kwb2).1.addr hlt3
      rw [hy] at h2; injection h2 with h2; subst h2
      have hlt4 : (k : Int) < (x.elems.length : Int) := by omega
      have hys := HE0.out.2 y (List.mem_of_getElem? hy)
      have HY := Lib.hid (elemB_parts (codeB_elem hx hy)).2.2
      have HKP := Lib.hid (codeB_rests hx).2.2.1
      have HSN := Lib.hid (wsV_snoc x hz hm)
      have HWN := Lib.hid (worthAt_hit m hf hy)
      have HW : Hid (worthN x.keeps y.base m = worthAt x z m) := Lib.hid (worthAt_hit m hf hy).symm
      generalize worthAt x z m = wv at *
      have HFI := Lib.hid hf
      clear hf hy hz hm HWN
      have htl : ((wsV x it).take j).length ≤ 3 := by rw [List.length_take]; omega
      have hcr := (hkept.cell (p := ⟨b1, o1 + j, none⟩) hb1).trans hc
      obtain ⟨x0, y0⟩ := B0.six
      obtain ⟨x1, y1⟩ := B1.three
      go_wp2_with fail
      clear x0 y0 x1 y1
      have Kd1_ : Kept wr wr.drew := (Kept.refl _).drew
      replace B0 := B0.kept Kd1_
      replace B1 := B1.kept Kd1_
      have Kd1 := Kr.trans Kd1_
      have KW : Kept wb2 wr.drew := hkept.drew
      clear hcr
      have HCO := Lib.hid (H0.out.kept Kd1)
      have HSK : Hid (∀ w' : World, Kept wb2 w' → (w'.cell? ⟨w.heap.size, 0, none⟩ = some (.slice (some ⟨b3, o3, none⟩) x.elems.length c0) ∧ w'.cell? ⟨w.heap.size, 1, none⟩ = some (.slice D0 x.limits.length d0) ∧ w'.cell? ⟨w.heap.size, 2, none⟩ = some (.int .i64 x.repeats) ∧ w'.cell? ⟨w.heap.size, 3, none⟩ = some (.int .i64 x.bonus) ∧ w'.cell? ⟨w.heap.size, 4, none⟩ = some (.int .i64 x.keeps) ∧ w'.cell? ⟨w.heap.size, 5, none⟩ = some (.int .i64 x.fall)) ∧ (w'.cell? ⟨w.heap.size + 1, 0, none⟩ = some (.slice (some ⟨b1, o1, none⟩) it.names.length c1) ∧ w'.cell? ⟨w.heap.size + 1, 1, none⟩ = some (.slice (some ⟨b2, o2, none⟩) it.marks.length d1) ∧ w'.cell? ⟨w.heap.size + 1, 2, none⟩ = some (.bool it.late)) ∧ w'.cell? ⟨b2, o2 + j, none⟩ = some (.int .i64 m) ∧ (w'.cell? ⟨b3, o3 + k * 4, none⟩ = some (.string y.name) ∧ w'.cell? ⟨b3, o3 + k * 4 + 1, none⟩ = some (.int .i64 y.family) ∧ w'.cell? ⟨b3, o3 + k * 4 + 2, none⟩ = some (.int .i64 y.level) ∧ w'.cell? ⟨b3, o3 + k * 4 + 3, none⟩ = some (.int .i64 y.base))) := Lib.hid (fun w' hk => ⟨(B0s.kept hk).six.1, (B1s.kept hk).three.1, (hk.cell hb2).trans hc2, (hk.cell hb3).trans q0, (hk.cell hb3).trans q1, (hk.cell hb3).trans q2, (hk.cell hb3).trans q3⟩)
      clear hc hc2 q0 q1 q2 q3
      go_region_held3 (fun w' => (w'.cell? ⟨w.heap.size, 0, none⟩ = some (.slice (some ⟨b3, o3, none⟩) x.elems.length c0) ∧ w'.cell? ⟨w.heap.size, 1, none⟩ = some (.slice D0 x.limits.length d0) ∧ w'.cell? ⟨w.heap.size, 2, none⟩ = some (.int .i64 x.repeats) ∧ w'.cell? ⟨w.heap.size, 3, none⟩ = some (.int .i64 x.bonus) ∧ w'.cell? ⟨w.heap.size, 4, none⟩ = some (.int .i64 x.keeps) ∧ w'.cell? ⟨w.heap.size, 5, none⟩ = some (.int .i64 x.fall)) ∧ (w'.cell? ⟨w.heap.size + 1, 0, none⟩ = some (.slice (some ⟨b1, o1, none⟩) it.names.length c1) ∧ w'.cell? ⟨w.heap.size + 1, 1, none⟩ = some (.slice (some ⟨b2, o2, none⟩) it.marks.length d1) ∧ w'.cell? ⟨w.heap.size + 1, 2, none⟩ = some (.bool it.late)) ∧ w'.cell? ⟨b2, o2 + j, none⟩ = some (.int .i64 m) ∧ (w'.cell? ⟨b3, o3 + k * 4, none⟩ = some (.string y.name) ∧ w'.cell? ⟨b3, o3 + k * 4 + 1, none⟩ = some (.int .i64 y.family) ∧ w'.cell? ⟨b3, o3 + k * 4 + 2, none⟩ = some (.int .i64 y.level) ∧ w'.cell? ⟨b3, o3 + k * 4 + 3, none⟩ = some (.int .i64 y.base))) (first | (with_reducible exact HSK.out _ (by assumption)) | (with_reducible exact HSK.out _ (Kept.alloc (by assumption) _))) (first | (go_at_call 56; refine (findElement_is _ _ x z _ HFI.out (HCO.out)).mono ?_; rintro e w1 ⟨rfl, k1⟩; have KW1 := KW.trans k1) | (go_at_call 70; refine (worthOf_is _ _ _ x y m _ HW.out (HCO.out.kept k1) (ElemAt.mk y _ hys) HKP.out HY.out).mono ?_; rintro e w2 ⟨rfl, k2⟩; have k12 := k1.trans k2; have KW2 := KW1.trans k2) | (refine step_append_I _ rfl (.tmp 17) (.tmp 32) rfl wb2.heap.size _ ((wsV x it).take j) rfl ((HO.out.kept ((Kept.refl wr).drew.trans k12)).kept ((Kept.refl _).alloc _)) _ [wv] rfl (ints_new w2 wv) (by simp; omega) (by have := KW2.size; simp; omega) ?_; intro v3 w3 o3 g3; have kg : Kept wb2 w3 := (KW2.alloc (.cells #[.int .i64 wv] 3)).grew ((HO.out.kept ((Kept.refl wr).drew.trans k12)).kept ((Kept.refl _).alloc _)) g3 (Nat.le_refl _)))
      rename_i hheld
      clear hheld
      have HO3 := Lib.hid o3
      clear o3 g3
      go_wp2_with fail
      go_roundw
      case rel => exact ⟨j + 1, by omega, by go_num, by rw [HSN.out]; exact HO3.out, kg⟩
      case measure => simp [intOf]; omega
    · obtain rfl : j = it.names.length := by omega
      have HS0 : Hid ((wsV x it).take it.names.length = wsV x it) := Lib.hid (by rw [← wsV_length x HML.out, List.take_length])
      obtain ⟨x0, y0⟩ := B0.six
      obtain ⟨x1, y1⟩ := B1.three
      go_wp2_with fail
      clear x0 y0 x1 y1
      go_ret
      exact ⟨_, rfl, (HS0.out ▸ HO.out : OwnI wr wb2.heap.size _ (wsV x it)).base Kwb2.size, Kr⟩
set_option maxHeartbeats 2000000 in
theorem fullBase_any (v0 v1 : Value) (x : CodeD) (it : ItemD) (w : World) (h0 : CodeAt w v0 x) (h1 : ItemAt w v1 it) (hx : codeB x = true) (hi : itemB it = true) (hk : knI x it = true) :
    Calls Try.prog 61 #[v0, v1] w fun e w' => e = .returned (.int .i64 (fullV x it)) ∧ Kept w w' := by
  have H0 := Lib.hid h0
  obtain ⟨n0, m0, rfl, p0, q0⟩ := h0
  have HE0 := Lib.hid p0; have HI0 := Lib.hid q0
  obtain ⟨A0, c0, rfl, hnc0, hcm0, _⟩ := p0.1.out; obtain ⟨D0, d0, rfl, hnd0, hdm0, _⟩ := q0.out; clear p0 q0; unfold maxLen at hcm0 hdm0
  have H1 := Lib.hid h1
  obtain ⟨n1, m1, rfl, p1, q1⟩ := h1
  have HN1 := Lib.hid p1; have HM1 := Lib.hid q1
  obtain ⟨A1, c1, rfl, hnc1, hcm1, _⟩ := p1.1.out; obtain ⟨D1, d1, rfl, hnd1, hdm1, _⟩ := q1.out; clear p1 q1; unfold maxLen at hcm1 hdm1
  go_enter Try.func61, Try.ntmps61
  have K0 := Kept.refl w
  go_wp2_with fail
  obtain ⟨wb1, hwb1⟩ : ∃ w' : World, w' = w.alloc (.cells #[.slice A0 x.elems.length c0, .slice D0 x.limits.length d0, .int .i64 x.repeats, .int .i64 x.bonus, .int .i64 x.keeps, .int .i64 x.fall] 26) := ⟨_, rfl⟩
  rw [← hwb1]
  have KB0 : Kept w wb1 := hwb1 ▸ (Kept.refl w).alloc _
  have B0 : Box wb1 (w.heap.size) 26 #[.slice A0 x.elems.length c0, .slice D0 x.limits.length d0, .int .i64 x.repeats, .int .i64 x.bonus, .int .i64 x.keeps, .int .i64 x.fall] := hwb1 ▸ Box.new w (w.heap.size) 26 #[.slice A0 x.elems.length c0, .slice D0 x.limits.length d0, .int .i64 x.repeats, .int .i64 x.bonus, .int .i64 x.keeps, .int .i64 x.fall] rfl
  have swb1 : wb1.heap.size = w.heap.size + 1 := by rw [hwb1]; simp
  clear hwb1
  have Kwb1 := K0.trans KB0
  obtain ⟨wb2, hwb2⟩ : ∃ w' : World, w' = wb1.alloc (.cells #[.slice A1 it.names.length c1, .slice D1 it.marks.length d1, .bool it.late] 52) := ⟨_, rfl⟩
  rw [← hwb2]
  have KB1 : Kept wb1 wb2 := hwb2 ▸ (Kept.refl wb1).alloc _
  have B1 : Box wb2 (w.heap.size + 1) 52 #[.slice A1 it.names.length c1, .slice D1 it.marks.length d1, .bool it.late] := hwb2 ▸ Box.new wb1 (w.heap.size + 1) 52 #[.slice A1 it.names.length c1, .slice D1 it.marks.length d1, .bool it.late] (by omega)
  have swb2 : wb2.heap.size = wb1.heap.size + 1 := by rw [hwb2]; simp
  clear hwb2
  replace B0 := B0.kept KB1
  have Kwb2 := Kwb1.trans KB1
  refine (worths_any _ _ x it _ (H0.out.kept Kwb2) (H1.out.kept Kwb2) hx hi hk).mono ?_
  rintro e w1 ⟨v1, rfl, o1, k1⟩
  replace B0 := B0.kept k1
  replace B1 := B1.kept k1
  have sz1 := k1.size
  have K1 := Kwb2.trans k1
  have hno := item_some hi
  obtain ⟨hn1, hn3, hml⟩ := hno
  have hwl := wsV_length x hml
  have HO := Lib.hid o1.ints
  have HSM := Lib.hid (wsV_small hx hk)
  clear o1 hml
  obtain ⟨x0, y0⟩ := B0.six
  obtain ⟨x1, y1⟩ := B1.three
  go_wp2_with fail
  clear x0 y0 x1 y1
  refine (sumInts_any _ (wsV x it) _ HO.out (by omega) HSM.out).mono ?_
  rintro e w' ⟨rfl, rfl⟩
  clear hwl
  have HS0 : Hid ((wsV x it).sum = sumV x it) := Lib.hid rfl
  rw [HS0.out]
  generalize hS : sumV x it = S at *
  have HS := Lib.hid hS
  clear hS HS0
  have hS := HS.out ▸ sumV_bd hx hi hk
  obtain ⟨hS1, hS2⟩ := hS
  obtain ⟨hb1, hb2⟩ := (codeB_rests hx).2.1
  obtain ⟨hp1, hp2⟩ := late_mul hS1 hS2 hb1 hb2
  by_cases hl : it.late = true
  · have HV : Hid (fullV x it = lateV S x.bonus) := Lib.hid (by rw [fullV_late hl, HS.out])
    obtain ⟨x0, y0⟩ := B0.six
    obtain ⟨x1, y1⟩ := B1.three
    go_wp2_with fail
    clear x0 y0 x1 y1
    refine (roundDiv_any _ _ _ (by omega) (by omega) (by omega) (by omega)).mono ?_
    rintro e w' ⟨rfl, rfl⟩
    obtain ⟨x0, y0⟩ := B0.six
    obtain ⟨x1, y1⟩ := B1.three
    go_wp2_with fail
    clear x0 y0 x1 y1
    go_ret
    exact ⟨ret_int (by rw [HV.out]; rfl), K1⟩
  · simp only [Bool.not_eq_true] at hl
    have HV : Hid (fullV x it = S) := Lib.hid (by rw [fullV_early hl, HS.out])
    obtain ⟨x0, y0⟩ := B0.six
    obtain ⟨x1, y1⟩ := B1.three
    go_wp2_with fail
    clear x0 y0 x1 y1
    go_ret
    exact ⟨ret_int HV.out.symm, K1⟩
set_option maxHeartbeats 1000000 in
theorem specFullBase_any (v0 v1 : Value) (x : CodeD) (it : ItemD) (w : World) (h0 : CodeAt w v0 x) (h1 : ItemAt w v1 it)  :
    Calls Try.prog 30 #[v0, v1] w fun e w' => e = .returned (.tuple #[.int .i64 (onI (gdB x [it]) (fullV x it)), .bool (gdB x [it])]) ∧ Kept w w' := by
  have H0 := Lib.hid h0
  obtain ⟨n0, m0, rfl, p0, q0⟩ := h0
  have HE0 := Lib.hid p0; have HI0 := Lib.hid q0
  obtain ⟨A0, c0, rfl, hnc0, hcm0, _⟩ := p0.1.out; obtain ⟨D0, d0, rfl, hnd0, hdm0, _⟩ := q0.out; clear p0 q0; unfold maxLen at hcm0 hdm0
  have H1 := Lib.hid h1
  obtain ⟨n1, m1, rfl, p1, q1⟩ := h1
  have HN1 := Lib.hid p1; have HM1 := Lib.hid q1
  obtain ⟨A1, c1, rfl, hnc1, hcm1, _⟩ := p1.1.out; obtain ⟨D1, d1, rfl, hnd1, hdm1, _⟩ := q1.out; clear p1 q1; unfold maxLen at hcm1 hdm1
  go_enter Try.func30, Try.ntmps30
  have K0 := Kept.refl w
  go_wp2_with fail
  obtain ⟨wb1, hwb1⟩ : ∃ w' : World, w' = w.alloc (.cells #[.slice A0 x.elems.length c0, .slice D0 x.limits.length d0, .int .i64 x.repeats, .int .i64 x.bonus, .int .i64 x.keeps, .int .i64 x.fall] 26) := ⟨_, rfl⟩
  rw [← hwb1]
  have KB0 : Kept w wb1 := hwb1 ▸ (Kept.refl w).alloc _
  have B0 : Box wb1 (w.heap.size) 26 #[.slice A0 x.elems.length c0, .slice D0 x.limits.length d0, .int .i64 x.repeats, .int .i64 x.bonus, .int .i64 x.keeps, .int .i64 x.fall] := hwb1 ▸ Box.new w (w.heap.size) 26 #[.slice A0 x.elems.length c0, .slice D0 x.limits.length d0, .int .i64 x.repeats, .int .i64 x.bonus, .int .i64 x.keeps, .int .i64 x.fall] rfl
  have swb1 : wb1.heap.size = w.heap.size + 1 := by rw [hwb1]; simp
  clear hwb1
  have Kwb1 := K0.trans KB0
  obtain ⟨wb2, hwb2⟩ : ∃ w' : World, w' = wb1.alloc (.cells #[.slice A1 it.names.length c1, .slice D1 it.marks.length d1, .bool it.late] 52) := ⟨_, rfl⟩
  rw [← hwb2]
  have KB1 : Kept wb1 wb2 := hwb2 ▸ (Kept.refl wb1).alloc _
  have B1 : Box wb2 (w.heap.size + 1) 52 #[.slice A1 it.names.length c1, .slice D1 it.marks.length d1, .bool it.late] := hwb2 ▸ Box.new wb1 (w.heap.size + 1) 52 #[.slice A1 it.names.length c1, .slice D1 it.marks.length d1, .bool it.late] (by omega)
  have swb2 : wb2.heap.size = wb1.heap.size + 1 := by rw [hwb2]; simp
  clear hwb2
  replace B0 := B0.kept KB1
  have Kwb2 := Kwb1.trans KB1
  obtain ⟨wb3, hwb3⟩ : ∃ w' : World, w' = wb2.alloc (.cells #[.slice A1 it.names.length c1, .slice D1 it.marks.length d1, .bool it.late] 52) := ⟨_, rfl⟩
  rw [← hwb3]
  have KBn : Kept wb2 wb3 := hwb3 ▸ (Kept.refl wb2).alloc _
  have Bn : Box wb3 (w.heap.size + 1 + 1) 52 #[.slice A1 it.names.length c1, .slice D1 it.marks.length d1, .bool it.late] := hwb3 ▸ Box.new wb2 (w.heap.size + 1 + 1) 52 #[.slice A1 it.names.length c1, .slice D1 it.marks.length d1, .bool it.late] (by omega)
  have swb3 : wb3.heap.size = wb2.heap.size + 1 := by rw [hwb3]; simp
  clear hwb3
  replace B0 := B0.kept KBn
  replace B1 := B1.kept KBn
  have Kwb3 := Kwb2.trans KBn
  have HONE := Lib.hid (items_one Bn (H1.out.kept Kwb3))
  refine (bsGood_any _ _ x [it] _ (H0.out.kept Kwb3) HONE.out).mono ?_
  rintro e w1 ⟨rfl, k1⟩
  replace B0 := B0.kept k1
  replace B1 := B1.kept k1
  replace Bn := Bn.kept k1
  have sz1 := k1.size
  have K1 := Kwb3.trans k1
  by_cases hg : gdB x [it] = true
  case neg =>
    simp only [Bool.not_eq_true] at hg
    rw [hg]
    have HO := Lib.hid hg
    clear hg
    obtain ⟨x0, y0⟩ := B0.six
    obtain ⟨x1, y1⟩ := B1.three
    obtain ⟨xn, yn⟩ := Bn.three
    go_wp2_with fail
    clear x0 y0 x1 y1 xn yn
    go_ret2
    exact ⟨by rw [HO.out]; rfl, K1⟩
  rw [hg]
  obtain ⟨hc, hi, hk⟩ := gdB_true hg
  rw [itemsB_one] at hi
  rw [knB_one] at hk
  have HG := Lib.hid hg
  clear hg
  have h1 := (item_some hi).1
  obtain ⟨x0, y0⟩ := B0.six
  obtain ⟨x1, y1⟩ := B1.three
  obtain ⟨xn, yn⟩ := Bn.three
  go_wp2_with fail
  clear x0 y0 x1 y1 xn yn
  refine (bsFull_any _ _ x it _ (H0.out.kept K1) (H1.out.kept K1) hc hi hk).mono ?_
  rintro e w2 ⟨rfl, k2⟩
  replace B0 := B0.kept k2
  replace B1 := B1.kept k2
  replace Bn := Bn.kept k2
  have sz2 := k2.size
  have K2 := K1.trans k2
  obtain ⟨x0, y0⟩ := B0.six
  obtain ⟨x1, y1⟩ := B1.three
  obtain ⟨xn, yn⟩ := Bn.three
  go_wp2_with fail
  clear x0 y0 x1 y1 xn yn
  go_ret2
  exact ⟨by rw [HG.out]; rfl, K2⟩
set_option maxHeartbeats 1000000 in
theorem implFullBase_any (v0 v1 : Value) (x : CodeD) (it : ItemD) (w : World) (h0 : CodeAt w v0 x) (h1 : ItemAt w v1 it)  :
    Calls Try.prog 29 #[v0, v1] w fun e w' => e = .returned (.tuple #[.int .i64 (onI (gdB x [it]) (fullV x it)), .bool (gdB x [it])]) ∧ Kept w w' := by
  have H0 := Lib.hid h0
  obtain ⟨n0, m0, rfl, p0, q0⟩ := h0
  have HE0 := Lib.hid p0; have HI0 := Lib.hid q0
  obtain ⟨A0, c0, rfl, hnc0, hcm0, _⟩ := p0.1.out; obtain ⟨D0, d0, rfl, hnd0, hdm0, _⟩ := q0.out; clear p0 q0; unfold maxLen at hcm0 hdm0
  have H1 := Lib.hid h1
  obtain ⟨n1, m1, rfl, p1, q1⟩ := h1
  have HN1 := Lib.hid p1; have HM1 := Lib.hid q1
  obtain ⟨A1, c1, rfl, hnc1, hcm1, _⟩ := p1.1.out; obtain ⟨D1, d1, rfl, hnd1, hdm1, _⟩ := q1.out; clear p1 q1; unfold maxLen at hcm1 hdm1
  go_enter Try.func29, Try.ntmps29
  have K0 := Kept.refl w
  go_wp2_with fail
  obtain ⟨wb1, hwb1⟩ : ∃ w' : World, w' = w.alloc (.cells #[.slice A0 x.elems.length c0, .slice D0 x.limits.length d0, .int .i64 x.repeats, .int .i64 x.bonus, .int .i64 x.keeps, .int .i64 x.fall] 26) := ⟨_, rfl⟩
  rw [← hwb1]
  have KB0 : Kept w wb1 := hwb1 ▸ (Kept.refl w).alloc _
  have B0 : Box wb1 (w.heap.size) 26 #[.slice A0 x.elems.length c0, .slice D0 x.limits.length d0, .int .i64 x.repeats, .int .i64 x.bonus, .int .i64 x.keeps, .int .i64 x.fall] := hwb1 ▸ Box.new w (w.heap.size) 26 #[.slice A0 x.elems.length c0, .slice D0 x.limits.length d0, .int .i64 x.repeats, .int .i64 x.bonus, .int .i64 x.keeps, .int .i64 x.fall] rfl
  have swb1 : wb1.heap.size = w.heap.size + 1 := by rw [hwb1]; simp
  clear hwb1
  have Kwb1 := K0.trans KB0
  obtain ⟨wb2, hwb2⟩ : ∃ w' : World, w' = wb1.alloc (.cells #[.slice A1 it.names.length c1, .slice D1 it.marks.length d1, .bool it.late] 52) := ⟨_, rfl⟩
  rw [← hwb2]
  have KB1 : Kept wb1 wb2 := hwb2 ▸ (Kept.refl wb1).alloc _
  have B1 : Box wb2 (w.heap.size + 1) 52 #[.slice A1 it.names.length c1, .slice D1 it.marks.length d1, .bool it.late] := hwb2 ▸ Box.new wb1 (w.heap.size + 1) 52 #[.slice A1 it.names.length c1, .slice D1 it.marks.length d1, .bool it.late] (by omega)
  have swb2 : wb2.heap.size = wb1.heap.size + 1 := by rw [hwb2]; simp
  clear hwb2
  replace B0 := B0.kept KB1
  have Kwb2 := Kwb1.trans KB1
  refine (isKnownItem_any _ _ x it _ (H0.out.kept Kwb2) (H1.out.kept Kwb2)).mono ?_
  rintro e w1 ⟨rfl, k1⟩
  replace B0 := B0.kept k1
  replace B1 := B1.kept k1
  have sz1 := k1.size
  have K1 := Kwb2.trans k1
  by_cases hg : gdB x [it] = true
  case neg =>
    simp only [Bool.not_eq_true] at hg
    rw [hg]
    have HO := Lib.hid hg
    clear hg
    obtain ⟨x0, y0⟩ := B0.six
    obtain ⟨x1, y1⟩ := B1.three
    go_wp2_with fail
    clear x0 y0 x1 y1
    go_ret2
    exact ⟨by rw [HO.out]; rfl, K1⟩
  rw [hg]
  obtain ⟨hc, hi, hk⟩ := gdB_true hg
  rw [itemsB_one] at hi
  rw [knB_one] at hk
  have HG := Lib.hid hg
  clear hg
  have h1 := (item_some hi).1
  obtain ⟨x0, y0⟩ := B0.six
  obtain ⟨x1, y1⟩ := B1.three
  go_wp2_with fail
  clear x0 y0 x1 y1
  refine (fullBase_any _ _ x it _ (H0.out.kept K1) (H1.out.kept K1) hc hi hk).mono ?_
  rintro e w2 ⟨rfl, k2⟩
  replace B0 := B0.kept k2
  replace B1 := B1.kept k2
  have sz2 := k2.size
  have K2 := K1.trans k2
  obtain ⟨x0, y0⟩ := B0.six
  obtain ⟨x1, y1⟩ := B1.three
  go_wp2_with fail
  clear x0 y0 x1 y1
  go_ret2
  exact ⟨by rw [HG.out]; rfl, K2⟩
end Go.Proofs.Ytlmaiblfgbobnaa

/- Items over a code: repeats and bases. -/
namespace Go.Proofs.Ytlmaiblfgbobnaa
set_option linter.unusedVariables false
set_option linter.unusedSimpArgs false
open Go.RowKit

def hasB (x : CodeD) (its : List ItemD) (k : Int) : Bool := gdB x its && inB k 0 ((its.length : Int) - 1)
theorem hasB_true {x : CodeD} {its : List ItemD} {k : Int} (h : hasB x its k = true) : gdB x its = true ∧ 0 ≤ k ∧ k.toNat < its.length := by
  unfold hasB at h
  rw [Bool.and_eq_true] at h
  have := inB_true h.2
  exact ⟨h.1, by omega, by omega⟩
theorem hasB_comm (x : CodeD) (its : List ItemD) (k : Int) : hasB x its k = (inB k 0 ((its.length : Int) - 1) && gdB x its) := Bool.and_comm _ _
theorem repP_eq {s z : ByteArray} {it : ItemD} {m : Int} (h : it.names[0]? = some z) (hm : it.marks[0]? = some m) : repP s it = (z.toList == s.toList && m != 3) := by
  unfold repP
  rw [h, hm]
  have e1 : ((some z : Option ByteArray) == some s) = (z.toList == s.toList) := by
    change (z.data == s.data) = (z.toList == s.toList)
    by_cases hz : z.toList = s.toList
    · obtain rfl := str_ext hz
      simp
    · have : ¬ z.data = s.data := fun e => hz (by cases z; cases s; simp_all)
      rw [beq_eq_false_iff_ne.2 this, beq_eq_false_iff_ne.2 hz]
  rw [e1]
  rfl
set_option maxHeartbeats 1000000 in
theorem bsHas_any (v0 v1 : Value) (x : CodeD) (its : List ItemD) (k : Int) (w : World) (h0 : CodeAt w v0 x) (h1 : ItemsAt w v1 its)  :
    Calls Try.prog 62 #[v0, v1, .int .i64 k] w fun e w' => e = .returned (.bool (hasB x its k)) ∧ Kept w w' := by
  have H0 := Lib.hid h0
  obtain ⟨n0, m0, rfl, p0, q0⟩ := h0
  have HE0 := Lib.hid p0; have HI0 := Lib.hid q0
  obtain ⟨A0, c0, rfl, hnc0, hcm0, _⟩ := p0.1.out; obtain ⟨D0, d0, rfl, hnd0, hdm0, _⟩ := q0.out; clear p0 q0; unfold maxLen at hcm0 hdm0
  have H1 := Lib.hid h1
  obtain ⟨A1, c1, cs1, rfl, hnc1, hcm1, hA1⟩ := h1.out; have HA1 := Lib.hid hA1; clear hA1 h1; unfold maxLen at hcm1
  go_enter Try.func62, Try.ntmps62
  have K0 := Kept.refl w
  go_wp2_with fail
  obtain ⟨wb1, hwb1⟩ : ∃ w' : World, w' = w.alloc (.cells #[.slice A0 x.elems.length c0, .slice D0 x.limits.length d0, .int .i64 x.repeats, .int .i64 x.bonus, .int .i64 x.keeps, .int .i64 x.fall] 26) := ⟨_, rfl⟩
  rw [← hwb1]
  have KB0 : Kept w wb1 := hwb1 ▸ (Kept.refl w).alloc _
  have B0 : Box wb1 (w.heap.size) 26 #[.slice A0 x.elems.length c0, .slice D0 x.limits.length d0, .int .i64 x.repeats, .int .i64 x.bonus, .int .i64 x.keeps, .int .i64 x.fall] := hwb1 ▸ Box.new w (w.heap.size) 26 #[.slice A0 x.elems.length c0, .slice D0 x.limits.length d0, .int .i64 x.repeats, .int .i64 x.bonus, .int .i64 x.keeps, .int .i64 x.fall] rfl
  have swb1 : wb1.heap.size = w.heap.size + 1 := by rw [hwb1]; simp
  clear hwb1
  have Kwb1 := K0.trans KB0
  refine (bsGood_any _ _ x its _ (H0.out.kept Kwb1) (H1.out.kept Kwb1)).mono ?_
  rintro e w1 ⟨rfl, k1⟩
  replace B0 := B0.kept k1
  have sz1 := k1.size
  have K1 := Kwb1.trans k1
  by_cases hg : gdB x its = true
  case neg =>
    simp only [Bool.not_eq_true] at hg
    rw [hg]
    have HO : Hid (hasB x its k = false) := Lib.hid (by unfold hasB; rw [hg]; rfl)
    obtain ⟨x0, y0⟩ := B0.six
    go_wp2_with fail
    clear x0 y0
    go_ret
    exact ⟨ret_bool HO.out.symm, K1⟩
  rw [hg]
  obtain ⟨x0, y0⟩ := B0.six
  go_wp2_with fail
  clear x0 y0
  refine (l1In_any _ _ _ _).mono ?_
  rintro e w' ⟨rfl, rfl⟩
  obtain ⟨x0, y0⟩ := B0.six
  go_wp2_with fail
  clear x0 y0
  go_ret
  exact ⟨ret_bool (by unfold hasB; rw [hg]; rfl), K1⟩
set_option maxHeartbeats 1000000 in
theorem hasKnown_any (v0 v1 : Value) (x : CodeD) (its : List ItemD) (k : Int) (w : World) (h0 : CodeAt w v0 x) (h1 : ItemsAt w v1 its)  :
    Calls Try.prog 60 #[v0, v1, .int .i64 k] w fun e w' => e = .returned (.bool (hasB x its k)) ∧ Kept w w' := by
  have H0 := Lib.hid h0
  obtain ⟨n0, m0, rfl, p0, q0⟩ := h0
  have HE0 := Lib.hid p0; have HI0 := Lib.hid q0
  obtain ⟨A0, c0, rfl, hnc0, hcm0, _⟩ := p0.1.out; obtain ⟨D0, d0, rfl, hnd0, hdm0, _⟩ := q0.out; clear p0 q0; unfold maxLen at hcm0 hdm0
  have H1 := Lib.hid h1
  obtain ⟨A1, c1, cs1, rfl, hnc1, hcm1, hA1⟩ := h1.out; have HA1 := Lib.hid hA1; clear hA1 h1; unfold maxLen at hcm1
  go_enter Try.func60, Try.ntmps60
  have K0 := Kept.refl w
  go_wp2_with fail
  obtain ⟨wb1, hwb1⟩ : ∃ w' : World, w' = w.alloc (.cells #[.slice A0 x.elems.length c0, .slice D0 x.limits.length d0, .int .i64 x.repeats, .int .i64 x.bonus, .int .i64 x.keeps, .int .i64 x.fall] 26) := ⟨_, rfl⟩
  rw [← hwb1]
  have KB0 : Kept w wb1 := hwb1 ▸ (Kept.refl w).alloc _
  have B0 : Box wb1 (w.heap.size) 26 #[.slice A0 x.elems.length c0, .slice D0 x.limits.length d0, .int .i64 x.repeats, .int .i64 x.bonus, .int .i64 x.keeps, .int .i64 x.fall] := hwb1 ▸ Box.new w (w.heap.size) 26 #[.slice A0 x.elems.length c0, .slice D0 x.limits.length d0, .int .i64 x.repeats, .int .i64 x.bonus, .int .i64 x.keeps, .int .i64 x.fall] rfl
  have swb1 : wb1.heap.size = w.heap.size + 1 := by rw [hwb1]; simp
  clear hwb1
  have Kwb1 := K0.trans KB0
  refine (within_any _ _ _ _).mono ?_
  rintro e w' ⟨rfl, rfl⟩
  by_cases hg : inB k 0 ((its.length : Int) - 1) = true
  case neg =>
    simp only [Bool.not_eq_true] at hg
    rw [hg]
    have HO : Hid (hasB x its k = false) := Lib.hid (by rw [hasB_comm, hg]; rfl)
    obtain ⟨x0, y0⟩ := B0.six
    go_wp2_with fail
    clear x0 y0
    go_ret
    exact ⟨ret_bool HO.out.symm, Kwb1⟩
  rw [hg]
  obtain ⟨x0, y0⟩ := B0.six
  go_wp2_with fail
  clear x0 y0
  refine (areKnown_any _ _ x its _ (H0.out.kept Kwb1) (H1.out.kept Kwb1)).mono ?_
  rintro e w1 ⟨rfl, k1⟩
  replace B0 := B0.kept k1
  have sz1 := k1.size
  have K1 := Kwb1.trans k1
  obtain ⟨x0, y0⟩ := B0.six
  go_wp2_with fail
  clear x0 y0
  go_ret
  exact ⟨ret_bool (by rw [hasB_comm, hg]; rfl), K1⟩
set_option maxHeartbeats 2000000 in
theorem bsRepeats_any (v0 : Value) (its : List ItemD) (k : Nat) (w : World) (h0 : ItemsAt w v0 its) (hb : itemsB its = true) (hk : k < its.length) :
    Calls Try.prog 73 #[v0, .int .i64 (k : Int)] w fun e w' => e = .returned (.int .i64 (repV its k)) ∧ Kept w w' := by
  have H0 := Lib.hid h0
  obtain ⟨A0, c0, cs0, rfl, hnc0, hcm0, hA0⟩ := h0.out; have HA0 := Lib.hid hA0; clear hA0 h0; unfold maxLen at hcm0
  obtain ⟨bk, ok, Ak, ck, Dk, dk, ik, rfl, hbk, hik, hik2, hitk, r0, r1, r2⟩ := items_at HA0.out hk
  obtain ⟨hk1, hk3, hkm⟩ := items_some hb hik
  obtain ⟨pk, qk⟩ := hitk.parts
  obtain ⟨bs, os, s, rfl, hbs, hs, hcs⟩ := strs_at pk.1.addr (k := 0) (by omega)
  rw [Nat.add_zero] at hcs
  have HRV := Lib.hid (repV_at hik hs)
  have HB := Lib.hid hb
  have hl14 := (itemsB_true hb).1
  have hlks : (0 : Int) < (ik.names.length : Int) := by omega
  have hkl : (k : Int) < (its.length : Int) := by omega
  have hkc : (k : Int) ≤ (c0 : Int) := by omega
  have RC := Lib.hid (⟨hcs, r0⟩ : _ ∧ _)
  clear hb hik hik2 hitk pk qk hs hkm hcs r0 r1 r2
  go_enter Try.func73, Try.ntmps73
  have K0 := Kept.refl w
  go_wp2_with fail
  go_loopw [5, 12] (fun q i wr => ∃ j : Nat, j ≤ k ∧ i = .int .i64 j ∧ q = .int .i64 (repN its j s : Int) ∧ Kept w wr) (fun _ i _ => k - (intOf i).toNat)
  case atStart => exact ⟨0, Nat.zero_le _, rfl, by simp [repN], Kept.refl _⟩
  case round =>
    obtain ⟨j, hj, rfl, rfl, hkept⟩ := hrel
    have szr := hkept.size
    have Kr := K0.trans hkept
    by_cases hlt : j < k
    · obtain ⟨b, o, Aa, ca, Ab, cb, it, hAA, hbb, h2, h3, hit, q0, q1, q2⟩ := items_at (HA0.out.kept Kr) (show j < its.length by omega)
      injection hAA with hAA; injection hAA with e1 e2; subst e1 e2
      obtain ⟨hi1, hi3, him⟩ := items_some HB.out h2
      obtain ⟨p1, p2⟩ := hit.parts
      obtain ⟨b1, o1, z, rfl, hb1, hz, hc1⟩ := strs_at p1.1.addr (k := 0) (by omega)
      obtain ⟨b2, o2, m, rfl, hb2, hm, hc2⟩ := ints_at p2.addr (k := 0) (by omega)
      rw [Nat.add_zero] at hc1 hc2
      have HP := Lib.hid (repP_eq (s := s) hz hm)
      have HN := Lib.hid (repN_snoc s h2)
      have hle := repN_le its j s
      have hli : (0 : Int) < (it.names.length : Int) := by omega
      have hlm : (0 : Int) < (it.marks.length : Int) := by omega
      clear h2 h3 hit p1 p2 hz hm him
      generalize repN its j s = rn at *
      have HC1 := Lib.hid hc1
      have HC2 := Lib.hid hc2
      clear hc1 hc2
      go_wp2_with fail
      obtain ⟨wb1, hwb1⟩ : ∃ w' : World, w' = wr.alloc (.cells #[.slice (some ⟨b1, o1, none⟩) it.names.length ca, .slice (some ⟨b2, o2, none⟩) it.marks.length cb, .bool it.late] 52) := ⟨_, rfl⟩
      rw [← hwb1]
      have KBt : Kept wr wb1 := hwb1 ▸ (Kept.refl wr).alloc _
      have Bt : Box wb1 (wr.heap.size) 52 #[.slice (some ⟨b1, o1, none⟩) it.names.length ca, .slice (some ⟨b2, o2, none⟩) it.marks.length cb, .bool it.late] := hwb1 ▸ Box.new wr (wr.heap.size) 52 #[.slice (some ⟨b1, o1, none⟩) it.names.length ca, .slice (some ⟨b2, o2, none⟩) it.marks.length cb, .bool it.late] rfl
      have swb1 : wb1.heap.size = wr.heap.size + 1 := by rw [hwb1]; simp
      clear hwb1
      have Kwb1 := Kr.trans KBt
      clear q0 q1 q2
      have t1 := (KBt.cell (p := ⟨b1, o1, none⟩) hb1).trans HC1.out
      have t2 := (KBt.cell (p := ⟨b2, o2, none⟩) hb2).trans HC2.out
      have t3 := (Kwb1.cell (p := ⟨bs, os, none⟩) hbs).trans RC.out.1
      have t4 := (Kwb1.cell (p := ⟨bk, ok + k * 3, none⟩) hbk).trans RC.out.2
      by_cases hzs : z.toList = s.toList <;> by_cases hm3 : m = 3
      · have e1 : (z.toList == s.toList) = true := by simp [hzs]
        have e2 : (m != 3) = false := by simp [hm3]
        have HQ : Hid (repP s it = false) := Lib.hid (by rw [HP.out, e1, e2]; rfl)
        clear hzs
        obtain ⟨xt, yt⟩ := Bt.three
        go_quiet (fail)
        rename_i nq
        clear xt yt
        go_wp2_with fail
        go_roundw
        case rel => exact ⟨j + 1, by omega, by go_num, by rw [HN.out, HQ.out]; first | rfl | go_num | simp, (hkept.trans KBt).drewN _⟩
        case measure => simp [intOf]; omega
      · have e1 : (z.toList == s.toList) = true := by simp [hzs]
        have e2 : (m != 3) = true := by simp [hm3]
        have HQ : Hid (repP s it = true) := Lib.hid (by rw [HP.out, e1, e2]; rfl)
        clear hzs hm3
        obtain ⟨xt, yt⟩ := Bt.three
        go_quiet (fail)
        rename_i nq
        clear xt yt
        go_wp2_with fail
        go_roundw
        case rel => exact ⟨j + 1, by omega, by go_num, by rw [HN.out, HQ.out]; first | rfl | go_num | simp, (hkept.trans KBt).drewN _⟩
        case measure => simp [intOf]; omega
      · have e1 : (z.toList == s.toList) = false := by simp [hzs]
        have e2 : (m != 3) = false := by simp [hm3]
        have HQ : Hid (repP s it = false) := Lib.hid (by rw [HP.out, e1, e2]; rfl)
        clear hzs
        obtain ⟨xt, yt⟩ := Bt.three
        go_quiet (fail)
        rename_i nq
        clear xt yt
        go_wp2_with fail
        go_roundw
        case rel => exact ⟨j + 1, by omega, by go_num, by rw [HN.out, HQ.out]; first | rfl | go_num | simp, (hkept.trans KBt).drewN _⟩
        case measure => simp [intOf]; omega
      · have e1 : (z.toList == s.toList) = false := by simp [hzs]
        have e2 : (m != 3) = true := by simp [hm3]
        have HQ : Hid (repP s it = false) := Lib.hid (by rw [HP.out, e1, e2]; rfl)
        clear hzs hm3
        obtain ⟨xt, yt⟩ := Bt.three
        go_quiet (fail)
        rename_i nq
        clear xt yt
        go_wp2_with fail
        go_roundw
        case rel => exact ⟨j + 1, by omega, by go_num, by rw [HN.out, HQ.out]; first | rfl | go_num | simp, (hkept.trans KBt).drewN _⟩
        case measure => simp [intOf]; omega
    · obtain rfl : j = k := by omega
      go_wp2_with fail
      go_ret
      exact ⟨ret_int HRV.out.symm, Kr⟩
set_option maxHeartbeats 2000000 in
theorem repeatsOf_any (v0 : Value) (its : List ItemD) (k : Nat) (w : World) (h0 : ItemsAt w v0 its) (hb : itemsB its = true) (hk : k < its.length) :
    Calls Try.prog 72 #[v0, .int .i64 (k : Int)] w fun e w' => e = .returned (.int .i64 (repV its k)) ∧ Kept w w' := by
  have H0 := Lib.hid h0
  obtain ⟨A0, c0, cs0, rfl, hnc0, hcm0, hA0⟩ := h0.out; have HA0 := Lib.hid hA0; clear hA0 h0; unfold maxLen at hcm0
  obtain ⟨bk, ok, Ak, ck, Dk, dk, ik, rfl, hbk, hik, hik2, hitk, r0, r1, r2⟩ := items_at HA0.out hk
  obtain ⟨hk1, hk3, hkm⟩ := items_some hb hik
  obtain ⟨pk, qk⟩ := hitk.parts
  obtain ⟨bs, os, s, rfl, hbs, hs, hcs⟩ := strs_at pk.1.addr (k := 0) (by omega)
  rw [Nat.add_zero] at hcs
  have HRV := Lib.hid (repV_at hik hs)
  have HB := Lib.hid hb
  have hl14 := (itemsB_true hb).1
  have hlks : (0 : Int) < (ik.names.length : Int) := by omega
  have hkl : (k : Int) < (its.length : Int) := by omega
  have hkc : (k : Int) ≤ (c0 : Int) := by omega
  have RC := Lib.hid (⟨hcs, r0⟩ : _ ∧ _)
  clear hb hik hik2 hitk pk qk hs hkm hcs r0 r1 r2
  go_enter Try.func72, Try.ntmps72
  have K0 := Kept.refl w
  go_wp2_with fail
  go_loopw [5, 12] (fun q i wr => ∃ j : Nat, j ≤ k ∧ i = .int .i64 j ∧ q = .int .i64 (repN its j s : Int) ∧ Kept w wr) (fun _ i _ => k - (intOf i).toNat)
  case atStart => exact ⟨0, Nat.zero_le _, rfl, by simp [repN], Kept.refl _⟩
  case round =>
    obtain ⟨j, hj, rfl, rfl, hkept⟩ := hrel
    have szr := hkept.size
    have Kr := K0.trans hkept
    by_cases hlt : j < k
    · obtain ⟨b, o, Aa, ca, Ab, cb, it, hAA, hbb, h2, h3, hit, q0, q1, q2⟩ := items_at (HA0.out.kept Kr) (show j < its.length by omega)
      injection hAA with hAA; injection hAA with e1 e2; subst e1 e2
      obtain ⟨hi1, hi3, him⟩ := items_some HB.out h2
      obtain ⟨p1, p2⟩ := hit.parts
      obtain ⟨b1, o1, z, rfl, hb1, hz, hc1⟩ := strs_at p1.1.addr (k := 0) (by omega)
      obtain ⟨b2, o2, m, rfl, hb2, hm, hc2⟩ := ints_at p2.addr (k := 0) (by omega)
      rw [Nat.add_zero] at hc1 hc2
      have HP := Lib.hid (repP_eq (s := s) hz hm)
      have HN := Lib.hid (repN_snoc s h2)
      have hle := repN_le its j s
      have hli : (0 : Int) < (it.names.length : Int) := by omega
      have hlm : (0 : Int) < (it.marks.length : Int) := by omega
      clear h2 h3 hit p1 p2 hz hm him
      generalize repN its j s = rn at *
      have HC1 := Lib.hid hc1
      have HC2 := Lib.hid hc2
      clear hc1 hc2
      go_wp2_with fail
      obtain ⟨wb1, hwb1⟩ : ∃ w' : World, w' = wr.alloc (.cells #[.slice (some ⟨b1, o1, none⟩) it.names.length ca, .slice (some ⟨b2, o2, none⟩) it.marks.length cb, .bool it.late] 52) := ⟨_, rfl⟩
      rw [← hwb1]
      have KBt : Kept wr wb1 := hwb1 ▸ (Kept.refl wr).alloc _
      have Bt : Box wb1 (wr.heap.size) 52 #[.slice (some ⟨b1, o1, none⟩) it.names.length ca, .slice (some ⟨b2, o2, none⟩) it.marks.length cb, .bool it.late] := hwb1 ▸ Box.new wr (wr.heap.size) 52 #[.slice (some ⟨b1, o1, none⟩) it.names.length ca, .slice (some ⟨b2, o2, none⟩) it.marks.length cb, .bool it.late] rfl
      have swb1 : wb1.heap.size = wr.heap.size + 1 := by rw [hwb1]; simp
      clear hwb1
      have Kwb1 := Kr.trans KBt
      clear q0 q1 q2
      have t1 := (KBt.cell (p := ⟨b1, o1, none⟩) hb1).trans HC1.out
      have t2 := (KBt.cell (p := ⟨b2, o2, none⟩) hb2).trans HC2.out
      have t3 := (Kwb1.cell (p := ⟨bs, os, none⟩) hbs).trans RC.out.1
      have t4 := (Kwb1.cell (p := ⟨bk, ok + k * 3, none⟩) hbk).trans RC.out.2
      by_cases hzs : z.toList = s.toList <;> by_cases hm3 : m = 3
      · have e1 : (z.toList == s.toList) = true := by simp [hzs]
        have e2 : (m != 3) = false := by simp [hm3]
        have HQ : Hid (repP s it = false) := Lib.hid (by rw [HP.out, e1, e2]; rfl)
        clear hzs
        obtain ⟨xt, yt⟩ := Bt.three
        go_quiet (fail)
        rename_i nq
        clear xt yt
        go_wp2_with fail
        go_roundw
        case rel => exact ⟨j + 1, by omega, by go_num, by rw [HN.out, HQ.out]; first | rfl | go_num | simp, (hkept.trans KBt).drewN _⟩
        case measure => simp [intOf]; omega
      · have e1 : (z.toList == s.toList) = true := by simp [hzs]
        have e2 : (m != 3) = true := by simp [hm3]
        have HQ : Hid (repP s it = true) := Lib.hid (by rw [HP.out, e1, e2]; rfl)
        clear hzs hm3
        obtain ⟨xt, yt⟩ := Bt.three
        go_quiet (fail)
        rename_i nq
        clear xt yt
        go_wp2_with fail
        go_roundw
        case rel => exact ⟨j + 1, by omega, by go_num, by rw [HN.out, HQ.out]; first | rfl | go_num | simp, (hkept.trans KBt).drewN _⟩
        case measure => simp [intOf]; omega
      · have e1 : (z.toList == s.toList) = false := by simp [hzs]
        have e2 : (m != 3) = false := by simp [hm3]
        have HQ : Hid (repP s it = false) := Lib.hid (by rw [HP.out, e1, e2]; rfl)
        clear hzs
        obtain ⟨xt, yt⟩ := Bt.three
        go_quiet (fail)
        rename_i nq
        clear xt yt
        go_wp2_with fail
        go_roundw
        case rel => exact ⟨j + 1, by omega, by go_num, by rw [HN.out, HQ.out]; first | rfl | go_num | simp, (hkept.trans KBt).drewN _⟩
        case measure => simp [intOf]; omega
      · have e1 : (z.toList == s.toList) = false := by simp [hzs]
        have e2 : (m != 3) = true := by simp [hm3]
        have HQ : Hid (repP s it = false) := Lib.hid (by rw [HP.out, e1, e2]; rfl)
        clear hzs hm3
        obtain ⟨xt, yt⟩ := Bt.three
        go_quiet (fail)
        rename_i nq
        clear xt yt
        go_wp2_with fail
        go_roundw
        case rel => exact ⟨j + 1, by omega, by go_num, by rw [HN.out, HQ.out]; first | rfl | go_num | simp, (hkept.trans KBt).drewN _⟩
        case measure => simp [intOf]; omega
    · obtain rfl : j = k := by omega
      go_wp2_with fail
      go_ret
      exact ⟨ret_int HRV.out.symm, Kr⟩
set_option maxHeartbeats 1000000 in
theorem specRepeatsOf_any (v0 v1 : Value) (x : CodeD) (its : List ItemD) (a : Int) (w : World) (h0 : CodeAt w v0 x) (h1 : ItemsAt w v1 its)  :
    Calls Try.prog 36 #[v0, v1, .int .i64 a] w fun e w' => e = .returned (.tuple #[.int .i64 (onI (hasB x its a) (repV its a.toNat)), .bool (hasB x its a)]) ∧ Kept w w' := by
  have H0 := Lib.hid h0
  obtain ⟨n0, m0, rfl, p0, q0⟩ := h0
  have HE0 := Lib.hid p0; have HI0 := Lib.hid q0
  obtain ⟨A0, c0, rfl, hnc0, hcm0, _⟩ := p0.1.out; obtain ⟨D0, d0, rfl, hnd0, hdm0, _⟩ := q0.out; clear p0 q0; unfold maxLen at hcm0 hdm0
  have H1 := Lib.hid h1
  obtain ⟨A1, c1, cs1, rfl, hnc1, hcm1, hA1⟩ := h1.out; have HA1 := Lib.hid hA1; clear hA1 h1; unfold maxLen at hcm1
  go_enter Try.func36, Try.ntmps36
  have K0 := Kept.refl w
  go_wp2_with fail
  obtain ⟨wb1, hwb1⟩ : ∃ w' : World, w' = w.alloc (.cells #[.slice A0 x.elems.length c0, .slice D0 x.limits.length d0, .int .i64 x.repeats, .int .i64 x.bonus, .int .i64 x.keeps, .int .i64 x.fall] 26) := ⟨_, rfl⟩
  rw [← hwb1]
  have KB0 : Kept w wb1 := hwb1 ▸ (Kept.refl w).alloc _
  have B0 : Box wb1 (w.heap.size) 26 #[.slice A0 x.elems.length c0, .slice D0 x.limits.length d0, .int .i64 x.repeats, .int .i64 x.bonus, .int .i64 x.keeps, .int .i64 x.fall] := hwb1 ▸ Box.new w (w.heap.size) 26 #[.slice A0 x.elems.length c0, .slice D0 x.limits.length d0, .int .i64 x.repeats, .int .i64 x.bonus, .int .i64 x.keeps, .int .i64 x.fall] rfl
  have swb1 : wb1.heap.size = w.heap.size + 1 := by rw [hwb1]; simp
  clear hwb1
  have Kwb1 := K0.trans KB0
  refine (bsHas_any _ _ x its a _ (H0.out.kept Kwb1) (H1.out.kept Kwb1)).mono ?_
  rintro e w1 ⟨rfl, k1⟩
  replace B0 := B0.kept k1
  have sz1 := k1.size
  have K1 := Kwb1.trans k1
  by_cases hg : hasB x its a = true
  case neg =>
    simp only [Bool.not_eq_true] at hg
    rw [hg]
    have HO := Lib.hid hg
    clear hg
    obtain ⟨x0, y0⟩ := B0.six
    go_wp2_with fail
    clear x0 y0
    go_ret2
    exact ⟨by rw [HO.out]; rfl, K1⟩
  rw [hg]
  have HG := Lib.hid hg
  obtain ⟨hgd, h0a, hka⟩ := hasB_true hg
  have hb := (gdB_true hgd).2.1
  clear hg
  obtain ⟨k, rfl⟩ := Int.eq_ofNat_of_zero_le h0a
  rw [Int.toNat_natCast] at hka
  obtain ⟨x0, y0⟩ := B0.six
  go_wp2_with fail
  clear x0 y0
  refine (bsRepeats_any _ its k _ (H1.out.kept K1) hb hka).mono ?_
  rintro e w2 ⟨rfl, k2⟩
  replace B0 := B0.kept k2
  have sz2 := k2.size
  have K2 := K1.trans k2
  obtain ⟨x0, y0⟩ := B0.six
  go_wp2_with fail
  clear x0 y0
  go_ret2
  exact ⟨by rw [HG.out]; first | rfl | (simp only [Int.toNat_natCast]; rfl), K2⟩
set_option maxHeartbeats 1000000 in
theorem implRepeatsOf_any (v0 v1 : Value) (x : CodeD) (its : List ItemD) (a : Int) (w : World) (h0 : CodeAt w v0 x) (h1 : ItemsAt w v1 its)  :
    Calls Try.prog 35 #[v0, v1, .int .i64 a] w fun e w' => e = .returned (.tuple #[.int .i64 (onI (hasB x its a) (repV its a.toNat)), .bool (hasB x its a)]) ∧ Kept w w' := by
  have H0 := Lib.hid h0
  obtain ⟨n0, m0, rfl, p0, q0⟩ := h0
  have HE0 := Lib.hid p0; have HI0 := Lib.hid q0
  obtain ⟨A0, c0, rfl, hnc0, hcm0, _⟩ := p0.1.out; obtain ⟨D0, d0, rfl, hnd0, hdm0, _⟩ := q0.out; clear p0 q0; unfold maxLen at hcm0 hdm0
  have H1 := Lib.hid h1
  obtain ⟨A1, c1, cs1, rfl, hnc1, hcm1, hA1⟩ := h1.out; have HA1 := Lib.hid hA1; clear hA1 h1; unfold maxLen at hcm1
  go_enter Try.func35, Try.ntmps35
  have K0 := Kept.refl w
  go_wp2_with fail
  obtain ⟨wb1, hwb1⟩ : ∃ w' : World, w' = w.alloc (.cells #[.slice A0 x.elems.length c0, .slice D0 x.limits.length d0, .int .i64 x.repeats, .int .i64 x.bonus, .int .i64 x.keeps, .int .i64 x.fall] 26) := ⟨_, rfl⟩
  rw [← hwb1]
  have KB0 : Kept w wb1 := hwb1 ▸ (Kept.refl w).alloc _
  have B0 : Box wb1 (w.heap.size) 26 #[.slice A0 x.elems.length c0, .slice D0 x.limits.length d0, .int .i64 x.repeats, .int .i64 x.bonus, .int .i64 x.keeps, .int .i64 x.fall] := hwb1 ▸ Box.new w (w.heap.size) 26 #[.slice A0 x.elems.length c0, .slice D0 x.limits.length d0, .int .i64 x.repeats, .int .i64 x.bonus, .int .i64 x.keeps, .int .i64 x.fall] rfl
  have swb1 : wb1.heap.size = w.heap.size + 1 := by rw [hwb1]; simp
  clear hwb1
  have Kwb1 := K0.trans KB0
  refine (hasKnown_any _ _ x its a _ (H0.out.kept Kwb1) (H1.out.kept Kwb1)).mono ?_
  rintro e w1 ⟨rfl, k1⟩
  replace B0 := B0.kept k1
  have sz1 := k1.size
  have K1 := Kwb1.trans k1
  by_cases hg : hasB x its a = true
  case neg =>
    simp only [Bool.not_eq_true] at hg
    rw [hg]
    have HO := Lib.hid hg
    clear hg
    obtain ⟨x0, y0⟩ := B0.six
    go_wp2_with fail
    clear x0 y0
    go_ret2
    exact ⟨by rw [HO.out]; rfl, K1⟩
  rw [hg]
  have HG := Lib.hid hg
  obtain ⟨hgd, h0a, hka⟩ := hasB_true hg
  have hb := (gdB_true hgd).2.1
  clear hg
  obtain ⟨k, rfl⟩ := Int.eq_ofNat_of_zero_le h0a
  rw [Int.toNat_natCast] at hka
  obtain ⟨x0, y0⟩ := B0.six
  go_wp2_with fail
  clear x0 y0
  refine (repeatsOf_any _ its k _ (H1.out.kept K1) hb hka).mono ?_
  rintro e w2 ⟨rfl, k2⟩
  replace B0 := B0.kept k2
  have sz2 := k2.size
  have K2 := K1.trans k2
  obtain ⟨x0, y0⟩ := B0.six
  go_wp2_with fail
  clear x0 y0
  go_ret2
  exact ⟨by rw [HG.out]; first | rfl | (simp only [Int.toNat_natCast]; rfl), K2⟩
end Go.Proofs.Ytlmaiblfgbobnaa
