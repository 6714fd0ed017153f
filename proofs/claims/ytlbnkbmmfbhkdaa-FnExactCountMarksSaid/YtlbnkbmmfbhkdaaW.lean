/- Marks counted. -/
import Derived.Test.YtlbnkbmmfbhkdaaS
import Derived.Test.YtlbnkbmmfbhkdaaU
namespace Go.Proofs.Ytlbnkbmmfbhkdaa
open Go.RowKit

def cmD (l : List Int) (d : Int) : Int := ((l.filter fun x => decide (x = d)).length : Int)
def cm (l : List Int) : List Int := [cmD l 0, cmD l 1, cmD l 2, cmD l 3]
def allMarks (its : List ItemD) : List Int := its.flatMap ItemD.marks
theorem cmD_snoc (l : List Int) (m d : Int) : cmD (l ++ [m]) d = cmD l d + if m = d then 1 else 0 := by
  unfold cmD
  rw [List.filter_append]
  by_cases h : m = d <;> simp [List.filter_cons, h]
theorem cm_snoc (l : List Int) (m : Int) (h0 : 0 ≤ m) (h3 : m ≤ 3) : cm (l ++ [m]) = (cm l).set m.toNat (cmD l m + 1) := by
  have hm : m = 0 ∨ m = 1 ∨ m = 2 ∨ m = 3 := by omega
  unfold cm
  rcases hm with rfl | rfl | rfl | rfl <;> simp [cmD_snoc]
theorem cm_get (l : List Int) (m : Int) (h0 : 0 ≤ m) (h3 : m ≤ 3) : (cm l)[m.toNat]? = some (cmD l m) := by
  have hm : m = 0 ∨ m = 1 ∨ m = 2 ∨ m = 3 := by omega
  unfold cm
  rcases hm with rfl | rfl | rfl | rfl <;> rfl
theorem cmD_bd (l : List Int) (d : Int) : 0 ≤ cmD l d ∧ cmD l d ≤ l.length := by
  unfold cmD
  have := List.length_filter_le (fun x => decide (x = d)) l
  omega
theorem allMarks_bd {its : List ItemD} (hb : itemsB its = true) (k : Nat) : (allMarks (its.take k)).length ≤ 42 := by
  obtain ⟨h1, h2⟩ := itemsB_true hb
  unfold allMarks
  rw [List.length_flatMap]
  have := sum_le_mul ((its.take k).map fun it => it.marks.length) 3 (by
    intro x hx
    obtain ⟨it, hi, rfl⟩ := List.mem_map.1 hx
    have := itemB_true (h2 it (List.mem_of_mem_take hi))
    omega)
  rw [List.length_map, List.length_take] at this
  omega
theorem allMarks_snoc {its : List ItemD} {k : Nat} {it : ItemD} (h : its[k]? = some it) : allMarks (its.take (k + 1)) = allMarks (its.take k) ++ it.marks := by
  unfold allMarks
  rw [take_snoc h]
  simp
def cmV (its : List ItemD) : List Int := if itemsB its then cm (allMarks its) else []
theorem cmV_len (its : List ItemD) : (cmV its).length ≤ 4 := by unfold cmV; split <;> simp [cm]
set_option maxHeartbeats 2000000 in
theorem implCountMarks_any (v : Value) (its : List ItemD) (w : World) (h : ItemsAt w v its) :
    Calls Try.prog 30 #[v] w fun e w' => ∃ v', e = .returned (.tuple #[v', .bool (itemsB its)]) ∧ OwnI w' w.heap.size v' (cmV its) ∧ Kept w w' := by
  have HI := Lib.hid h
  obtain ⟨A, c, cs, rfl, hnc, hcm, hA⟩ := h.out
  unfold maxLen at hcm
  have HA := Lib.hid hA
  clear hA h
  obtain ⟨i0, hi, hz0, hz1, hz2⟩ := info_parts info_int
  by_cases hb : itemsB its = true
  · go_enter Try.func30, Try.ntmps30
    go_wp2_with fail
    refine (areItems_any _ its _ HI.out).mono ?_
    rintro e w1 ⟨rfl, k1⟩
    have HB := Lib.hid hb
    rw [hb]
    clear hb
    have hs1 := k1.size
    go_wp2_with (at_make; refine wpList_make_full _ rfl _ _ 24 rfl w.heap.size 3 i0 _ 1 Try.underlying24 hi hz0 hz1 _ _ _ _ 4 rfl rfl rfl rfl (by rw [hz2]; omega) (by decide) hs1 ?_; intro w2 hown hgrow)
    have k2 : Kept w1 w2 := (Below.refl _ _).grown hgrow (Nat.le_refl _) (by intro k hk; cases hk)
    have K2 := k1.trans k2
    have hown0 : w2.ownsRow w.heap.size 3 1 (.slice (some ⟨w1.heap.size, 0, none⟩) 4 4) 4 ((cm []).map (Value.int .i64)) := by
      rw [show (cm []).map (Value.int .i64) = (madeCells (Value.int .i64 0).cells (4 * 1)).toList from by kernel_rfl]
      exact hown
    clear hgrow hi hz0 hz1 hz2 hown
    have HW := Lib.hid hown0
    clear hown0
    go_loopw [15] (fun i wr => ∃ k : Nat, k ≤ its.length ∧ i = .int .i64 k ∧ wr.ownsRow w.heap.size 3 1 (.slice (some ⟨w1.heap.size, 0, none⟩) 4 4) 4 ((cm (allMarks (its.take k))).map (Value.int .i64)) ∧ Kept w1 wr) (fun i _ => its.length - (intOf i).toNat)
    case atStart => exact ⟨0, Nat.zero_le _, rfl, by simpa [allMarks] using HW.out, k2⟩
    case round =>
      obtain ⟨wo, rfl⟩ : ∃ wo : World, wo = wr := ⟨_, rfl⟩
      obtain ⟨k, hk, rfl, ho, hkept⟩ := hrel
      by_cases hlt : k < its.length
      · obtain ⟨b, o, A1, c1, A2, c2, it, rfl, hbb, h2, h3, hit, q0, q1, q2⟩ := items_at (HA.out.kept k1) hlt
        replace q0 := (hkept.cell (p := ⟨b, o + k * 3, none⟩) hbb).trans q0
        replace q1 := (hkept.cell (p := ⟨b, o + k * 3 + 1, none⟩) hbb).trans q1
        replace q2 := (hkept.cell (p := ⟨b, o + k * 3 + 2, none⟩) hbb).trans q2
        have hib := (itemsB_true HB.out).2 it (List.mem_of_getElem? h2)
        have HIB := Lib.hid hib
        have hbd := allMarks_bd HB.out k
        have hbd2 := allMarks_bd HB.out (k + 1)
        have HS := Lib.hid (allMarks_snoc h2)
        rw [HS.out, List.length_append] at hbd2
        obtain ⟨nv, mv, ee, r1, r2⟩ := hit
        simp only [Value.agg.injEq] at ee
        simp at ee
        obtain ⟨rfl, rfl⟩ := ee
        have HM := Lib.hid r2
        have HO := Lib.hid ho
        clear h2 h3 r1 r2 hib ho
        generalize allMarks (its.take k) = am at *
        go_wp2_with fail
        go_loopw [22] (fun i wi => ∃ j : Nat, j ≤ it.marks.length ∧ i = .int .i64 j ∧ wi.ownsRow w.heap.size 3 1 (.slice (some ⟨w1.heap.size, 0, none⟩) 4 4) 4 ((cm (am ++ it.marks.take j)).map (Value.int .i64)) ∧ Kept w1 wi) (fun i _ => it.marks.length - (intOf i).toNat)
        case atStart => exact ⟨0, Nat.zero_le _, rfl, by simpa using HO.out.alloc _, hkept.alloc _⟩
        case round =>
          obtain ⟨j, hj, rfl, ho, hki⟩ := hrel
          by_cases hltj : j < it.marks.length
          · obtain ⟨b1, o1, z, rfl, hb1, hz, hc⟩ := ints_at (HM.out.addr.kept hki) hltj
            have hzb := (itemB_true HIB.out).2.2.2.2 z (List.mem_of_getElem? hz)
            obtain ⟨hz0', hz3⟩ := hzb
            have HZ : Hid (am ++ it.marks.take (j + 1) = am ++ it.marks.take j ++ [z]) := Lib.hid (by rw [take_snoc hz, List.append_assoc])
            have HCS := Lib.hid (cm_snoc (am ++ it.marks.take j) z hz0' hz3)
            have hcg := cm_get (am ++ it.marks.take j) z hz0' hz3
            have hbd3 := cmD_bd (am ++ it.marks.take j) z
            have hl3 : (am ++ it.marks.take j).length ≤ 42 := by rw [List.length_append, List.length_take]; omega
            obtain ⟨cb1, cb2⟩ := hbd3
            have hcell : wr.cell? ⟨w1.heap.size, z.toNat, none⟩ = some (.int .i64 (cmD (am ++ it.marks.take j) z)) := by
              rw [ho.cellAt z.toNat (by omega), List.getElem?_map, hcg]
              rfl
            have hfr := ho.frozenAt z.toNat
            have HST := Lib.hid (ho.stored z.toNat (.int .i64 (cmD (am ++ it.marks.take j) z + 1))).1
            have hzi : z < 4 := by omega
            clear hz hcg ho
            generalize hcd : cmD (am ++ it.marks.take j) z = cd at *
            clear hcd
            go_wp2_with fail
            go_roundw
            case rel =>
              refine ⟨j + 1, by omega, by go_num, ?_, Kept.setCell hki (Nat.le_refl _) _⟩
              have := HST.out
              rw [HZ.out, HCS.out, List.map_set]
              exact this
            case measure => simp [intOf]; omega
          · obtain rfl : j = it.marks.length := by omega
            have HO2 := Lib.hid ho
            clear ho
            go_wp2_with fail
            go_roundw
            case rel =>
              refine ⟨k + 1, by omega, by go_num, ?_, hki⟩
              have := HO2.out
              rw [List.take_length] at this
              rw [HS.out]
              exact this
            case measure => simp [intOf]; omega
      · obtain rfl : k = its.length := by omega
        have HO := Lib.hid ho
        clear ho
        go_wp2_with fail
        go_ret2
        refine ⟨_, by rw [HB.out]; rfl, ?_, k1.trans hkept⟩
        have := HO.out
        rw [List.take_length] at this
        unfold cmV OwnI
        rw [HB.out, if_pos rfl]
        exact this
  · simp only [Bool.not_eq_true] at hb
    go_enter Try.func30, Try.ntmps30
    go_wp2_with fail
    refine (areItems_any _ its _ HI.out).mono ?_
    rintro e w1 ⟨rfl, k1⟩
    have HB := Lib.hid hb
    rw [hb]
    clear hb
    go_wp2_with fail
    go_ret2
    refine ⟨_, by rw [HB.out]; rfl, ?_, k1⟩
    unfold cmV
    rw [HB.out]
    exact World.ownsRow_nil _ _ _ _
set_option maxHeartbeats 2000000 in
theorem specCountMarks_any (v : Value) (its : List ItemD) (w : World) (h : ItemsAt w v its) :
    Calls Try.prog 29 #[v] w fun e w' => ∃ v', e = .returned (.tuple #[v', .bool (itemsB its)]) ∧ OwnI w' w.heap.size v' (cmV its) ∧ Kept w w' := by
  have HI := Lib.hid h
  obtain ⟨A, c, cs, rfl, hnc, hcm, hA⟩ := h.out
  unfold maxLen at hcm
  have HA := Lib.hid hA
  clear hA h
  obtain ⟨i0, hi, hz0, hz1, hz2⟩ := info_parts info_int
  by_cases hb : itemsB its = true
  · go_enter Try.func29, Try.ntmps29
    go_wp2_with fail
    refine (itList_any _ its _ HI.out).mono ?_
    rintro e w1 ⟨rfl, k1⟩
    have HB := Lib.hid hb
    rw [hb]
    clear hb
    have hs1 := k1.size
    go_wp2_with (at_make; refine wpList_make_full _ rfl _ _ 24 rfl w.heap.size 3 i0 _ 1 Try.underlying24 hi hz0 hz1 _ _ _ _ 4 rfl rfl rfl rfl (by rw [hz2]; omega) (by decide) hs1 ?_; intro w2 hown hgrow)
    have k2 : Kept w1 w2 := (Below.refl _ _).grown hgrow (Nat.le_refl _) (by intro k hk; cases hk)
    have K2 := k1.trans k2
    have hown0 : w2.ownsRow w.heap.size 3 1 (.slice (some ⟨w1.heap.size, 0, none⟩) 4 4) 4 ((cm []).map (Value.int .i64)) := by
      rw [show (cm []).map (Value.int .i64) = (madeCells (Value.int .i64 0).cells (4 * 1)).toList from by kernel_rfl]
      exact hown
    clear hgrow hi hz0 hz1 hz2 hown
    have HW := Lib.hid hown0
    clear hown0
    go_loopw [15] (fun i wr => ∃ k : Nat, k ≤ its.length ∧ i = .int .i64 k ∧ wr.ownsRow w.heap.size 3 1 (.slice (some ⟨w1.heap.size, 0, none⟩) 4 4) 4 ((cm (allMarks (its.take k))).map (Value.int .i64)) ∧ Kept w1 wr) (fun i _ => its.length - (intOf i).toNat)
    case atStart => exact ⟨0, Nat.zero_le _, rfl, by simpa [allMarks] using HW.out, k2⟩
    case round =>
      obtain ⟨wo, rfl⟩ : ∃ wo : World, wo = wr := ⟨_, rfl⟩
      obtain ⟨k, hk, rfl, ho, hkept⟩ := hrel
      by_cases hlt : k < its.length
      · obtain ⟨b, o, A1, c1, A2, c2, it, rfl, hbb, h2, h3, hit, q0, q1, q2⟩ := items_at (HA.out.kept k1) hlt
        replace q0 := (hkept.cell (p := ⟨b, o + k * 3, none⟩) hbb).trans q0
        replace q1 := (hkept.cell (p := ⟨b, o + k * 3 + 1, none⟩) hbb).trans q1
        replace q2 := (hkept.cell (p := ⟨b, o + k * 3 + 2, none⟩) hbb).trans q2
        have hib := (itemsB_true HB.out).2 it (List.mem_of_getElem? h2)
        have HIB := Lib.hid hib
        have hbd := allMarks_bd HB.out k
        have hbd2 := allMarks_bd HB.out (k + 1)
        have HS := Lib.hid (allMarks_snoc h2)
        rw [HS.out, List.length_append] at hbd2
        obtain ⟨nv, mv, ee, r1, r2⟩ := hit
        simp only [Value.agg.injEq] at ee
        simp at ee
        obtain ⟨rfl, rfl⟩ := ee
        have HM := Lib.hid r2
        have HO := Lib.hid ho
        clear h2 h3 r1 r2 hib ho
        generalize allMarks (its.take k) = am at *
        go_wp2_with fail
        go_loopw [22] (fun i wi => ∃ j : Nat, j ≤ it.marks.length ∧ i = .int .i64 j ∧ wi.ownsRow w.heap.size 3 1 (.slice (some ⟨w1.heap.size, 0, none⟩) 4 4) 4 ((cm (am ++ it.marks.take j)).map (Value.int .i64)) ∧ Kept w1 wi) (fun i _ => it.marks.length - (intOf i).toNat)
        case atStart => exact ⟨0, Nat.zero_le _, rfl, by simpa using HO.out.alloc _, hkept.alloc _⟩
        case round =>
          obtain ⟨j, hj, rfl, ho, hki⟩ := hrel
          by_cases hltj : j < it.marks.length
          · obtain ⟨b1, o1, z, rfl, hb1, hz, hc⟩ := ints_at (HM.out.addr.kept hki) hltj
            have hzb := (itemB_true HIB.out).2.2.2.2 z (List.mem_of_getElem? hz)
            obtain ⟨hz0', hz3⟩ := hzb
            have HZ : Hid (am ++ it.marks.take (j + 1) = am ++ it.marks.take j ++ [z]) := Lib.hid (by rw [take_snoc hz, List.append_assoc])
            have HCS := Lib.hid (cm_snoc (am ++ it.marks.take j) z hz0' hz3)
            have hcg := cm_get (am ++ it.marks.take j) z hz0' hz3
            have hbd3 := cmD_bd (am ++ it.marks.take j) z
            have hl3 : (am ++ it.marks.take j).length ≤ 42 := by rw [List.length_append, List.length_take]; omega
            obtain ⟨cb1, cb2⟩ := hbd3
            have hcell : wr.cell? ⟨w1.heap.size, z.toNat, none⟩ = some (.int .i64 (cmD (am ++ it.marks.take j) z)) := by
              rw [ho.cellAt z.toNat (by omega), List.getElem?_map, hcg]
              rfl
            have hfr := ho.frozenAt z.toNat
            have HST := Lib.hid (ho.stored z.toNat (.int .i64 (cmD (am ++ it.marks.take j) z + 1))).1
            have hzi : z < 4 := by omega
            clear hz hcg ho
            generalize hcd : cmD (am ++ it.marks.take j) z = cd at *
            clear hcd
            go_wp2_with fail
            go_roundw
            case rel =>
              refine ⟨j + 1, by omega, by go_num, ?_, Kept.setCell hki (Nat.le_refl _) _⟩
              have := HST.out
              rw [HZ.out, HCS.out, List.map_set]
              exact this
            case measure => simp [intOf]; omega
          · obtain rfl : j = it.marks.length := by omega
            have HO2 := Lib.hid ho
            clear ho
            go_wp2_with fail
            go_roundw
            case rel =>
              refine ⟨k + 1, by omega, by go_num, ?_, hki⟩
              have := HO2.out
              rw [List.take_length] at this
              rw [HS.out]
              exact this
            case measure => simp [intOf]; omega
      · obtain rfl : k = its.length := by omega
        have HO := Lib.hid ho
        clear ho
        go_wp2_with fail
        go_ret2
        refine ⟨_, by rw [HB.out]; rfl, ?_, k1.trans hkept⟩
        have := HO.out
        rw [List.take_length] at this
        unfold cmV OwnI
        rw [HB.out, if_pos rfl]
        exact this
  · simp only [Bool.not_eq_true] at hb
    go_enter Try.func29, Try.ntmps29
    go_wp2_with fail
    refine (itList_any _ its _ HI.out).mono ?_
    rintro e w1 ⟨rfl, k1⟩
    have HB := Lib.hid hb
    rw [hb]
    clear hb
    go_wp2_with fail
    go_ret2
    refine ⟨_, by rw [HB.out]; rfl, ?_, k1⟩
    unfold cmV
    rw [HB.out]
    exact World.ownsRow_nil _ _ _ _
set_option maxHeartbeats 4000000 in
theorem lawCountMarks_any {w : World} {v0 : Value} (z0 : List ItemD) (h0 : ItemsAt w v0 z0) :
    Calls Try.prog 8 #[v0] w fun e w' => e = .returned (.bool true) ∧ Kept w w' := by
  have H0 := Lib.hid h0
  clear h0
  go_enter Try.func8, Try.ntmps8
  have K0 := Kept.refl w
  go_wp2_with fail
  refine (szItemS_any _ z0 _ _ (H0.out.kept K0) (by omega) (by omega)).mono ?_
  rintro e w1 ⟨rfl, k1⟩
  have K1 := K0.trans k1
  have sz1 := k1.size
  by_cases hbig0 : ((itemsSize z0 : Nat) : Int) ≤ 1048576
  case neg =>
    have e1 : lessOr 1048576 (itemsSize z0) = -1 := by unfold lessOr; exact if_neg (by omega)
    rw [e1]
    go_wp2_with fail
    go_ret
    exact ⟨rfl, K1⟩
  have e1 : lessOr 1048576 (itemsSize z0) = 1048576 - (itemsSize z0 : Int) := by unfold lessOr; exact if_pos (by omega)
  rw [e1]
  clear e1
  have hX := cmV_len z0
  have sz0 := K1.size
  go_wp2_with fail
  refine (toItemS_any _ z0 _ (H0.out.kept K1) (by omega)).mono ?_
  rintro e w2 ⟨u2, S2, rfl, o2, k2⟩
  have K2 := K1.trans k2
  have sz2 := k2.size
  have R2 := Lib.hid o2.items
  clear o2
  go_wp2_with fail
  refine (specCountMarks_any _ z0 _ R2.out).mono ?_
  rintro e w3 ⟨u3, rfl, o3, k3⟩
  replace R2 := Lib.hid (R2.out.kept k3)
  have K3 := K2.trans k3
  have sz3 := k3.size
  clear R2
  have RS := Lib.hid o3.ints
  clear o3
  have KS := Kept.refl w3
  go_wp2_with fail
  refine (toItemS_any _ z0 _ (H0.out.kept K3) (by omega)).mono ?_
  rintro e w4 ⟨u4, S4, rfl, o4, k4⟩
  have K4 := K3.trans k4
  have sz4 := k4.size
  replace KS := KS.trans k4
  obtain ⟨cs4, oc4, rfl, hF4⟩ := o4.toC
  have O4 := Lib.hid oc4
  have F4 := Lib.hid hF4
  clear o4 oc4 hF4
  go_wp2_with fail
  refine (implCountMarks_any _ z0 _ O4.out.items).mono ?_
  rintro e w5 ⟨u5, rfl, o5, k5⟩
  have K5 := K4.trans k5
  have sz5 := k5.size
  replace O4 := Lib.hid (O4.out.kept k5)
  replace KS := KS.trans k5
  have F5 := Lib.hid (own_fp o5)
  have O5 := Lib.hid o5
  clear o5
  go_wp2_with fail
  refine (eqIntS_any _ _ (cmV z0) (cmV z0) _ O5.out.ints (RS.out.kept KS)).mono ?_
  rintro e w6 ⟨rfl, k6⟩
  have K6 := K5.trans k6
  have sz6 := k6.size
  replace O4 := Lib.hid (O4.out.kept k6)
  replace O5 := Lib.hid (O5.out.kept k6)
  replace KS := KS.trans k6
  rw [show decide ((cmV z0) = (cmV z0)) = true from by simp]
  go_wp2_with fail
  refine (toItemS_any _ z0 _ (H0.out.kept K6) (by omega)).mono ?_
  rintro e w7 ⟨u7, S7, rfl, o7, k7⟩
  have K7 := K6.trans k7
  have sz7 := k7.size
  replace O4 := Lib.hid (O4.out.kept k7)
  replace O5 := Lib.hid (O5.out.kept k7)
  replace KS := KS.trans k7
  have R7 := Lib.hid o7.items
  clear o7
  go_wp2_with fail
  refine (eqItemS_any _ _ z0 _ O4.out.items R7.out).mono ?_
  rintro e w8 ⟨rfl, k8⟩
  replace R7 := Lib.hid (R7.out.kept k8)
  have K8 := K7.trans k8
  have sz8 := k8.size
  replace O4 := Lib.hid (O4.out.kept k8)
  replace O5 := Lib.hid (O5.out.kept k8)
  replace KS := KS.trans k8
  clear R7
  have nb4 := nk_bd (1) z0
  go_wp2_with fail
  refine (markItemS_any _ z0 cs4 _ _ _ O4.out (by omega) (by omega) (by omega)).mono ?_
  rintro e w9 ⟨rfl, o9, on9⟩
  have sz9 := on9.size
  replace O5 := Lib.hid (O5.out.only on9 (fun b hb hb' => by have := F5.out b hb; have := F4.out b hb'; omega))
  replace KS := on9.above KS (fun b hb => by have := F4.out b hb; omega)
  have K9 := on9.above K8 (fun b hb => by have := F4.out b hb; omega)
  replace O4 := Lib.hid o9
  clear o9 on9
  go_wp2_with fail
  refine (eqIntS_any _ _ (cmV z0) (cmV z0) _ O5.out.ints (RS.out.kept KS)).mono ?_
  rintro e w10 ⟨rfl, k10⟩
  have K10 := K9.trans k10
  have sz10 := k10.size
  replace O4 := Lib.hid (O4.out.kept k10)
  replace O5 := Lib.hid (O5.out.kept k10)
  replace KS := KS.trans k10
  rw [show decide ((cmV z0) = (cmV z0)) = true from by simp]
  go_wp2_with fail
  refine (markIntS_any _ (cmV z0) _ _ _ O5.out (by omega) (by omega) (by omega)).mono ?_
  rintro e w11 ⟨rfl, o11, on11⟩
  have sz11 := on11.size
  replace O4 := Lib.hid (O4.out.only on11 (fun b hb hb' => by have := F4.out b hb; have := F5.out b hb'; omega))
  replace KS := on11.above KS (fun b hb => by have := F5.out b hb; omega)
  have K11 := on11.above K10 (fun b hb => by have := F5.out b hb; omega)
  replace O5 := Lib.hid o11
  clear o11 on11
  go_wp2_with fail
  refine (heldIntS_any _ _ ((cmV z0)).length _ O5.out.ints (by omega) (by omega) (by omega)).mono ?_
  rintro e w12 ⟨rfl, k12⟩
  replace k12 := kept_of k12
  have K12 := K11.trans k12
  have sz12 := k12.size
  replace O4 := Lib.hid (O4.out.kept k12)
  replace O5 := Lib.hid (O5.out.kept k12)
  replace KS := KS.trans k12
  go_wp2_with fail
  refine (toItemS_any _ z0 _ (H0.out.kept K12) (by omega)).mono ?_
  rintro e w13 ⟨u13, S13, rfl, o13, k13⟩
  have K13 := K12.trans k13
  have sz13 := k13.size
  replace O4 := Lib.hid (O4.out.kept k13)
  replace O5 := Lib.hid (O5.out.kept k13)
  replace KS := KS.trans k13
  have R13 := Lib.hid o13.items
  clear o13
  go_wp2_with fail
  refine (implCountMarks_any _ z0 _ R13.out).mono ?_
  rintro e w14 ⟨u14, rfl, o14, k14⟩
  replace R13 := Lib.hid (R13.out.kept k14)
  have K14 := K13.trans k14
  have sz14 := k14.size
  replace O4 := Lib.hid (O4.out.kept k14)
  replace O5 := Lib.hid (O5.out.kept k14)
  replace KS := KS.trans k14
  clear R13
  have RH := Lib.hid o14.ints
  clear o14
  go_wp2_with fail
  refine (eqIntS_any _ _ (cmV z0) (cmV z0) _ RH.out (RS.out.kept KS)).mono ?_
  rintro e w15 ⟨rfl, k15⟩
  have K15 := K14.trans k15
  have sz15 := k15.size
  replace O4 := Lib.hid (O4.out.kept k15)
  replace O5 := Lib.hid (O5.out.kept k15)
  replace KS := KS.trans k15
  rw [show decide ((cmV z0) = (cmV z0)) = true from by simp]
  go_wp2_with fail
  refine (heldIntS_any _ _ ((cmV z0)).length _ O5.out.ints (by omega) (by omega) (by omega)).mono ?_
  rintro e w16 ⟨rfl, k16⟩
  replace k16 := kept_of k16
  have K16 := K15.trans k16
  have sz16 := k16.size
  replace O4 := Lib.hid (O4.out.kept k16)
  replace O5 := Lib.hid (O5.out.kept k16)
  replace KS := KS.trans k16
  go_wp2_with fail
  go_ret
  exact ⟨rfl, K16⟩
end Go.Proofs.Ytlbnkbmmfbhkdaa
