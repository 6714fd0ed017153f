/- CleanItems, MarkLate: the laws. -/
import Derived.Test.YtmbgcmeiigmbaaaOf
namespace Go.Proofs.Ytmbgcmeiigmbaaa
open Go.RowKit

theorem nameB_size {z : ByteArray} (h : nameB z = true) : z.size ≤ 5 := by
  unfold nameB at h
  simp only [Bool.and_eq_true] at h
  have := inB_true h.2
  omega
theorem item_size21 {it : ItemD} (h : itemB it = true) : it.size ≤ 21 := by
  have h1 := itemB_true h
  unfold ItemD.size strsSize
  have h2 := sum_le_mul (it.names.map ByteArray.size) 5 (by
    intro x hx
    obtain ⟨z, hz, rfl⟩ := List.mem_map.1 hx
    exact nameB_size (h1.1 z hz))
  rw [List.length_map] at h2
  omega
theorem items_size {its : List ItemD} (h : its.all itemB = true) : itemsSize its ≤ its.length * 22 := by
  unfold itemsSize
  have h2 := sum_le_mul (its.map ItemD.size) 21 (by
    intro x hx
    obtain ⟨it, hi, rfl⟩ := List.mem_map.1 hx
    exact item_size21 (List.all_eq_true.1 h it hi))
  rw [List.length_map] at h2
  omega
theorem onT_size {b : Bool} {l : List ItemD} {n : Nat} (h : b = true → itemsSize l ≤ n) : itemsSize (onT b l) ≤ n := by cases b with | true => exact h rfl | false => exact Nat.zero_le _
theorem lated_itemB {its : List ItemD} (h : its.all itemB = true) : (lated its).all itemB = true := by
  rw [List.all_eq_true]
  intro x hx
  obtain ⟨k, hk⟩ := List.getElem?_of_mem hx
  have hlt : k < its.length := by have := (List.getElem?_eq_some_iff.1 hk).1; rwa [lated_length] at this
  rw [lated_get (List.getElem?_eq_getElem hlt)] at hk
  injection hk with hk
  subst hk
  exact List.all_eq_true.1 h its[k] (List.getElem_mem hlt)
theorem cleaned_itemB {its : List ItemD} (h : its.all itemB = true) : (cleaned its).all itemB = true := by
  rw [List.all_eq_true]
  intro x hx
  unfold cleaned at hx
  obtain ⟨it, hi, rfl⟩ := List.mem_map.1 hx
  have h1 := List.all_eq_true.1 h it hi
  unfold itemB at h1 ⊢
  simp only [Bool.and_eq_true] at h1 ⊢
  refine ⟨⟨⟨h1.1.1.1, h1.1.1.2⟩, by simp [cleanIt]⟩, ?_⟩
  rw [List.all_eq_true]
  intro m hm
  have : m = 0 := List.eq_of_mem_replicate hm
  subst this
  rfl
theorem all_of {its : List ItemD} (h : itemsB its = true) : its.all itemB = true := List.all_eq_true.2 (fun it hi => (itemsB_true h).2 it hi)
set_option maxHeartbeats 4000000 in
theorem lawCleanItems_any {w : World} {v0 : Value} (z0 : List ItemD) (h0 : ItemsAt w v0 z0) :
    Calls Try.prog 4 #[v0] w fun e w' => e = .returned (.bool true) ∧ Kept w w' := by
  have H0 := Lib.hid h0
  clear h0
  go_enter Try.func4, Try.ntmps4
  have K0 := Kept.refl w
  go_wp2_with fail
  refine (szItemS_any _ z0 _ _ (H0.out.kept K0) (by omega) (by omega)).mono ?_
  rintro e w1 ⟨rfl, k1⟩
  have sz1 := k1.size
  have K1 := K0.trans k1
  by_cases hbig0 : ((itemsSize z0 : Nat) : Int) ≤ 1048576
  case neg =>
    have e1 : lessOr 1048576 (itemsSize z0) = -1 := by unfold lessOr; exact if_neg (by omega)
    rw [e1]
    go_wp2_with fail
    go_ret
    exact ⟨rfl, K1⟩
  have e1 : lessOr 1048576 (itemsSize z0) = 1048576 - (itemsSize z0 : Int) := by unfold lessOr; exact if_pos (by omega)
  rw [e1]
  clear e1
  have hX : itemsSize (onT (itemsB z0) (cleaned z0)) ≤ 308 := onT_size (fun h => by have h1 := items_size (cleaned_itemB (all_of h)); have h2 := (itemsB_true h).1; rw [cleaned_length] at h1; omega)
  go_wp2_with fail
  refine (toItemS_any _ z0 _ (H0.out.kept K1) (by omega)).mono ?_
  rintro e w2 ⟨u2, S2, rfl, o2, k2⟩
  have sz2 := k2.size
  have K2 := K1.trans k2
  have R2 := Lib.hid o2.items
  clear o2
  go_wp2_with fail
  refine (specCleanItems_any _ z0 _ R2.out).mono ?_
  rintro e w3 ⟨u3, S3, rfl, o3, k3⟩
  replace R2 := Lib.hid (R2.out.kept k3)
  have sz3 := k3.size
  have K3 := K2.trans k3
  clear R2
  have RS := Lib.hid o3.items
  clear o3
  have KS := Kept.refl w3
  go_wp2_with fail
  refine (toItemS_any _ z0 _ (H0.out.kept K3) (by omega)).mono ?_
  rintro e w4 ⟨u4, S4, rfl, o4, k4⟩
  replace KS := KS.trans k4
  have sz4 := k4.size
  have K4 := K3.trans k4
  obtain ⟨cs4, oc4, rfl, hF4⟩ := o4.toC
  have O4 := Lib.hid oc4
  have F4 := Lib.hid hF4
  clear o4 oc4 hF4
  go_wp2_with fail
  refine (implCleanItems_any _ z0 _ O4.out.items).mono ?_
  rintro e w5 ⟨u5, S5, rfl, o5, k5⟩
  replace O4 := Lib.hid (O4.out.kept k5)
  replace KS := KS.trans k5
  have sz5 := k5.size
  have K5 := K4.trans k5
  obtain ⟨cs5, oc5, rfl, hF5⟩ := o5.toC
  have O5 := Lib.hid oc5
  have F5 := Lib.hid hF5
  clear o5 oc5 hF5
  go_wp2_with fail
  refine (eqItemS_any _ _ (onT (itemsB z0) (cleaned z0)) _ O5.out.items (RS.out.kept KS)).mono ?_
  rintro e w6 ⟨rfl, k6⟩
  replace O4 := Lib.hid (O4.out.kept k6)
  replace O5 := Lib.hid (O5.out.kept k6)
  replace KS := KS.trans k6
  have sz6 := k6.size
  have K6 := K5.trans k6
  go_wp2_with fail
  refine (toItemS_any _ z0 _ (H0.out.kept K6) (by omega)).mono ?_
  rintro e w7 ⟨u7, S7, rfl, o7, k7⟩
  replace O4 := Lib.hid (O4.out.kept k7)
  replace O5 := Lib.hid (O5.out.kept k7)
  replace KS := KS.trans k7
  have sz7 := k7.size
  have K7 := K6.trans k7
  have R7 := Lib.hid o7.items
  clear o7
  go_wp2_with fail
  refine (eqItemS_any _ _ (z0) _ O4.out.items R7.out).mono ?_
  rintro e w8 ⟨rfl, k8⟩
  replace R7 := Lib.hid (R7.out.kept k8)
  replace O4 := Lib.hid (O4.out.kept k8)
  replace O5 := Lib.hid (O5.out.kept k8)
  replace KS := KS.trans k8
  have sz8 := k8.size
  have K8 := K7.trans k8
  clear R7
  have nb4 := nk_bd (1) z0
  go_wp2_with fail
  refine (markItemS_any _ z0 cs4 _ _ _ O4.out (by omega) (by omega) (by omega)).mono ?_
  rintro e w9 ⟨rfl, o9, on9⟩
  have sz9 := on9.size
  replace O5 := Lib.hid (O5.out.only on9 (fun b hb hb' => by have := F5.out b hb; have := F4.out b hb'; omega))
  replace KS := on9.above KS (fun b hb => by have := F4.out b hb; omega)
  have K9 := on9.above K8 (fun b hb => by have := F4.out b hb; omega)
  replace O4 := Lib.hid o9
  clear o9 on9
  go_wp2_with fail
  refine (eqItemS_any _ _ (onT (itemsB z0) (cleaned z0)) _ O5.out.items (RS.out.kept KS)).mono ?_
  rintro e w10 ⟨rfl, k10⟩
  replace O4 := Lib.hid (O4.out.kept k10)
  replace O5 := Lib.hid (O5.out.kept k10)
  replace KS := KS.trans k10
  have sz10 := k10.size
  have K10 := K9.trans k10
  have nbR := nk_bd 1 (onT (itemsB z0) (cleaned z0))
  go_wp2_with fail
  refine (markItemS_any _ (onT (itemsB z0) (cleaned z0)) cs5 _ _ _ O5.out (by omega) (by omega) (by omega)).mono ?_
  rintro e w11 ⟨rfl, o11, on11⟩
  have sz11 := on11.size
  replace O4 := Lib.hid (O4.out.only on11 (fun b hb hb' => by have := F4.out b hb; have := F5.out b hb'; omega))
  replace KS := on11.above KS (fun b hb => by have := F5.out b hb; omega)
  have K11 := on11.above K10 (fun b hb => by have := F5.out b hb; omega)
  replace O5 := Lib.hid o11
  clear o11 on11
  go_wp2_with fail
  refine (heldItemS_any _ (onT (itemsB z0) (cleaned z0)) _ _ O5.out.items (by omega) (by omega) (by omega)).mono ?_
  rintro e w12 ⟨rfl, k12⟩
  replace O4 := Lib.hid (O4.out.kept k12)
  replace O5 := Lib.hid (O5.out.kept k12)
  replace KS := KS.trans k12
  have sz12 := k12.size
  have K12 := K11.trans k12
  go_wp2_with fail
  refine (toItemS_any _ z0 _ (H0.out.kept K12) (by omega)).mono ?_
  rintro e w13 ⟨u13, S13, rfl, o13, k13⟩
  replace O4 := Lib.hid (O4.out.kept k13)
  replace O5 := Lib.hid (O5.out.kept k13)
  replace KS := KS.trans k13
  have sz13 := k13.size
  have K13 := K12.trans k13
  have R13 := Lib.hid o13.items
  clear o13
  go_wp2_with fail
  refine (implCleanItems_any _ z0 _ R13.out).mono ?_
  rintro e w14 ⟨u14, S14, rfl, o14, k14⟩
  replace R13 := Lib.hid (R13.out.kept k14)
  replace O4 := Lib.hid (O4.out.kept k14)
  replace O5 := Lib.hid (O5.out.kept k14)
  replace KS := KS.trans k14
  have sz14 := k14.size
  have K14 := K13.trans k14
  clear R13
  have RH := Lib.hid o14.items
  clear o14
  go_wp2_with fail
  refine (eqItemS_any _ _ (onT (itemsB z0) (cleaned z0)) _ RH.out (RS.out.kept KS)).mono ?_
  rintro e w15 ⟨rfl, k15⟩
  replace RH := Lib.hid (RH.out.kept k15)
  replace O4 := Lib.hid (O4.out.kept k15)
  replace O5 := Lib.hid (O5.out.kept k15)
  replace KS := KS.trans k15
  have sz15 := k15.size
  have K15 := K14.trans k15
  go_wp2_with fail
  refine (heldItemS_any _ (onT (itemsB z0) (cleaned z0)) _ _ O5.out.items (by omega) (by omega) (by omega)).mono ?_
  rintro e w16 ⟨rfl, k16⟩
  replace RH := Lib.hid (RH.out.kept k16)
  replace O4 := Lib.hid (O4.out.kept k16)
  replace O5 := Lib.hid (O5.out.kept k16)
  replace KS := KS.trans k16
  have sz16 := k16.size
  have K16 := K15.trans k16
  go_wp2_with fail
  go_ret
  exact ⟨rfl, K16⟩
set_option maxHeartbeats 4000000 in
theorem lawMarkLate_any {w : World} {v0 : Value} (z0 : List ItemD) (h0 : ItemsAt w v0 z0) :
    Calls Try.prog 5 #[v0] w fun e w' => e = .returned (.bool true) ∧ Kept w w' := by
  have H0 := Lib.hid h0
  clear h0
  go_enter Try.func5, Try.ntmps5
  have K0 := Kept.refl w
  go_wp2_with fail
  refine (szItemS_any _ z0 _ _ (H0.out.kept K0) (by omega) (by omega)).mono ?_
  rintro e w1 ⟨rfl, k1⟩
  have sz1 := k1.size
  have K1 := K0.trans k1
  by_cases hbig0 : ((itemsSize z0 : Nat) : Int) ≤ 1048576
  case neg =>
    have e1 : lessOr 1048576 (itemsSize z0) = -1 := by unfold lessOr; exact if_neg (by omega)
    rw [e1]
    go_wp2_with fail
    go_ret
    exact ⟨rfl, K1⟩
  have e1 : lessOr 1048576 (itemsSize z0) = 1048576 - (itemsSize z0 : Int) := by unfold lessOr; exact if_pos (by omega)
  rw [e1]
  clear e1
  have hX : itemsSize (onT (itemsB z0) (lated z0)) ≤ 308 := onT_size (fun h => by have h1 := items_size (lated_itemB (all_of h)); have h2 := (itemsB_true h).1; rw [lated_length] at h1; omega)
  go_wp2_with fail
  refine (toItemS_any _ z0 _ (H0.out.kept K1) (by omega)).mono ?_
  rintro e w2 ⟨u2, S2, rfl, o2, k2⟩
  have sz2 := k2.size
  have K2 := K1.trans k2
  have R2 := Lib.hid o2.items
  clear o2
  go_wp2_with fail
  refine (specMarkLate_any _ z0 _ R2.out).mono ?_
  rintro e w3 ⟨u3, S3, rfl, o3, k3⟩
  replace R2 := Lib.hid (R2.out.kept k3)
  have sz3 := k3.size
  have K3 := K2.trans k3
  clear R2
  have RS := Lib.hid o3.items
  clear o3
  have KS := Kept.refl w3
  go_wp2_with fail
  refine (toItemS_any _ z0 _ (H0.out.kept K3) (by omega)).mono ?_
  rintro e w4 ⟨u4, S4, rfl, o4, k4⟩
  replace KS := KS.trans k4
  have sz4 := k4.size
  have K4 := K3.trans k4
  obtain ⟨cs4, oc4, rfl, hF4⟩ := o4.toC
  have O4 := Lib.hid oc4
  have F4 := Lib.hid hF4
  clear o4 oc4 hF4
  go_wp2_with fail
  refine (implMarkLate_any _ z0 _ O4.out.items).mono ?_
  rintro e w5 ⟨u5, S5, rfl, o5, k5⟩
  replace O4 := Lib.hid (O4.out.kept k5)
  replace KS := KS.trans k5
  have sz5 := k5.size
  have K5 := K4.trans k5
  obtain ⟨cs5, oc5, rfl, hF5⟩ := o5.toC
  have O5 := Lib.hid oc5
  have F5 := Lib.hid hF5
  clear o5 oc5 hF5
  go_wp2_with fail
  refine (eqItemS_any _ _ (onT (itemsB z0) (lated z0)) _ O5.out.items (RS.out.kept KS)).mono ?_
  rintro e w6 ⟨rfl, k6⟩
  replace O4 := Lib.hid (O4.out.kept k6)
  replace O5 := Lib.hid (O5.out.kept k6)
  replace KS := KS.trans k6
  have sz6 := k6.size
  have K6 := K5.trans k6
  go_wp2_with fail
  refine (toItemS_any _ z0 _ (H0.out.kept K6) (by omega)).mono ?_
  rintro e w7 ⟨u7, S7, rfl, o7, k7⟩
  replace O4 := Lib.hid (O4.out.kept k7)
  replace O5 := Lib.hid (O5.out.kept k7)
  replace KS := KS.trans k7
  have sz7 := k7.size
  have K7 := K6.trans k7
  have R7 := Lib.hid o7.items
  clear o7
  go_wp2_with fail
  refine (eqItemS_any _ _ (z0) _ O4.out.items R7.out).mono ?_
  rintro e w8 ⟨rfl, k8⟩
  replace R7 := Lib.hid (R7.out.kept k8)
  replace O4 := Lib.hid (O4.out.kept k8)
  replace O5 := Lib.hid (O5.out.kept k8)
  replace KS := KS.trans k8
  have sz8 := k8.size
  have K8 := K7.trans k8
  clear R7
  have nb4 := nk_bd (1) z0
  go_wp2_with fail
  refine (markItemS_any _ z0 cs4 _ _ _ O4.out (by omega) (by omega) (by omega)).mono ?_
  rintro e w9 ⟨rfl, o9, on9⟩
  have sz9 := on9.size
  replace O5 := Lib.hid (O5.out.only on9 (fun b hb hb' => by have := F5.out b hb; have := F4.out b hb'; omega))
  replace KS := on9.above KS (fun b hb => by have := F4.out b hb; omega)
  have K9 := on9.above K8 (fun b hb => by have := F4.out b hb; omega)
  replace O4 := Lib.hid o9
  clear o9 on9
  go_wp2_with fail
  refine (eqItemS_any _ _ (onT (itemsB z0) (lated z0)) _ O5.out.items (RS.out.kept KS)).mono ?_
  rintro e w10 ⟨rfl, k10⟩
  replace O4 := Lib.hid (O4.out.kept k10)
  replace O5 := Lib.hid (O5.out.kept k10)
  replace KS := KS.trans k10
  have sz10 := k10.size
  have K10 := K9.trans k10
  have nbR := nk_bd 1 (onT (itemsB z0) (lated z0))
  go_wp2_with fail
  refine (markItemS_any _ (onT (itemsB z0) (lated z0)) cs5 _ _ _ O5.out (by omega) (by omega) (by omega)).mono ?_
  rintro e w11 ⟨rfl, o11, on11⟩
  have sz11 := on11.size
  replace O4 := Lib.hid (O4.out.only on11 (fun b hb hb' => by have := F4.out b hb; have := F5.out b hb'; omega))
  replace KS := on11.above KS (fun b hb => by have := F5.out b hb; omega)
  have K11 := on11.above K10 (fun b hb => by have := F5.out b hb; omega)
  replace O5 := Lib.hid o11
  clear o11 on11
  go_wp2_with fail
  refine (heldItemS_any _ (onT (itemsB z0) (lated z0)) _ _ O5.out.items (by omega) (by omega) (by omega)).mono ?_
  rintro e w12 ⟨rfl, k12⟩
  replace O4 := Lib.hid (O4.out.kept k12)
  replace O5 := Lib.hid (O5.out.kept k12)
  replace KS := KS.trans k12
  have sz12 := k12.size
  have K12 := K11.trans k12
  go_wp2_with fail
  refine (toItemS_any _ z0 _ (H0.out.kept K12) (by omega)).mono ?_
  rintro e w13 ⟨u13, S13, rfl, o13, k13⟩
  replace O4 := Lib.hid (O4.out.kept k13)
  replace O5 := Lib.hid (O5.out.kept k13)
  replace KS := KS.trans k13
  have sz13 := k13.size
  have K13 := K12.trans k13
  have R13 := Lib.hid o13.items
  clear o13
  go_wp2_with fail
  refine (implMarkLate_any _ z0 _ R13.out).mono ?_
  rintro e w14 ⟨u14, S14, rfl, o14, k14⟩
  replace R13 := Lib.hid (R13.out.kept k14)
  replace O4 := Lib.hid (O4.out.kept k14)
  replace O5 := Lib.hid (O5.out.kept k14)
  replace KS := KS.trans k14
  have sz14 := k14.size
  have K14 := K13.trans k14
  clear R13
  have RH := Lib.hid o14.items
  clear o14
  go_wp2_with fail
  refine (eqItemS_any _ _ (onT (itemsB z0) (lated z0)) _ RH.out (RS.out.kept KS)).mono ?_
  rintro e w15 ⟨rfl, k15⟩
  replace RH := Lib.hid (RH.out.kept k15)
  replace O4 := Lib.hid (O4.out.kept k15)
  replace O5 := Lib.hid (O5.out.kept k15)
  replace KS := KS.trans k15
  have sz15 := k15.size
  have K15 := K14.trans k15
  go_wp2_with fail
  refine (heldItemS_any _ (onT (itemsB z0) (lated z0)) _ _ O5.out.items (by omega) (by omega) (by omega)).mono ?_
  rintro e w16 ⟨rfl, k16⟩
  replace RH := Lib.hid (RH.out.kept k16)
  replace O4 := Lib.hid (O4.out.kept k16)
  replace O5 := Lib.hid (O5.out.kept k16)
  replace KS := KS.trans k16
  have sz16 := k16.size
  have K16 := K15.trans k16
  go_wp2_with fail
  go_ret
  exact ⟨rfl, K16⟩
end Go.Proofs.Ytmbgcmeiigmbaaa
