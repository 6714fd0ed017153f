/- Contracts of functions that the proof leans on. No condition. -/
import Derived.Test.YtkkdhmbkpebajaaDoorMbaab03b139
import Derived.Deep.DeepCutAuto
/- Items: reading their text, the reference's side. -/
namespace Go.Proofs.YtkkdhmbkpebajaaDoor
set_option linter.unusedVariables false
set_option linter.unusedSimpArgs false
set_option linter.unnecessarySimpa false
open Go.RowKit Go.Lib

/-- the mark found among the first j signs -/
def mkAt (e : Int) (j : Nat) : Int := if e < (j : Int) then e else 0
theorem mkAt_start {e : Int} (h : 0 ≤ e) : mkAt e 0 = 0 := by unfold mkAt; split <;> omega
theorem mkAt_hit {e : Int} {j : Nat} (h : e = (j : Int)) : mkAt e (j + 1) = (j : Int) := by unfold mkAt; rw [if_pos (by omega), h]
theorem mkAt_miss {e : Int} {j : Nat} (h : ¬ e = (j : Int)) : mkAt e (j + 1) = mkAt e j := by
  unfold mkAt
  by_cases h1 : e < (j : Int)
  · rw [if_pos h1, if_pos (by omega)]
  · rw [if_neg h1, if_neg (by omega)]
theorem mkAt_zero {e : Int} {j : Nat} (h : (j : Int) = 0) (h0 : 0 ≤ e) : mkAt e (j + 1) = mkAt e j := by
  unfold mkAt
  rw [if_neg (by omega : ¬ e < (j : Int))]
  split <;> omega
theorem mkAt_end {e : Int} (h : e ≤ 3) : mkAt e 4 = e := by unfold mkAt; rw [if_pos (by omega)]
theorem mkAt_bd {e : Int} (j : Nat) (h0 : 0 ≤ e) (h3 : e ≤ 3) : 0 ≤ mkAt e j ∧ mkAt e j ≤ 3 := by unfold mkAt; split <;> omega
theorem spB_ne (b : UInt8) (t : ByteArray) : spB b t ≠ [] := by
  unfold spB
  intro h
  exact splitOn_ne _ _ (List.map_eq_nil_iff.1 h)
theorem nmW_sz (z : ByteArray) : (nmW z).size ≤ z.size := by
  unfold nmW nameM
  rw [size_eq, size_eq]
  unfold cutM
  split
  · exact Nat.le_refl _
  · simp
theorem sufx {s : ByteArray} (h : 2 ≤ s.size) : hasSuffix s.data.toList [32, 120] = true ↔ s.extract (s.size - 2) s.size = ⟨#[32, 120]⟩ := by
  have e : s.extract (s.size - 2) s.size = tx (s.data.toList.drop (s.data.toList.length - 2)) := by
    rw [pc_ext]
    unfold pc
    rw [size_eq, List.take_length]
  rw [e]
  constructor
  · intro hs
    obtain ⟨t, ht⟩ := List.isSuffixOf_iff_suffix.1 hs
    rw [← ht]
    have : (t ++ [32, 120]).length - 2 = t.length := by simp
    rw [this, List.drop_left' rfl]
    rfl
  · intro hs
    have h2 : s.data.toList.drop (s.data.toList.length - 2) = [32, 120] := tx_inj hs
    exact List.isSuffixOf_iff_suffix.2 ⟨s.data.toList.take (s.data.toList.length - 2), by rw [← h2, List.take_append_drop]⟩
theorem sufx_cut {s : ByteArray} (h : hasSuffix s.data.toList [32, 120] = true) : trimSuffix s.data.toList [32, 120] = (s.extract 0 (s.size - 2)).data.toList := by
  rw [pc_ext, tx_data]
  unfold trimSuffix pc
  rw [h, if_pos rfl, size_eq]
  simp
theorem sufx_not {s : ByteArray} (h : hasSuffix s.data.toList [32, 120] = false) : trimSuffix s.data.toList [32, 120] = s.data.toList := by
  unfold trimSuffix
  rw [h]
  rfl
theorem sufx_short {s : ByteArray} (h : s.size < 2) : hasSuffix s.data.toList [32, 120] = false := by
  rw [Bool.eq_false_iff]
  intro hs
  obtain ⟨t, ht⟩ := List.isSuffixOf_iff_suffix.1 hs
  rw [size_eq, ← ht] at h
  simp at h
  omega
/-- what the walk of a reader of an item has in hand: a text, its head, whether it ends late -/
def ItHead (s t : ByteArray) (late : Bool) : Prop := trimSuffix s.data.toList [32, 120] = t.data.toList ∧ hasSuffix s.data.toList [32, 120] = late
theorem itHead_cases (s : ByteArray) (hs : s.size ≤ 1048576) : ∃ (t : ByteArray) (late : Bool), t.size ≤ 1048576 ∧ ItHead s t late ∧
    ((s.size < 2 ∧ t = s ∧ late = false) ∨ (∃ z : ByteArray, 2 ≤ s.size ∧ s.extract (s.size - 2) s.size = z ∧ ¬ z = ⟨#[32, 120]⟩ ∧ t = s ∧ late = false) ∨ (2 ≤ s.size ∧ s.extract (s.size - 2) s.size = ⟨#[32, 120]⟩ ∧ s.extract 0 (s.size - 2) = t ∧ late = true)) := by
  by_cases h2 : s.size < 2
  · exact ⟨s, false, hs, ⟨sufx_not (sufx_short h2), sufx_short h2⟩, .inl ⟨h2, rfl, rfl⟩⟩
  · by_cases h : s.extract (s.size - 2) s.size = ⟨#[32, 120]⟩
    · have hh := (sufx (by omega)).2 h
      refine ⟨s.extract 0 (s.size - 2), true, ?_, ⟨sufx_cut hh, hh⟩, .inr (.inr ⟨by omega, h, rfl, rfl⟩)⟩
      rw [pc_ext, tx_size, pc_size s 0 (s.size - 2) (by omega)]
      omega
    · have hh : hasSuffix s.data.toList [32, 120] = false := by rw [Bool.eq_false_iff]; exact fun e => h ((sufx (by omega)).1 e)
      exact ⟨s, false, hs, ⟨sufx_not hh, hh⟩, .inr (.inl ⟨_, by omega, rfl, h, rfl, rfl⟩)⟩
/-- the item read so far lies in a box (bb); h: the box of the result; S: blocks that may have turned since w1 -/
structure RowSt (S : List Nat) (h bb B : Nat) (t : ByteArray) (late : Bool) (w1 wr : World) (k : Nat) (nv mv : Value) : Prop where
  hbox : Box wr h 34 #[.slice none 0 0, .slice none 0 0, .bool false]
  bbox : Box wr bb 34 #[nv, mv, .bool late]
  names : OwnS wr B nv ((nmsP t).take k)
  marks : OwnI wr B mv ((mksP t).take k)
  apart : ∀ b ∈ fp nv, b ∉ fp mv
  only : Only S w1 wr
  inS : bb ∈ S
  ne : h ≠ bb
  where_ : ∀ b ∈ fp nv ++ fp mv, (b ∈ S ∨ w1.heap.size ≤ b) ∧ b ≠ bb ∧ b ≠ h
  hB : B ≤ w1.heap.size
theorem RowSt.mid1 {S : List Nat} {h bb B : Nat} {t : ByteArray} {late : Bool} {w1 wr w3 w4 : World} {k : Nat} {nv mv : Value} (H : RowSt S h bb B t late w1 wr k nv mv) (k3 : Kept wr w3) (on4 : Only (fp nv) w3 w4) :
    Box w4 bb 34 #[nv, mv, .bool late] ∧ OwnI w4 B mv ((mksP t).take k) :=
  ⟨(H.bbox.kept k3).only on4 (fun hb => (H.where_ bb (List.mem_append_left _ hb)).2.1 rfl), (H.marks.kept k3).only on4 (fun b hb hb' => H.apart b hb' hb)⟩
theorem RowSt.mid2 {S : List Nat} {h bb B : Nat} {t : ByteArray} {late : Bool} {w1 wr w3 w4 : World} {k : Nat} {nv mv v4 : Value} (H : RowSt S h bb B t late w1 wr k nv mv) (k3 : Kept wr w3) (on4 : Only (fp nv) w3 w4) (o : Obj) :
    OwnI ((w4.setCell ⟨bb, 0, none⟩ v4).alloc o) B mv ((mksP t).take k) :=
  ((H.mid1 k3 on4).2.only ((Only.refl [bb] w4).setCell (by simp) _) (fun b hb hb' => by rw [List.mem_singleton] at hb'; exact (H.where_ b (List.mem_append_right _ hb)).2.1 hb')).kept ((Kept.refl _).alloc _)
theorem RowSt.mid3 {S : List Nat} {h bb B : Nat} {t : ByteArray} {late : Bool} {w1 wr w3 w4 w6 : World} {k : Nat} {nv mv v4 : Value} {o : Obj} (H : RowSt S h bb B t late w1 wr k nv mv) (k3 : Kept wr w3) (on4 : Only (fp nv) w3 w4) (on6 : Only (fp mv) ((w4.setCell ⟨bb, 0, none⟩ v4).alloc o) w6) :
    Box w6 bb 34 #[v4, mv, .bool late] :=
  Box.only (((H.mid1 k3 on4).1.set0 v4).alloc o) on6 (fun hb => (H.where_ bb (List.mem_append_right _ hb)).2.1 rfl)
theorem RowSt.step {S : List Nat} {h bb B : Nat} {t : ByteArray} {late : Bool} {w1 wr w3 w4 w6 : World} {k : Nat} {nv mv v4 v6 : Value} {o : Obj} (H : RowSt S h bb B t late w1 wr k nv mv) (k3 : Kept wr w3) (sz3 : wr.heap.size < w3.heap.size)
    (on4 : Only (fp nv) w3 w4) (on6 : Only (fp mv) ((w4.setCell ⟨bb, 0, none⟩ v4).alloc o) w6) (o4 : OwnS w4 B v4 ((nmsP t).take (k + 1))) (o6 : OwnI w6 B v6 ((mksP t).take (k + 1)))
    (f4 : ∀ b ∈ fp v4, b ∈ fp nv ∨ b = w3.heap.size) (f6 : ∀ b ∈ fp v6, b ∈ fp mv ∨ b = ((w4.setCell ⟨bb, 0, none⟩ v4).alloc o).heap.size) :
    RowSt S h bb B t late w1 (w6.setCell ⟨bb, 1, none⟩ v6) (k + 1) v4 v6 := by
  have hbl := H.bbox.lt
  have hhl := H.hbox.lt
  have hsr := H.only.size
  have hs4 := on4.size
  have hs5 : ((w4.setCell ⟨bb, 0, none⟩ v4).alloc o).heap.size = w4.heap.size + 1 := by simp [World.setCell]
  have hn := own_fp H.names.1
  have hm := own_fp H.marks
  have w4b : ∀ b ∈ fp v4, (b ∈ S ∨ w1.heap.size ≤ b) ∧ b ≠ bb ∧ b ≠ h ∧ b ∉ fp mv ∧ b < w4.heap.size + 1 := fun b hb => by
    have hlt := (own_fp o4.1 b hb).2
    rcases f4 b hb with q | q
    · have := H.where_ b (List.mem_append_left _ q)
      exact ⟨this.1, this.2.1, this.2.2, H.apart b q, by omega⟩
    · refine ⟨.inr (by omega), by omega, by omega, fun hx => ?_, by omega⟩
      have := hm b hx
      omega
  have w6b : ∀ b ∈ fp v6, (b ∈ S ∨ w1.heap.size ≤ b) ∧ b ≠ bb ∧ b ≠ h := fun b hb => by
    rcases f6 b hb with q | q
    · exact H.where_ b (List.mem_append_right _ q)
    · exact ⟨.inr (by omega), by omega, by omega⟩
  have on5 : Only [bb] w4 ((w4.setCell ⟨bb, 0, none⟩ v4).alloc o) := ((Only.refl [bb] w4).setCell (by simp) _).trans (((Kept.refl _).alloc _).only _)
  have on7 : Only [bb] w6 (w6.setCell ⟨bb, 1, none⟩ v6) := (Only.refl [bb] w6).setCell (by simp) _
  have hb1 : ∀ b ∈ [bb], b ∈ S ∨ w1.heap.size ≤ b := fun b hb => by rw [List.mem_singleton] at hb; subst hb; exact .inl H.inS
  have HW : Only S w1 (w6.setCell ⟨bb, 1, none⟩ v6) := ((((H.only.step k3).over on4 (fun b hb => (H.where_ b (List.mem_append_left _ hb)).1)).over on5 hb1).over on6 (fun b hb => (H.where_ b (List.mem_append_right _ hb)).1)).over on7 hb1
  have nb : ∀ {l : Nat} {x : Nat}, l ≠ x → l ∉ [x] := fun h hm => by rw [List.mem_singleton] at hm; exact h hm
  refine ⟨?_, ?_, ?_, ?_, ?_, HW, H.inS, H.ne, ?_, H.hB⟩
  · have a1 := (H.hbox.kept k3).only on4 (fun hb => (H.where_ h (List.mem_append_left _ hb)).2.2 rfl)
    have a2 := (a1.only on5 (nb H.ne)).only on6 (fun hb => (H.where_ h (List.mem_append_right _ hb)).2.2 rfl)
    exact a2.only on7 (nb H.ne)
  · exact (H.mid3 k3 on4 on6).set1 v6
  · have a1 := (o4.only on5 (fun b hb => nb (w4b b hb).2.1)).only on6 (fun b hb => (w4b b hb).2.2.2.1)
    exact a1.only on7 (fun b hb => nb (w4b b hb).2.1)
  · exact o6.only on7 (fun b hb => nb (w6b b hb).2.1)
  · intro b hb hb'
    rcases f6 b hb' with q | q
    · exact (w4b b hb).2.2.2.1 q
    · have := (w4b b hb).2.2.2.2
      omega
  · intro b hb
    rcases List.mem_append.1 hb with hb | hb
    · exact ⟨(w4b b hb).1, (w4b b hb).2.1, (w4b b hb).2.2.1⟩
    · exact w6b b hb
/-- the item read whole -/
theorem RowSt.whole {S : List Nat} {h bb B : Nat} {s t : ByteArray} {late : Bool} {w1 wr : World} {k : Nat} {nv mv : Value} (H : RowSt S h bb B t late w1 wr k nv mv) (hT : ItHead s t late) (hk : k = (spB 43 t).length) :
    OwnT wr B (.agg #[nv, mv, .bool late]) (itP s.data.toList) := by
  rw [itP_parts hT.1 hT.2]
  have e1 : (nmsP t).take k = nmsP t := List.take_of_length_le (by rw [nmsP_len]; omega)
  have e2 : (mksP t).take k = mksP t := List.take_of_length_le (by rw [mksP_len]; omega)
  refine ⟨nv, mv, rfl, ?_, ?_, ?_⟩
  · have := H.names; rw [e1] at this; exact this
  · have := H.marks; rw [e2] at this; exact this
  · rw [fpA_item, List.nodup_append]
    exact ⟨nodup_one _, nodup_one _, fun x hx y hy e => H.apart x hx (e ▸ hy)⟩
theorem RowSt.fin {S : List Nat} {h bb B : Nat} {s t : ByteArray} {late : Bool} {w1 wr w3 w4 : World} {k : Nat} {nv mv : Value} (H : RowSt S h bb B t late w1 wr k nv mv) (hT : ItHead s t late) (hk : k = (spB 43 t).length) (k3 : Kept wr w3) (q : Only [h] w3 w4) :
    OwnT w4 B (.agg #[nv, mv, .bool late]) (itP s.data.toList) := by
  obtain ⟨nv', mv', e, h1, h2, h3⟩ := H.whole hT hk
  injection e with e
  have e1 := congrArg Array.toList e
  simp only [List.cons.injEq] at e1
  obtain ⟨rfl, rfl, e2, _⟩ := e1
  have hd : ∀ b ∈ fp nv ++ fp mv, b ∉ [h] := fun b hb hm => (H.where_ b hb).2.2 (by rw [List.mem_singleton] at hm; exact hm)
  exact ⟨nv, mv, by rw [← e2], (h1.kept k3).only q (fun b hb => hd b (List.mem_append_left _ hb)), OwnI.only (own_kept h2 k3) q (fun b hb => hd b (List.mem_append_right _ hb)), h3⟩
theorem itT_P (s : ByteArray) : itT (itP s.data.toList) = s := by unfold itT; rw [itTxt_P, tx_of]
theorem PiPost.no {s : ByteArray} {w w' : World} (h : piB s = false) (k : Kept w w') : PiPost s w (.returned (.tuple #[.agg #[.slice none 0 0, .slice none 0 0, .bool false], .bool false])) w' :=
  ⟨_, by rw [h], by rw [piV_no h]; exact ⟨_, _, rfl, nilS _ _, own_nil _ _, by simp [fpA, fp, Value.ownBlock]⟩, k⟩
theorem PiPost.yes {s : ByteArray} {w w' : World} {v : Value} (h : piB s = true) (o : OwnT w' w.heap.size v (itP s.data.toList)) (k : Kept w w') : PiPost s w (.returned (.tuple #[v, .bool true])) w' :=
  ⟨_, by rw [h], by rw [piV_yes h]; exact o, k⟩
set_option maxRecDepth 100000 in
set_option maxHeartbeats 16000000 in
theorem itParse_any (s : ByteArray) (w : World) (hs : s.size ≤ 1048576) :
    Calls Tryd.prog 37 #[.string s] w fun e w' => PiPost s w e w' := by
  obtain ⟨t, late, ht, hT, hcase⟩ := itHead_cases s hs
  have HT := Lib.hid hT
  clear hT
  have CS : Hid (∀ w0 : World, Calls Tryd.prog 39 #[.string t, .int .u8 43] w0 fun e w' => ∃ v', e = .returned v' ∧ OwnS w' w0.heap.size v' (spB 43 t) ∧ Kept w0 w') := Lib.hid (fun w0 => l1Split_any t 43 w0 ht)
  rcases hcase with ⟨h2, hts, hl⟩ | ⟨z, h2, hz, hzn, hts, hl⟩ | ⟨h2, hz, hts, hl⟩
  · subst hts
    have h4 := hl.symm
    subst h4
    have hq : ¬ (2 : Int) ≤ (t.size : Int) := by omega
    go_enter Tryd.func37, Tryd.ntmps37
    go_wp2_with fail
    obtain ⟨w0, hw0⟩ : ∃ x : World, x = (w.alloc (.cells #[.slice none 0 0, .slice none 0 0, .bool false] 34)).alloc (.cells #[.slice none 0 0, .slice none 0 0, .bool false] 34) := ⟨_, rfl⟩
    rw [← hw0]
    have B2 : Box w0 w.heap.size 34 #[.slice none 0 0, .slice none 0 0, .bool false] := hw0 ▸ (Box.new w _ _ _ rfl).alloc _
    have B4 : Box w0 (w.heap.size + 1) 34 #[.slice none 0 0, .slice none 0 0, .bool false] := hw0 ▸ Box.new (w.alloc _) _ _ _ (by simp)
    have K0 : Kept w w0 := hw0 ▸ ((Kept.refl w).alloc _).alloc _
    have sz0 : w.heap.size + 2 ≤ w0.heap.size := by rw [hw0]; simp
    clear hw0
    clear hq
    refine (CS.out _).mono ?_
    rintro e w1 ⟨v1, rfl, o1, k1⟩
    rcases ownS_cases o1 with ⟨rfl, hn⟩ | ⟨g, cap, rfl, hc1, hc2⟩
    · exact absurd hn (spB_ne _ t)
    unfold maxLen at hc2
    have hgl := own_fp o1.1 g (by simp [fp_some])
    have HO1 := Lib.hid o1
    have hlen := spB_le 43 t
    replace B2 := B2.kept k1
    replace B4 := B4.kept k1
    have K1 := K0.trans k1
    have sz1 := k1.size
    clear o1 k1 K0
    have HB : Hid (RowSt [w.heap.size + 1] w.heap.size (w.heap.size + 1) w.heap.size t false w1 w1 0 (.slice none 0 0) (.slice none 0 0)) := Lib.hid ⟨B2, B4, nilS _ _, own_nil _ _, fun b hb => by simp [fp_none] at hb, Only.refl _ _, by simp, by omega, fun b hb => by simp [fp_none] at hb, by omega⟩
    clear B2 B4
    go_wp2_with fail
    go_loopw [33] (fun i wr => ∃ (k : Nat) (nv mv : Value), k ≤ (spB 43 t).length ∧ i = .int .i64 k ∧ RowSt [w.heap.size + 1] w.heap.size (w.heap.size + 1) w.heap.size t false w1 wr k nv mv) (fun i _ => (spB 43 t).length - (RowKit.intOf i).toNat)
    case atStart => exact ⟨0, _, _, Nat.zero_le _, rfl, HB.out⟩
    case round =>
      clear HB
      obtain ⟨k, nv, mv, hk, rfl, hst⟩ := hrel
      have on_ := hst.names
      have om := hst.marks
      have b4 := hst.bbox
      obtain ⟨An, cn, rfl, _⟩ := own_form on_.1
      obtain ⟨Am, cm, rfl, _⟩ := own_form om
      have HNL := Lib.hid (nmsP_len t)
      have HML := Lib.hid (mksP_len t)
      have hnl : ((nmsP t).take k).length = k := by rw [List.length_take, HNL.out]; omega
      have hml : ((mksP t).take k).length = k := by rw [List.length_take, HML.out]; omega
      rw [hnl, hml] at hst b4
      rw [hnl] at on_
      rw [hml] at om
      have HST := Lib.hid hst
      have ON := Lib.hid on_
      have OM := Lib.hid om
      have szr := hst.only.size
      have HK1 := Lib.hid hnl
      have HK2 := Lib.hid hml
      clear hst on_ om hnl hml
      by_cases hlt : k < (spB 43 t).length
      · have OW := Lib.hid (HO1.out.only HST.out.only (fun b hb => by rw [fp_some, List.mem_singleton] at hb; rw [List.mem_singleton]; simp only at hb; omega))
        obtain ⟨b0, i0, z, e0, hb0, hz0, hx0⟩ := strs_at (k := k) OW.out.strs.1.addr hlt
        cases e0
        rw [Nat.zero_add] at hx0
        have HN := Lib.hid (nmsP_snoc hz0)
        have HM := Lib.hid (mksP_snoc hz0)
        have hzs := spB_sz (List.mem_of_getElem? hz0)
        have HNZ := Lib.hid (nmW_sz z)
        clear hz0
        have hed : 0 ≤ mkW z ∧ mkW z ≤ 3 := endM_bd _
        have HZ0 := Lib.hid (fun h => nmW_zero (z := z) h)
        have HZC := Lib.hid (fun h => nmW_cut (z := z) h)
        have HZP := Lib.hid (fun h => mkW_pos (z := z) h)
        have HLY := Lib.hid (fun m h1 h3 h => last_yes (z := z) (m := m) h1 h3 h)
        have HLN := Lib.hid (fun m h0 h1 h3 h => last_no (z := z) (m := m) h0 h1 h3 h)
        generalize hnm : nmW z = nm at HN HZ0 HZC HNZ
        clear hnm
        generalize hme : mkW z = me at HM HZ0 HZC HZP HLY HLN hed
        clear hme
        have HB4 := Lib.hid b4
        clear b4
        go_wp2_with fail
        refine (itSigns_any _).mono ?_
        rintro e w2 ⟨rfl, bs, k2⟩
        have szs := bs.lt
        have sz2 := k2.size
        have HBS := Lib.hid bs
        clear bs
        obtain ⟨wo, hwo⟩ : ∃ x : Nat, x = wr.heap.size := ⟨_, rfl⟩
        rw [← hwo] at HBS szs
        rw [← hwo]
        have HWO := Lib.hid hwo
        clear hwo
        go_wp2_with fail
        go_loop [39, 8] (fun jj mk => ∃ j : Nat, j ≤ 4 ∧ jj = .int .i64 j ∧ mk = .int .i64 (mkAt me j)) (fun jj _ => 4 - (RowKit.intOf jj).toNat)
        case atStart => exact ⟨0, by omega, rfl, by rw [mkAt_start hed.1]⟩
        case round =>
          obtain ⟨j, hj, rfl, rfl⟩ := hrel
          have hmb := mkAt_bd j hed.1 hed.2
          by_cases hj4 : j < 4
          · have xs := HBS.out.at_ (sgCells_at (m := j) (by omega))
            have hj4' : (j : Int) < 4 := by omega
            by_cases hj0 : (j : Int) = 0
            · have hq0 : ¬ (0 : Int) < (j : Int) := by omega
              have HMK := Lib.hid (mkAt_zero hj0 hed.1)
              clear hj0
              go_wp2_with fail
              go_round
              case rel => exact ⟨j + 1, by omega, by go_num, by rw [HMK.out]⟩
              case measure => simp [RowKit.intOf]; omega
            · have hq0 : (0 : Int) < (j : Int) := by omega
              by_cases hje : me = (j : Int)
              · have HMK := Lib.hid (mkAt_hit hje)
                have hzp : 0 < z.size := HZP.out (by omega)
                have hzp' : (0 : Int) < (z.size : Int) := by omega
                have hx := HLY.out j (by omega) (by omega) hje
                clear hje
                go_wp2_with fail
                go_round
                case rel => exact ⟨j + 1, by omega, by go_num, by rw [HMK.out]⟩
                case measure => simp [RowKit.intOf]; omega
              · have HMK := Lib.hid (mkAt_miss hje)
                by_cases hzp : 0 < z.size
                · have hzp' : (0 : Int) < (z.size : Int) := by omega
                  have hx := HLN.out j hzp (by omega) (by omega) hje
                  have hx2 : ((z.extract (z.size - 1) z.size).toList == (sgB j).toList) = false := beq_eq_false_iff_ne.2 hx
                  clear hje
                  go_wp2_with fail
                  go_round
                  case rel => exact ⟨j + 1, by omega, by go_num, by rw [HMK.out]⟩
                  case measure => simp [RowKit.intOf]; omega
                · have hzp' : ¬ (0 : Int) < (z.size : Int) := by omega
                  clear hje
                  go_wp2_with fail
                  go_round
                  case rel => exact ⟨j + 1, by omega, by go_num, by rw [HMK.out]⟩
                  case measure => simp [RowKit.intOf]; omega
          · obtain rfl : j = 4 := by omega
            rw [mkAt_end hed.2]
            clear hmb
            have b4 := HB4.out.kept k2
            obtain ⟨x4, y4⟩ := b4.three
            have hnz : nm.size ≤ maxLen := by have := HNZ.out; unfold maxLen; omega
            by_cases hm0 : me = 0
            case pos =>
              have hq0 : ¬ (0 : Int) < me := by omega
              have hnm := HZ0.out hm0
              subst hnm
              clear hm0
              have hn4 : Hid (((nmsP t).take (k + 1)).length = k + 1) := Lib.hid (by rw [List.length_take, HNL.out]; omega)
              have hm6 : Hid (((mksP t).take (k + 1)).length = k + 1) := Lib.hid (by rw [List.length_take, HML.out]; omega)
              go_wp2_with (first | (at_builtin; refine wpList_append_SD _ rfl _ _ rfl w.heap.size (.slice An k cn) ((nmsP t).take k) rfl (ON.out.kept (k2.alloc _)) _ [nm] rfl (strs_box1 (Box.new _ _ _ _ rfl) hnz) (by rw [HK1.out]; simp only [List.length_cons, List.length_nil]; omega) (by simp; omega) ?_; intro v4 w4 o4 on4 f4; rw [← HN.out] at o4; obtain ⟨A4, c4, e4, _⟩ := own_form o4.1; rw [hn4.out] at e4; subst e4; obtain ⟨b5, om5⟩ := HST.out.mid1 (k2.alloc _) on4; obtain ⟨x5, y5⟩ := b5.three; have O4 := Lib.hid o4; have ON4 := Lib.hid on4; have F4 := Lib.hid f4; clear x4 y4 o4 f4 om5 on4 b5) | (at_builtin; refine wpList_append_ID _ rfl _ _ rfl w.heap.size (.slice Am k cm) ((mksP t).take k) rfl (HST.out.mid2 (k2.alloc _) ON4.out _) _ [me] rfl (ints_box1 (Box.new _ _ _ _ (by simp [World.setCell]))) (by rw [HK2.out]; simp only [List.length_cons, List.length_nil]; omega) (by have h4 := ON4.out.size; simp at h4; simp [World.setCell]; omega) ?_; intro v6 w6 o6 on6 f6; rw [← HM.out] at o6; obtain ⟨A6, c6, e6, _⟩ := own_form o6; rw [hm6.out] at e6; subst e6; have b7 := HST.out.mid3 (k2.alloc _) ON4.out on6; obtain ⟨x7, y7⟩ := b7.three; have ST := Lib.hid (HST.out.step (k2.alloc _) (by simp; omega) ON4.out on6 O4.out o6 F4.out f6); clear x5 y5 o6 on6 f6 b7))
              go_roundw
              case rel => exact ⟨k + 1, _, _, by omega, by go_num, ST.out⟩
              case measure => simp [RowKit.intOf]; omega
            case neg =>
              have hq0 : (0 : Int) < me := by omega
              have hzp : 0 < z.size := HZP.out hm0
              have hzp' : (0 : Int) < (z.size : Int) := by omega
              have hx := HZC.out hm0
              clear hm0
              have hn4 : Hid (((nmsP t).take (k + 1)).length = k + 1) := Lib.hid (by rw [List.length_take, HNL.out]; omega)
              have hm6 : Hid (((mksP t).take (k + 1)).length = k + 1) := Lib.hid (by rw [List.length_take, HML.out]; omega)
              go_wp2_with (first | (at_builtin; refine wpList_append_SD _ rfl _ _ rfl w.heap.size (.slice An k cn) ((nmsP t).take k) rfl (ON.out.kept (k2.alloc _)) _ [nm] rfl (strs_box1 (Box.new _ _ _ _ rfl) hnz) (by rw [HK1.out]; simp only [List.length_cons, List.length_nil]; omega) (by simp; omega) ?_; intro v4 w4 o4 on4 f4; rw [← HN.out] at o4; obtain ⟨A4, c4, e4, _⟩ := own_form o4.1; rw [hn4.out] at e4; subst e4; obtain ⟨b5, om5⟩ := HST.out.mid1 (k2.alloc _) on4; obtain ⟨x5, y5⟩ := b5.three; have O4 := Lib.hid o4; have ON4 := Lib.hid on4; have F4 := Lib.hid f4; clear x4 y4 o4 f4 om5 on4 b5) | (at_builtin; refine wpList_append_ID _ rfl _ _ rfl w.heap.size (.slice Am k cm) ((mksP t).take k) rfl (HST.out.mid2 (k2.alloc _) ON4.out _) _ [me] rfl (ints_box1 (Box.new _ _ _ _ (by simp [World.setCell]))) (by rw [HK2.out]; simp only [List.length_cons, List.length_nil]; omega) (by have h4 := ON4.out.size; simp at h4; simp [World.setCell]; omega) ?_; intro v6 w6 o6 on6 f6; rw [← HM.out] at o6; obtain ⟨A6, c6, e6, _⟩ := own_form o6; rw [hm6.out] at e6; subst e6; have b7 := HST.out.mid3 (k2.alloc _) ON4.out on6; obtain ⟨x7, y7⟩ := b7.three; have ST := Lib.hid (HST.out.step (k2.alloc _) (by simp; omega) ON4.out on6 O4.out o6 F4.out f6); clear x5 y5 o6 on6 f6 b7))
              go_roundw
              case rel => exact ⟨k + 1, _, _, by omega, by go_num, ST.out⟩
              case measure => simp [RowKit.intOf]; omega
      · have HKN : Hid (k = (spB 43 t).length) := Lib.hid (by omega)
        have OT := Lib.hid (HST.out.whole HT.out HKN.out)
        have FIN : Hid (∀ w3 w4 : World, Kept wr w3 → Only [w.heap.size] w3 w4 → OwnT w4 w.heap.size (.agg #[.slice An k cn, .slice Am k cm, .bool false]) (itP t.data.toList)) := Lib.hid (fun w3 w4 k3 q => HST.out.fin HT.out HKN.out k3 q)
        have KW : Hid (Kept w wr) := Lib.hid (HST.out.only.above K1 (fun b hb => by rw [List.mem_singleton] at hb; omega))
        obtain ⟨x4, y4⟩ := b4.three
        have b2 := HST.out.hbox
        go_wp2_with fail
        clear x4 y4
        refine (itGood_any _ (itP t.data.toList) _ OT.out.item).mono ?_
        rintro e w2 ⟨rfl, k2⟩
        cases hpb : itemB (itP t.data.toList) with
        | false =>
          have HP : Hid (piB t = false) := Lib.hid hpb
          clear hpb
          obtain ⟨x2, y2⟩ := (b2.kept k2).three
          go_wp2_with fail
          clear x2 y2
          obtain ⟨w5, hw5, B5, Q5⟩ := set3 (b2.kept k2) (.slice none 0 0) (.slice none 0 0) (.bool false)
          rw [← hw5]
          clear hw5
          obtain ⟨cc, ff⟩ := B5.three
          refine bodyPost_ret (v := .tuple #[.agg #[.slice none 0 0, .slice none 0 0, .bool false], .bool false]) (by simp [results, Tryd.results37, go_sem, cc, ff]) rfl ?_
          exact PiPost.no HP.out (Q5.above (KW.out.trans k2) (by simp))
        | true =>
          have HP : Hid (piB t = true) := Lib.hid hpb
          have HB := Lib.hid hpb
          clear hpb
          obtain ⟨x4, y4⟩ := (b4.kept k2).three
          go_wp2_with fail
          clear x4 y4
          refine (itText_any _ (itP t.data.toList) _ (OT.out.item.kept k2) HB.out).mono ?_
          rintro e w3 ⟨rfl, k3⟩
          rw [itT_P]
          have k23 := k2.trans k3
          obtain ⟨x4, y4⟩ := (b4.kept k23).three
          obtain ⟨x2, y2⟩ := (b2.kept k23).three
          go_wp2_with fail
          clear x4 y4 x2 y2
          obtain ⟨w5, hw5, B5, Q5⟩ := set3 (b2.kept k23) (.slice An k cn) (.slice Am k cm) (.bool false)
          rw [← hw5]
          clear hw5
          obtain ⟨cc, ff⟩ := B5.three
          refine bodyPost_ret (v := .tuple #[.agg #[.slice An k cn, .slice Am k cm, .bool false], .bool true]) (by simp [results, Tryd.results37, go_sem, cc, ff]) rfl ?_
          exact PiPost.yes HP.out (FIN.out _ _ k23 Q5) (Q5.above (KW.out.trans k23) (by simp))
  · subst hts
    have h4 := hl.symm
    subst h4
    have hq : (2 : Int) ≤ (t.size : Int) := by omega
    have hzz : ¬ z.toList = [32, 120] := fun e => hzn (by rw [← tx_of z, ← toList_data, e]; rfl)
    have hz3 : (z.toList == [32, 120]) = false := beq_eq_false_iff_ne.2 hzz
    clear hzn
    go_enter Tryd.func37, Tryd.ntmps37
    go_wp2_with fail
    obtain ⟨w0, hw0⟩ : ∃ x : World, x = (w.alloc (.cells #[.slice none 0 0, .slice none 0 0, .bool false] 34)).alloc (.cells #[.slice none 0 0, .slice none 0 0, .bool false] 34) := ⟨_, rfl⟩
    rw [← hw0]
    have B2 : Box w0 w.heap.size 34 #[.slice none 0 0, .slice none 0 0, .bool false] := hw0 ▸ (Box.new w _ _ _ rfl).alloc _
    have B4 : Box w0 (w.heap.size + 1) 34 #[.slice none 0 0, .slice none 0 0, .bool false] := hw0 ▸ Box.new (w.alloc _) _ _ _ (by simp)
    have K0 : Kept w w0 := hw0 ▸ ((Kept.refl w).alloc _).alloc _
    have sz0 : w.heap.size + 2 ≤ w0.heap.size := by rw [hw0]; simp
    clear hw0
    clear hq
    refine (CS.out _).mono ?_
    rintro e w1 ⟨v1, rfl, o1, k1⟩
    rcases ownS_cases o1 with ⟨rfl, hn⟩ | ⟨g, cap, rfl, hc1, hc2⟩
    · exact absurd hn (spB_ne _ t)
    unfold maxLen at hc2
    have hgl := own_fp o1.1 g (by simp [fp_some])
    have HO1 := Lib.hid o1
    have hlen := spB_le 43 t
    replace B2 := B2.kept k1
    replace B4 := B4.kept k1
    have K1 := K0.trans k1
    have sz1 := k1.size
    clear o1 k1 K0
    have HB : Hid (RowSt [w.heap.size + 1] w.heap.size (w.heap.size + 1) w.heap.size t false w1 w1 0 (.slice none 0 0) (.slice none 0 0)) := Lib.hid ⟨B2, B4, nilS _ _, own_nil _ _, fun b hb => by simp [fp_none] at hb, Only.refl _ _, by simp, by omega, fun b hb => by simp [fp_none] at hb, by omega⟩
    clear B2 B4
    go_wp2_with fail
    go_loopw [33] (fun i wr => ∃ (k : Nat) (nv mv : Value), k ≤ (spB 43 t).length ∧ i = .int .i64 k ∧ RowSt [w.heap.size + 1] w.heap.size (w.heap.size + 1) w.heap.size t false w1 wr k nv mv) (fun i _ => (spB 43 t).length - (RowKit.intOf i).toNat)
    case atStart => exact ⟨0, _, _, Nat.zero_le _, rfl, HB.out⟩
    case round =>
      clear HB
      obtain ⟨k, nv, mv, hk, rfl, hst⟩ := hrel
      have on_ := hst.names
      have om := hst.marks
      have b4 := hst.bbox
      obtain ⟨An, cn, rfl, _⟩ := own_form on_.1
      obtain ⟨Am, cm, rfl, _⟩ := own_form om
      have HNL := Lib.hid (nmsP_len t)
      have HML := Lib.hid (mksP_len t)
      have hnl : ((nmsP t).take k).length = k := by rw [List.length_take, HNL.out]; omega
      have hml : ((mksP t).take k).length = k := by rw [List.length_take, HML.out]; omega
      rw [hnl, hml] at hst b4
      rw [hnl] at on_
      rw [hml] at om
      have HST := Lib.hid hst
      have ON := Lib.hid on_
      have OM := Lib.hid om
      have szr := hst.only.size
      have HK1 := Lib.hid hnl
      have HK2 := Lib.hid hml
      clear hst on_ om hnl hml
      by_cases hlt : k < (spB 43 t).length
      · have OW := Lib.hid (HO1.out.only HST.out.only (fun b hb => by rw [fp_some, List.mem_singleton] at hb; rw [List.mem_singleton]; simp only at hb; omega))
        obtain ⟨b0, i0, z, e0, hb0, hz0, hx0⟩ := strs_at (k := k) OW.out.strs.1.addr hlt
        cases e0
        rw [Nat.zero_add] at hx0
        have HN := Lib.hid (nmsP_snoc hz0)
        have HM := Lib.hid (mksP_snoc hz0)
        have hzs := spB_sz (List.mem_of_getElem? hz0)
        have HNZ := Lib.hid (nmW_sz z)
        clear hz0
        have hed : 0 ≤ mkW z ∧ mkW z ≤ 3 := endM_bd _
        have HZ0 := Lib.hid (fun h => nmW_zero (z := z) h)
        have HZC := Lib.hid (fun h => nmW_cut (z := z) h)
        have HZP := Lib.hid (fun h => mkW_pos (z := z) h)
        have HLY := Lib.hid (fun m h1 h3 h => last_yes (z := z) (m := m) h1 h3 h)
        have HLN := Lib.hid (fun m h0 h1 h3 h => last_no (z := z) (m := m) h0 h1 h3 h)
        generalize hnm : nmW z = nm at HN HZ0 HZC HNZ
        clear hnm
        generalize hme : mkW z = me at HM HZ0 HZC HZP HLY HLN hed
        clear hme
        have HB4 := Lib.hid b4
        clear b4
        go_wp2_with fail
        refine (itSigns_any _).mono ?_
        rintro e w2 ⟨rfl, bs, k2⟩
        have szs := bs.lt
        have sz2 := k2.size
        have HBS := Lib.hid bs
        clear bs
        obtain ⟨wo, hwo⟩ : ∃ x : Nat, x = wr.heap.size := ⟨_, rfl⟩
        rw [← hwo] at HBS szs
        rw [← hwo]
        have HWO := Lib.hid hwo
        clear hwo
        go_wp2_with fail
        go_loop [39, 8] (fun jj mk => ∃ j : Nat, j ≤ 4 ∧ jj = .int .i64 j ∧ mk = .int .i64 (mkAt me j)) (fun jj _ => 4 - (RowKit.intOf jj).toNat)
        case atStart => exact ⟨0, by omega, rfl, by rw [mkAt_start hed.1]⟩
        case round =>
          obtain ⟨j, hj, rfl, rfl⟩ := hrel
          have hmb := mkAt_bd j hed.1 hed.2
          by_cases hj4 : j < 4
          · have xs := HBS.out.at_ (sgCells_at (m := j) (by omega))
            have hj4' : (j : Int) < 4 := by omega
            by_cases hj0 : (j : Int) = 0
            · have hq0 : ¬ (0 : Int) < (j : Int) := by omega
              have HMK := Lib.hid (mkAt_zero hj0 hed.1)
              clear hj0
              go_wp2_with fail
              go_round
              case rel => exact ⟨j + 1, by omega, by go_num, by rw [HMK.out]⟩
              case measure => simp [RowKit.intOf]; omega
            · have hq0 : (0 : Int) < (j : Int) := by omega
              by_cases hje : me = (j : Int)
              · have HMK := Lib.hid (mkAt_hit hje)
                have hzp : 0 < z.size := HZP.out (by omega)
                have hzp' : (0 : Int) < (z.size : Int) := by omega
                have hx := HLY.out j (by omega) (by omega) hje
                clear hje
                go_wp2_with fail
                go_round
                case rel => exact ⟨j + 1, by omega, by go_num, by rw [HMK.out]⟩
                case measure => simp [RowKit.intOf]; omega
              · have HMK := Lib.hid (mkAt_miss hje)
                by_cases hzp : 0 < z.size
                · have hzp' : (0 : Int) < (z.size : Int) := by omega
                  have hx := HLN.out j hzp (by omega) (by omega) hje
                  have hx2 : ((z.extract (z.size - 1) z.size).toList == (sgB j).toList) = false := beq_eq_false_iff_ne.2 hx
                  clear hje
                  go_wp2_with fail
                  go_round
                  case rel => exact ⟨j + 1, by omega, by go_num, by rw [HMK.out]⟩
                  case measure => simp [RowKit.intOf]; omega
                · have hzp' : ¬ (0 : Int) < (z.size : Int) := by omega
                  clear hje
                  go_wp2_with fail
                  go_round
                  case rel => exact ⟨j + 1, by omega, by go_num, by rw [HMK.out]⟩
                  case measure => simp [RowKit.intOf]; omega
          · obtain rfl : j = 4 := by omega
            rw [mkAt_end hed.2]
            clear hmb
            have b4 := HB4.out.kept k2
            obtain ⟨x4, y4⟩ := b4.three
            have hnz : nm.size ≤ maxLen := by have := HNZ.out; unfold maxLen; omega
            by_cases hm0 : me = 0
            case pos =>
              have hq0 : ¬ (0 : Int) < me := by omega
              have hnm := HZ0.out hm0
              subst hnm
              clear hm0
              have hn4 : Hid (((nmsP t).take (k + 1)).length = k + 1) := Lib.hid (by rw [List.length_take, HNL.out]; omega)
              have hm6 : Hid (((mksP t).take (k + 1)).length = k + 1) := Lib.hid (by rw [List.length_take, HML.out]; omega)
              go_wp2_with (first | (at_builtin; refine wpList_append_SD _ rfl _ _ rfl w.heap.size (.slice An k cn) ((nmsP t).take k) rfl (ON.out.kept (k2.alloc _)) _ [nm] rfl (strs_box1 (Box.new _ _ _ _ rfl) hnz) (by rw [HK1.out]; simp only [List.length_cons, List.length_nil]; omega) (by simp; omega) ?_; intro v4 w4 o4 on4 f4; rw [← HN.out] at o4; obtain ⟨A4, c4, e4, _⟩ := own_form o4.1; rw [hn4.out] at e4; subst e4; obtain ⟨b5, om5⟩ := HST.out.mid1 (k2.alloc _) on4; obtain ⟨x5, y5⟩ := b5.three; have O4 := Lib.hid o4; have ON4 := Lib.hid on4; have F4 := Lib.hid f4; clear x4 y4 o4 f4 om5 on4 b5) | (at_builtin; refine wpList_append_ID _ rfl _ _ rfl w.heap.size (.slice Am k cm) ((mksP t).take k) rfl (HST.out.mid2 (k2.alloc _) ON4.out _) _ [me] rfl (ints_box1 (Box.new _ _ _ _ (by simp [World.setCell]))) (by rw [HK2.out]; simp only [List.length_cons, List.length_nil]; omega) (by have h4 := ON4.out.size; simp at h4; simp [World.setCell]; omega) ?_; intro v6 w6 o6 on6 f6; rw [← HM.out] at o6; obtain ⟨A6, c6, e6, _⟩ := own_form o6; rw [hm6.out] at e6; subst e6; have b7 := HST.out.mid3 (k2.alloc _) ON4.out on6; obtain ⟨x7, y7⟩ := b7.three; have ST := Lib.hid (HST.out.step (k2.alloc _) (by simp; omega) ON4.out on6 O4.out o6 F4.out f6); clear x5 y5 o6 on6 f6 b7))
              go_roundw
              case rel => exact ⟨k + 1, _, _, by omega, by go_num, ST.out⟩
              case measure => simp [RowKit.intOf]; omega
            case neg =>
              have hq0 : (0 : Int) < me := by omega
              have hzp : 0 < z.size := HZP.out hm0
              have hzp' : (0 : Int) < (z.size : Int) := by omega
              have hx := HZC.out hm0
              clear hm0
              have hn4 : Hid (((nmsP t).take (k + 1)).length = k + 1) := Lib.hid (by rw [List.length_take, HNL.out]; omega)
              have hm6 : Hid (((mksP t).take (k + 1)).length = k + 1) := Lib.hid (by rw [List.length_take, HML.out]; omega)
              go_wp2_with (first | (at_builtin; refine wpList_append_SD _ rfl _ _ rfl w.heap.size (.slice An k cn) ((nmsP t).take k) rfl (ON.out.kept (k2.alloc _)) _ [nm] rfl (strs_box1 (Box.new _ _ _ _ rfl) hnz) (by rw [HK1.out]; simp only [List.length_cons, List.length_nil]; omega) (by simp; omega) ?_; intro v4 w4 o4 on4 f4; rw [← HN.out] at o4; obtain ⟨A4, c4, e4, _⟩ := own_form o4.1; rw [hn4.out] at e4; subst e4; obtain ⟨b5, om5⟩ := HST.out.mid1 (k2.alloc _) on4; obtain ⟨x5, y5⟩ := b5.three; have O4 := Lib.hid o4; have ON4 := Lib.hid on4; have F4 := Lib.hid f4; clear x4 y4 o4 f4 om5 on4 b5) | (at_builtin; refine wpList_append_ID _ rfl _ _ rfl w.heap.size (.slice Am k cm) ((mksP t).take k) rfl (HST.out.mid2 (k2.alloc _) ON4.out _) _ [me] rfl (ints_box1 (Box.new _ _ _ _ (by simp [World.setCell]))) (by rw [HK2.out]; simp only [List.length_cons, List.length_nil]; omega) (by have h4 := ON4.out.size; simp at h4; simp [World.setCell]; omega) ?_; intro v6 w6 o6 on6 f6; rw [← HM.out] at o6; obtain ⟨A6, c6, e6, _⟩ := own_form o6; rw [hm6.out] at e6; subst e6; have b7 := HST.out.mid3 (k2.alloc _) ON4.out on6; obtain ⟨x7, y7⟩ := b7.three; have ST := Lib.hid (HST.out.step (k2.alloc _) (by simp; omega) ON4.out on6 O4.out o6 F4.out f6); clear x5 y5 o6 on6 f6 b7))
              go_roundw
              case rel => exact ⟨k + 1, _, _, by omega, by go_num, ST.out⟩
              case measure => simp [RowKit.intOf]; omega
      · have HKN : Hid (k = (spB 43 t).length) := Lib.hid (by omega)
        have OT := Lib.hid (HST.out.whole HT.out HKN.out)
        have FIN : Hid (∀ w3 w4 : World, Kept wr w3 → Only [w.heap.size] w3 w4 → OwnT w4 w.heap.size (.agg #[.slice An k cn, .slice Am k cm, .bool false]) (itP t.data.toList)) := Lib.hid (fun w3 w4 k3 q => HST.out.fin HT.out HKN.out k3 q)
        have KW : Hid (Kept w wr) := Lib.hid (HST.out.only.above K1 (fun b hb => by rw [List.mem_singleton] at hb; omega))
        obtain ⟨x4, y4⟩ := b4.three
        have b2 := HST.out.hbox
        go_wp2_with fail
        clear x4 y4
        refine (itGood_any _ (itP t.data.toList) _ OT.out.item).mono ?_
        rintro e w2 ⟨rfl, k2⟩
        cases hpb : itemB (itP t.data.toList) with
        | false =>
          have HP : Hid (piB t = false) := Lib.hid hpb
          clear hpb
          obtain ⟨x2, y2⟩ := (b2.kept k2).three
          go_wp2_with fail
          clear x2 y2
          obtain ⟨w5, hw5, B5, Q5⟩ := set3 (b2.kept k2) (.slice none 0 0) (.slice none 0 0) (.bool false)
          rw [← hw5]
          clear hw5
          obtain ⟨cc, ff⟩ := B5.three
          refine bodyPost_ret (v := .tuple #[.agg #[.slice none 0 0, .slice none 0 0, .bool false], .bool false]) (by simp [results, Tryd.results37, go_sem, cc, ff]) rfl ?_
          exact PiPost.no HP.out (Q5.above (KW.out.trans k2) (by simp))
        | true =>
          have HP : Hid (piB t = true) := Lib.hid hpb
          have HB := Lib.hid hpb
          clear hpb
          obtain ⟨x4, y4⟩ := (b4.kept k2).three
          go_wp2_with fail
          clear x4 y4
          refine (itText_any _ (itP t.data.toList) _ (OT.out.item.kept k2) HB.out).mono ?_
          rintro e w3 ⟨rfl, k3⟩
          rw [itT_P]
          have k23 := k2.trans k3
          obtain ⟨x4, y4⟩ := (b4.kept k23).three
          obtain ⟨x2, y2⟩ := (b2.kept k23).three
          go_wp2_with fail
          clear x4 y4 x2 y2
          obtain ⟨w5, hw5, B5, Q5⟩ := set3 (b2.kept k23) (.slice An k cn) (.slice Am k cm) (.bool false)
          rw [← hw5]
          clear hw5
          obtain ⟨cc, ff⟩ := B5.three
          refine bodyPost_ret (v := .tuple #[.agg #[.slice An k cn, .slice Am k cm, .bool false], .bool true]) (by simp [results, Tryd.results37, go_sem, cc, ff]) rfl ?_
          exact PiPost.yes HP.out (FIN.out _ _ k23 Q5) (Q5.above (KW.out.trans k23) (by simp))
  · have h4 := hl.symm
    subst h4
    have hq : (2 : Int) ≤ (s.size : Int) := by omega
    go_enter Tryd.func37, Tryd.ntmps37
    go_wp2_with fail
    obtain ⟨w0, hw0⟩ : ∃ x : World, x = (w.alloc (.cells #[.slice none 0 0, .slice none 0 0, .bool false] 34)).alloc (.cells #[.slice none 0 0, .slice none 0 0, .bool true] 34) := ⟨_, rfl⟩
    rw [← hw0]
    have B2 : Box w0 w.heap.size 34 #[.slice none 0 0, .slice none 0 0, .bool false] := hw0 ▸ (Box.new w _ _ _ rfl).alloc _
    have B4 : Box w0 (w.heap.size + 1) 34 #[.slice none 0 0, .slice none 0 0, .bool true] := hw0 ▸ Box.new (w.alloc _) _ _ _ (by simp)
    have K0 : Kept w w0 := hw0 ▸ ((Kept.refl w).alloc _).alloc _
    have sz0 : w.heap.size + 2 ≤ w0.heap.size := by rw [hw0]; simp
    clear hw0
    clear hq
    refine (CS.out _).mono ?_
    rintro e w1 ⟨v1, rfl, o1, k1⟩
    rcases ownS_cases o1 with ⟨rfl, hn⟩ | ⟨g, cap, rfl, hc1, hc2⟩
    · exact absurd hn (spB_ne _ t)
    unfold maxLen at hc2
    have hgl := own_fp o1.1 g (by simp [fp_some])
    have HO1 := Lib.hid o1
    have hlen := spB_le 43 t
    replace B2 := B2.kept k1
    replace B4 := B4.kept k1
    have K1 := K0.trans k1
    have sz1 := k1.size
    clear o1 k1 K0
    have HB : Hid (RowSt [w.heap.size + 1] w.heap.size (w.heap.size + 1) w.heap.size t true w1 w1 0 (.slice none 0 0) (.slice none 0 0)) := Lib.hid ⟨B2, B4, nilS _ _, own_nil _ _, fun b hb => by simp [fp_none] at hb, Only.refl _ _, by simp, by omega, fun b hb => by simp [fp_none] at hb, by omega⟩
    clear B2 B4
    go_wp2_with fail
    go_loopw [33] (fun i wr => ∃ (k : Nat) (nv mv : Value), k ≤ (spB 43 t).length ∧ i = .int .i64 k ∧ RowSt [w.heap.size + 1] w.heap.size (w.heap.size + 1) w.heap.size t true w1 wr k nv mv) (fun i _ => (spB 43 t).length - (RowKit.intOf i).toNat)
    case atStart => exact ⟨0, _, _, Nat.zero_le _, rfl, HB.out⟩
    case round =>
      clear HB
      obtain ⟨k, nv, mv, hk, rfl, hst⟩ := hrel
      have on_ := hst.names
      have om := hst.marks
      have b4 := hst.bbox
      obtain ⟨An, cn, rfl, _⟩ := own_form on_.1
      obtain ⟨Am, cm, rfl, _⟩ := own_form om
      have HNL := Lib.hid (nmsP_len t)
      have HML := Lib.hid (mksP_len t)
      have hnl : ((nmsP t).take k).length = k := by rw [List.length_take, HNL.out]; omega
      have hml : ((mksP t).take k).length = k := by rw [List.length_take, HML.out]; omega
      rw [hnl, hml] at hst b4
      rw [hnl] at on_
      rw [hml] at om
      have HST := Lib.hid hst
      have ON := Lib.hid on_
      have OM := Lib.hid om
      have szr := hst.only.size
      have HK1 := Lib.hid hnl
      have HK2 := Lib.hid hml
      clear hst on_ om hnl hml
      by_cases hlt : k < (spB 43 t).length
      · have OW := Lib.hid (HO1.out.only HST.out.only (fun b hb => by rw [fp_some, List.mem_singleton] at hb; rw [List.mem_singleton]; simp only at hb; omega))
        obtain ⟨b0, i0, z, e0, hb0, hz0, hx0⟩ := strs_at (k := k) OW.out.strs.1.addr hlt
        cases e0
        rw [Nat.zero_add] at hx0
        have HN := Lib.hid (nmsP_snoc hz0)
        have HM := Lib.hid (mksP_snoc hz0)
        have hzs := spB_sz (List.mem_of_getElem? hz0)
        have HNZ := Lib.hid (nmW_sz z)
        clear hz0
        have hed : 0 ≤ mkW z ∧ mkW z ≤ 3 := endM_bd _
        have HZ0 := Lib.hid (fun h => nmW_zero (z := z) h)
        have HZC := Lib.hid (fun h => nmW_cut (z := z) h)
        have HZP := Lib.hid (fun h => mkW_pos (z := z) h)
        have HLY := Lib.hid (fun m h1 h3 h => last_yes (z := z) (m := m) h1 h3 h)
        have HLN := Lib.hid (fun m h0 h1 h3 h => last_no (z := z) (m := m) h0 h1 h3 h)
        generalize hnm : nmW z = nm at HN HZ0 HZC HNZ
        clear hnm
        generalize hme : mkW z = me at HM HZ0 HZC HZP HLY HLN hed
        clear hme
        have HB4 := Lib.hid b4
        clear b4
        go_wp2_with fail
        refine (itSigns_any _).mono ?_
        rintro e w2 ⟨rfl, bs, k2⟩
        have szs := bs.lt
        have sz2 := k2.size
        have HBS := Lib.hid bs
        clear bs
        obtain ⟨wo, hwo⟩ : ∃ x : Nat, x = wr.heap.size := ⟨_, rfl⟩
        rw [← hwo] at HBS szs
        rw [← hwo]
        have HWO := Lib.hid hwo
        clear hwo
        go_wp2_with fail
        go_loop [39, 8] (fun jj mk => ∃ j : Nat, j ≤ 4 ∧ jj = .int .i64 j ∧ mk = .int .i64 (mkAt me j)) (fun jj _ => 4 - (RowKit.intOf jj).toNat)
        case atStart => exact ⟨0, by omega, rfl, by rw [mkAt_start hed.1]⟩
        case round =>
          obtain ⟨j, hj, rfl, rfl⟩ := hrel
          have hmb := mkAt_bd j hed.1 hed.2
          by_cases hj4 : j < 4
          · have xs := HBS.out.at_ (sgCells_at (m := j) (by omega))
            have hj4' : (j : Int) < 4 := by omega
            by_cases hj0 : (j : Int) = 0
            · have hq0 : ¬ (0 : Int) < (j : Int) := by omega
              have HMK := Lib.hid (mkAt_zero hj0 hed.1)
              clear hj0
              go_wp2_with fail
              go_round
              case rel => exact ⟨j + 1, by omega, by go_num, by rw [HMK.out]⟩
              case measure => simp [RowKit.intOf]; omega
            · have hq0 : (0 : Int) < (j : Int) := by omega
              by_cases hje : me = (j : Int)
              · have HMK := Lib.hid (mkAt_hit hje)
                have hzp : 0 < z.size := HZP.out (by omega)
                have hzp' : (0 : Int) < (z.size : Int) := by omega
                have hx := HLY.out j (by omega) (by omega) hje
                clear hje
                go_wp2_with fail
                go_round
                case rel => exact ⟨j + 1, by omega, by go_num, by rw [HMK.out]⟩
                case measure => simp [RowKit.intOf]; omega
              · have HMK := Lib.hid (mkAt_miss hje)
                by_cases hzp : 0 < z.size
                · have hzp' : (0 : Int) < (z.size : Int) := by omega
                  have hx := HLN.out j hzp (by omega) (by omega) hje
                  have hx2 : ((z.extract (z.size - 1) z.size).toList == (sgB j).toList) = false := beq_eq_false_iff_ne.2 hx
                  clear hje
                  go_wp2_with fail
                  go_round
                  case rel => exact ⟨j + 1, by omega, by go_num, by rw [HMK.out]⟩
                  case measure => simp [RowKit.intOf]; omega
                · have hzp' : ¬ (0 : Int) < (z.size : Int) := by omega
                  clear hje
                  go_wp2_with fail
                  go_round
                  case rel => exact ⟨j + 1, by omega, by go_num, by rw [HMK.out]⟩
                  case measure => simp [RowKit.intOf]; omega
          · obtain rfl : j = 4 := by omega
            rw [mkAt_end hed.2]
            clear hmb
            have b4 := HB4.out.kept k2
            obtain ⟨x4, y4⟩ := b4.three
            have hnz : nm.size ≤ maxLen := by have := HNZ.out; unfold maxLen; omega
            by_cases hm0 : me = 0
            case pos =>
              have hq0 : ¬ (0 : Int) < me := by omega
              have hnm := HZ0.out hm0
              subst hnm
              clear hm0
              have hn4 : Hid (((nmsP t).take (k + 1)).length = k + 1) := Lib.hid (by rw [List.length_take, HNL.out]; omega)
              have hm6 : Hid (((mksP t).take (k + 1)).length = k + 1) := Lib.hid (by rw [List.length_take, HML.out]; omega)
              go_wp2_with (first | (at_builtin; refine wpList_append_SD _ rfl _ _ rfl w.heap.size (.slice An k cn) ((nmsP t).take k) rfl (ON.out.kept (k2.alloc _)) _ [nm] rfl (strs_box1 (Box.new _ _ _ _ rfl) hnz) (by rw [HK1.out]; simp only [List.length_cons, List.length_nil]; omega) (by simp; omega) ?_; intro v4 w4 o4 on4 f4; rw [← HN.out] at o4; obtain ⟨A4, c4, e4, _⟩ := own_form o4.1; rw [hn4.out] at e4; subst e4; obtain ⟨b5, om5⟩ := HST.out.mid1 (k2.alloc _) on4; obtain ⟨x5, y5⟩ := b5.three; have O4 := Lib.hid o4; have ON4 := Lib.hid on4; have F4 := Lib.hid f4; clear x4 y4 o4 f4 om5 on4 b5) | (at_builtin; refine wpList_append_ID _ rfl _ _ rfl w.heap.size (.slice Am k cm) ((mksP t).take k) rfl (HST.out.mid2 (k2.alloc _) ON4.out _) _ [me] rfl (ints_box1 (Box.new _ _ _ _ (by simp [World.setCell]))) (by rw [HK2.out]; simp only [List.length_cons, List.length_nil]; omega) (by have h4 := ON4.out.size; simp at h4; simp [World.setCell]; omega) ?_; intro v6 w6 o6 on6 f6; rw [← HM.out] at o6; obtain ⟨A6, c6, e6, _⟩ := own_form o6; rw [hm6.out] at e6; subst e6; have b7 := HST.out.mid3 (k2.alloc _) ON4.out on6; obtain ⟨x7, y7⟩ := b7.three; have ST := Lib.hid (HST.out.step (k2.alloc _) (by simp; omega) ON4.out on6 O4.out o6 F4.out f6); clear x5 y5 o6 on6 f6 b7))
              go_roundw
              case rel => exact ⟨k + 1, _, _, by omega, by go_num, ST.out⟩
              case measure => simp [RowKit.intOf]; omega
            case neg =>
              have hq0 : (0 : Int) < me := by omega
              have hzp : 0 < z.size := HZP.out hm0
              have hzp' : (0 : Int) < (z.size : Int) := by omega
              have hx := HZC.out hm0
              clear hm0
              have hn4 : Hid (((nmsP t).take (k + 1)).length = k + 1) := Lib.hid (by rw [List.length_take, HNL.out]; omega)
              have hm6 : Hid (((mksP t).take (k + 1)).length = k + 1) := Lib.hid (by rw [List.length_take, HML.out]; omega)
              go_wp2_with (first | (at_builtin; refine wpList_append_SD _ rfl _ _ rfl w.heap.size (.slice An k cn) ((nmsP t).take k) rfl (ON.out.kept (k2.alloc _)) _ [nm] rfl (strs_box1 (Box.new _ _ _ _ rfl) hnz) (by rw [HK1.out]; simp only [List.length_cons, List.length_nil]; omega) (by simp; omega) ?_; intro v4 w4 o4 on4 f4; rw [← HN.out] at o4; obtain ⟨A4, c4, e4, _⟩ := own_form o4.1; rw [hn4.out] at e4; subst e4; obtain ⟨b5, om5⟩ := HST.out.mid1 (k2.alloc _) on4; obtain ⟨x5, y5⟩ := b5.three; have O4 := Lib.hid o4; have ON4 := Lib.hid on4; have F4 := Lib.hid f4; clear x4 y4 o4 f4 om5 on4 b5) | (at_builtin; refine wpList_append_ID _ rfl _ _ rfl w.heap.size (.slice Am k cm) ((mksP t).take k) rfl (HST.out.mid2 (k2.alloc _) ON4.out _) _ [me] rfl (ints_box1 (Box.new _ _ _ _ (by simp [World.setCell]))) (by rw [HK2.out]; simp only [List.length_cons, List.length_nil]; omega) (by have h4 := ON4.out.size; simp at h4; simp [World.setCell]; omega) ?_; intro v6 w6 o6 on6 f6; rw [← HM.out] at o6; obtain ⟨A6, c6, e6, _⟩ := own_form o6; rw [hm6.out] at e6; subst e6; have b7 := HST.out.mid3 (k2.alloc _) ON4.out on6; obtain ⟨x7, y7⟩ := b7.three; have ST := Lib.hid (HST.out.step (k2.alloc _) (by simp; omega) ON4.out on6 O4.out o6 F4.out f6); clear x5 y5 o6 on6 f6 b7))
              go_roundw
              case rel => exact ⟨k + 1, _, _, by omega, by go_num, ST.out⟩
              case measure => simp [RowKit.intOf]; omega
      · have HKN : Hid (k = (spB 43 t).length) := Lib.hid (by omega)
        have OT := Lib.hid (HST.out.whole HT.out HKN.out)
        have FIN : Hid (∀ w3 w4 : World, Kept wr w3 → Only [w.heap.size] w3 w4 → OwnT w4 w.heap.size (.agg #[.slice An k cn, .slice Am k cm, .bool true]) (itP s.data.toList)) := Lib.hid (fun w3 w4 k3 q => HST.out.fin HT.out HKN.out k3 q)
        have KW : Hid (Kept w wr) := Lib.hid (HST.out.only.above K1 (fun b hb => by rw [List.mem_singleton] at hb; omega))
        obtain ⟨x4, y4⟩ := b4.three
        have b2 := HST.out.hbox
        go_wp2_with fail
        clear x4 y4
        refine (itGood_any _ (itP s.data.toList) _ OT.out.item).mono ?_
        rintro e w2 ⟨rfl, k2⟩
        cases hpb : itemB (itP s.data.toList) with
        | false =>
          have HP : Hid (piB s = false) := Lib.hid hpb
          clear hpb
          obtain ⟨x2, y2⟩ := (b2.kept k2).three
          go_wp2_with fail
          clear x2 y2
          obtain ⟨w5, hw5, B5, Q5⟩ := set3 (b2.kept k2) (.slice none 0 0) (.slice none 0 0) (.bool false)
          rw [← hw5]
          clear hw5
          obtain ⟨cc, ff⟩ := B5.three
          refine bodyPost_ret (v := .tuple #[.agg #[.slice none 0 0, .slice none 0 0, .bool false], .bool false]) (by simp [results, Tryd.results37, go_sem, cc, ff]) rfl ?_
          exact PiPost.no HP.out (Q5.above (KW.out.trans k2) (by simp))
        | true =>
          have HP : Hid (piB s = true) := Lib.hid hpb
          have HB := Lib.hid hpb
          clear hpb
          obtain ⟨x4, y4⟩ := (b4.kept k2).three
          go_wp2_with fail
          clear x4 y4
          refine (itText_any _ (itP s.data.toList) _ (OT.out.item.kept k2) HB.out).mono ?_
          rintro e w3 ⟨rfl, k3⟩
          rw [itT_P]
          have k23 := k2.trans k3
          obtain ⟨x4, y4⟩ := (b4.kept k23).three
          obtain ⟨x2, y2⟩ := (b2.kept k23).three
          go_wp2_with fail
          clear x4 y4 x2 y2
          obtain ⟨w5, hw5, B5, Q5⟩ := set3 (b2.kept k23) (.slice An k cn) (.slice Am k cm) (.bool true)
          rw [← hw5]
          clear hw5
          obtain ⟨cc, ff⟩ := B5.three
          refine bodyPost_ret (v := .tuple #[.agg #[.slice An k cn, .slice Am k cm, .bool true], .bool true]) (by simp [results, Tryd.results37, go_sem, cc, ff]) rfl ?_
          exact PiPost.yes HP.out (FIN.out _ _ k23 Q5) (Q5.above (KW.out.trans k23) (by simp))
end Go.Proofs.YtkkdhmbkpebajaaDoor
