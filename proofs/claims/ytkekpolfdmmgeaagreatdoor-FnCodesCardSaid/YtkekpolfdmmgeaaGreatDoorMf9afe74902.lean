/- Contracts of functions that the proof leans on. No condition. -/
import Derived.Test.YtkekpolfdmmgeaaGreatDoorM840f5c59d4
import Derived.Deep.RegionHeld3
import Derived.Deep.DeepCutAuto
/- Items: reading their text, the program's side. -/
namespace Go.Proofs.YtkekpolfdmmgeaaGreatDoor
set_option linter.unusedVariables false
set_option linter.unusedSimpArgs false
set_option linter.unnecessarySimpa false
open Go.RowKit Go.Lib

theorem cutS_yes {z nm : ByteArray} {m : Nat} (hz : z.size ≤ 1048576) (h1 : 1 ≤ m) (h3 : m ≤ 3) (he : mkW z = (m : Int)) (hn : nmW z = nm) (w : World) :
    Calls Tryz.prog 90 #[.string z, .string (sgB m)] w fun e w' => e = .returned (.tuple #[.string nm, .bool true]) ∧ w = w' := by
  have e1 : hasSuffix z.data.toList (signL (m : Int)) = true := by rw [suf_sign h1 h3]; exact decide_eq_true he
  have e2 : tx (trimSuffix z.data.toList (signL (m : Int))) = nm := by rw [cut_sign h1 h3 he, ← hn]; rfl
  have c := Tryz.strings_CutSuffix z (sgB m) w
  have e3 : (sgB m).data.toList = signL (m : Int) := rfl
  rw [e3, e1] at c
  rw [← e2]
  exact (c (by omega)).mono (fun e w' h => ⟨h.1, h.2.symm⟩)
theorem cutS_no {z : ByteArray} {m : Nat} (hz : z.size ≤ 1048576) (h1 : 1 ≤ m) (h3 : m ≤ 3) (he : ¬ mkW z = (m : Int)) (w : World) :
    Calls Tryz.prog 90 #[.string z, .string (sgB m)] w fun e w' => e = .returned (.tuple #[.string z, .bool false]) ∧ w = w' := by
  have e1 : hasSuffix z.data.toList (signL (m : Int)) = false := by rw [suf_sign h1 h3]; exact decide_eq_false he
  have e2 : tx (trimSuffix z.data.toList (signL (m : Int))) = z := by unfold trimSuffix; rw [e1]; exact tx_of z
  have c := Tryz.strings_CutSuffix z (sgB m) w
  have e3 : (sgB m).data.toList = signL (m : Int) := rfl
  rw [e3, e1] at c
  rw [← e2]
  conv => enter [3]; rw [e2]
  exact (c (by omega)).mono (fun e w' h => ⟨h.1, h.2.symm⟩)
theorem cutS_late {s : ByteArray} (hs : s.size ≤ 1048576) : ∃ (t : ByteArray) (late : Bool), t.size ≤ 1048576 ∧ ItHead s t late ∧ ∀ w : World, Calls Tryz.prog 90 #[.string s, .string ⟨#[32, 120]⟩] w fun e w' => e = .returned (.tuple #[.string t, .bool late]) ∧ w = w' := by
  obtain ⟨t, late, ht, hh, _⟩ := itHead_cases s hs
  refine ⟨t, late, ht, hh, fun w => ?_⟩
  have c := Tryz.strings_CutSuffix s ⟨#[32, 120]⟩ w
  have e3 : (⟨#[32, 120]⟩ : ByteArray).data.toList = [32, 120] := rfl
  rw [e3, hh.2] at c
  have e2 : tx (trimSuffix s.data.toList [32, 120]) = t := by rw [hh.1, tx_of]
  rw [← e2]
  exact (c (by omega)).mono (fun e w' h => ⟨h.1, h.2.symm⟩)
set_option maxRecDepth 100000 in
set_option maxHeartbeats 16000000 in
theorem implParseItem_any (s : ByteArray) (w : World) (hs : s.size ≤ 1048576) (hsg : HasSigns w) (hmx : HasMax w) :
    Calls Tryz.prog 41 #[.string s] w fun e w' => PiPost s w e w' := by
  have HSG := Lib.hid hsg
  have HMX := Lib.hid hmx
  clear hsg hmx
  obtain ⟨t, late, ht, hT, cl⟩ := cutS_late hs
  have HT := Lib.hid hT
  have CL := Lib.hid cl
  clear hT cl
  have CS : Hid (∀ w0 : World, HasMax w0 → Calls Tryz.prog 91 #[.string t, .string ⟨#[43]⟩] w0 fun e w' => ∃ cap, e = .returned (.slice (some ⟨w0.heap.size, 0, none⟩) (spB 43 t).length cap) ∧ OwnS w' w0.heap.size (.slice (some ⟨w0.heap.size, 0, none⟩) (spB 43 t).length cap) (spB 43 t) ∧ Kept w0 w') := Lib.hid (fun w0 h => split_any t 43 w0 ht h)
  go_enter Tryz.func41, Tryz.ntmps41
  go_wp2_with fail
  obtain ⟨w0, hw0⟩ : ∃ x : World, x = (((w.alloc (.cells #[.slice none 0 0, .slice none 0 0, .bool false] 64)).alloc (.cells #[] 9)).alloc (.cells #[] 3)).alloc (.cells #[.slice (some ⟨w.heap.size + 1, 0, none⟩) 0 0, .slice (some ⟨w.heap.size + 2, 0, none⟩) 0 0, .bool false] 64) := ⟨_, rfl⟩
  rw [← hw0]
  have B2 : Box w0 w.heap.size 64 #[.slice none 0 0, .slice none 0 0, .bool false] := hw0 ▸ (((Box.new w _ _ _ rfl).alloc _).alloc _).alloc _
  have BN : Box w0 (w.heap.size + 1) 9 #[] := hw0 ▸ ((Box.new (w.alloc _) _ _ _ (by simp)).alloc _).alloc _
  have BM : Box w0 (w.heap.size + 1 + 1) 3 #[] := hw0 ▸ (Box.new ((w.alloc _).alloc _) _ _ _ (by simp)).alloc _
  have B4 : Box w0 (w.heap.size + 1 + 1 + 1) 64 #[.slice (some ⟨w.heap.size + 1, 0, none⟩) 0 0, .slice (some ⟨w.heap.size + 1 + 1, 0, none⟩) 0 0, .bool false] := hw0 ▸ Box.new (((w.alloc _).alloc _).alloc _) _ _ _ (by simp)
  have K0 : Kept w w0 := hw0 ▸ ((((Kept.refl w).alloc _).alloc _).alloc _).alloc _
  have sz0 : w.heap.size + 4 ≤ w0.heap.size := by rw [hw0]; simp
  clear hw0
  obtain ⟨bb, hbb⟩ : ∃ b, b = w.heap.size + 1 + 1 + 1 := ⟨_, rfl⟩
  rw [← hbb] at B4 ⊢
  obtain ⟨bm, hbm⟩ : ∃ b, b = w.heap.size + 1 + 1 := ⟨_, rfl⟩
  rw [← hbm] at B4 BM ⊢
  obtain ⟨bn, hbn⟩ : ∃ b, b = w.heap.size + 1 := ⟨_, rfl⟩
  rw [← hbn] at B4 BN ⊢
  have hb1 : w.heap.size < bn := by omega
  have hb2 : bn < bm := by omega
  have hb3 : bm < bb := by omega
  have hb4 : bb < w0.heap.size := by omega
  clear hbb hbm hbn sz0
  obtain ⟨x4, y4⟩ := B4.three
  refine (CL.out _).mono ?_
  rintro e w1 ⟨rfl, rfl⟩
  go_wp2_with fail
  clear x4 y4
  obtain ⟨wq, hwq⟩ : ∃ x : World, x = w0.setCell ⟨bb, 2, none⟩ (.bool late) := ⟨_, rfl⟩
  rw [← hwq]
  have B4' : Box wq bb 64 #[.slice (some ⟨bn, 0, none⟩) 0 0, .slice (some ⟨bm, 0, none⟩) 0 0, .bool late] := hwq ▸ B4.set2 _
  have B2' : Box wq w.heap.size 64 #[.slice none 0 0, .slice none 0 0, .bool false] := hwq ▸ B2.far _ (by simp only [ne_eq]; omega) _
  have BN' : Box wq bn 9 #[] := hwq ▸ BN.far _ (by simp only [ne_eq]; omega) _
  have BM' : Box wq bm 3 #[] := hwq ▸ BM.far _ (by simp only [ne_eq]; omega) _
  have K0' : Kept w wq := hwq ▸ K0.setCell (by simp only; omega) _
  have sz0' : bb < wq.heap.size := by rw [hwq]; simpa [World.setCell] using hb4
  clear hwq B4 B2 BN BM K0 hb4
  refine (CS.out _ (HMX.out.kept K0')).mono ?_
  rintro e w1 ⟨cap, rfl, o1, k1⟩
  obtain ⟨g, hgq⟩ : ∃ g, g = wq.heap.size := ⟨_, rfl⟩
  rw [← hgq] at o1
  rw [← hgq]
  have hg4 : bb < g := by omega
  clear hgq
  have hcc := own_form o1.1
  have hc1 : (spB 43 t).length ≤ cap := by obtain ⟨_, _, e, h1, h2, _⟩ := hcc; cases e; exact h1
  have hc2 : cap ≤ maxLen := by obtain ⟨_, _, e, h1, h2, _⟩ := hcc; cases e; exact h2
  unfold maxLen at hc2
  have hgl := own_fp o1.1 g (by simp [fp_some])
  have HO1 := Lib.hid o1
  have hlen := spB_le 43 t
  replace B2' := B2'.kept k1
  replace B4' := B4'.kept k1
  replace BN' := BN'.kept k1
  replace BM' := BM'.kept k1
  have K1 := K0'.trans k1
  have sz1 := k1.size
  have HSG1 := Lib.hid (HSG.out.kept K1)
  clear o1 k1 K0' hcc
  have HB : Hid (RowSt [bn, bm, bb] w.heap.size bb w.heap.size t late w1 w1 0 (.slice (some ⟨bn, 0, none⟩) 0 0) (.slice (some ⟨bm, 0, none⟩) 0 0)) := Lib.hid ⟨B2', B4', ⟨own_made _ _ 1 (by omega) BN', fun _ h => by cases h⟩, own_made _ _ 1 (by omega) BM', fun b hb => by simp only [fp_some, List.mem_singleton] at hb ⊢; omega, Only.refl _ _, by simp, by omega, fun b hb => by simp only [fp_some, List.mem_append, List.mem_singleton] at hb; simp only [List.mem_cons, List.mem_singleton]; omega, by omega⟩
  clear B2' B4' BN' BM'
  go_wp2_with fail
  go_loopw [23] (fun i wr => ∃ (k : Nat) (nv mv : Value), k ≤ (spB 43 t).length ∧ i = .int .i64 k ∧ RowSt [bn, bm, bb] w.heap.size bb w.heap.size t late w1 wr k nv mv) (fun i _ => (spB 43 t).length - (RowKit.intOf i).toNat)
  case atStart => exact ⟨0, _, _, Nat.zero_le _, rfl, HB.out⟩
  case round =>
    clear HB
    obtain ⟨k, nv, mv, hk, rfl, hst⟩ := hrel
    have on_ := hst.names
    have om := hst.marks
    have b4 := hst.bbox
    obtain ⟨An, cn, rfl, _⟩ := own_form on_.1
    obtain ⟨Am, cm, rfl, _⟩ := own_form om
    have HNL := Lib.hid (nmsP_len t)
    have HML := Lib.hid (mksP_len t)
    have hnl : ((nmsP t).take k).length = k := by rw [List.length_take, HNL.out]; omega
    have hml : ((mksP t).take k).length = k := by rw [List.length_take, HML.out]; omega
    rw [hnl, hml] at hst b4
    rw [hnl] at on_
    rw [hml] at om
    have HST := Lib.hid hst
    have ON := Lib.hid on_
    have OM := Lib.hid om
    have szr := hst.only.size
    have HK1 := Lib.hid hnl
    have HK2 := Lib.hid hml
    clear hst on_ om hnl hml
    by_cases hlt : k < (spB 43 t).length
    · have OW := Lib.hid (HO1.out.only HST.out.only (fun b hb => by rw [fp_some, List.mem_singleton] at hb; simp only at hb; simp only [List.mem_cons, List.not_mem_nil, or_false]; omega))
      obtain ⟨b0, i0, z, e0, hb0, hz0, hx0⟩ := strs_at (k := k) OW.out.strs.1.addr hlt
      cases e0
      rw [Nat.zero_add] at hx0
      have HN := Lib.hid (nmsP_snoc hz0)
      have HM := Lib.hid (mksP_snoc hz0)
      have hzs := spB_sz (List.mem_of_getElem? hz0)
      have HNZ := Lib.hid (nmW_sz z)
      clear hz0
      have hed : 0 ≤ mkW z ∧ mkW z ≤ 3 := endM_bd _
      have HZ0 := Lib.hid (fun h => nmW_zero (z := z) h)
      have CY : Hid (∀ (m : Nat), 1 ≤ m → m ≤ 3 → mkW z = (m : Int) → ∀ w0 : World, Calls Tryz.prog 90 #[.string z, .string (sgB m)] w0 fun e w' => e = .returned (.tuple #[.string (nmW z), .bool true]) ∧ w0 = w') := Lib.hid (fun m h1 h3 he w0 => cutS_yes (by omega) h1 h3 he rfl w0)
      have CN : Hid (∀ (m : Nat), 1 ≤ m → m ≤ 3 → ¬ mkW z = (m : Int) → ∀ w0 : World, Calls Tryz.prog 90 #[.string z, .string (sgB m)] w0 fun e w' => e = .returned (.tuple #[.string z, .bool false]) ∧ w0 = w') := Lib.hid (fun m h1 h3 he w0 => cutS_no (by omega) h1 h3 he w0)
      generalize hnm : nmW z = nm at HN HZ0 HNZ CY
      clear hnm
      generalize hme : mkW z = me at HM HZ0 hed CY CN
      clear hme
      have HB4 := Lib.hid b4
      have KW : Hid (Kept w wr) := Lib.hid (HST.out.only.above K1 (fun b hb => by simp only [List.mem_cons, List.not_mem_nil, or_false] at hb; omega))
      clear b4
      have HQ0 : Hid (∀ j : Nat, 1 ≤ j → j < 1 → ¬ me = (j : Int)) := Lib.hid (fun j h1 h2 => by omega)
      go_wp2_with fail
      go_loop [6, 7, 8] (fun s6 s7 mm => ∃ m : Nat, 1 ≤ m ∧ m ≤ 4 ∧ s6 = .string z ∧ s7 = .int .i64 0 ∧ mm = .int .i64 m ∧ Hid (∀ j : Nat, 1 ≤ j → j < m → ¬ me = (j : Int))) (fun _ _ mm => 4 - (RowKit.intOf mm).toNat)
      case atStart => exact ⟨1, by omega, by omega, rfl, rfl, rfl, HQ0⟩
      case round =>
        clear HQ0
        obtain ⟨m, hm1, hm4, rfl, rfl, rfl, hno⟩ := hrel
        by_cases hm : m ≤ 3
        · have hm' : (m : Int) ≤ 3 := by omega
          have hm5 : (m : Int) < 4 := by omega
          have xs := (HSG.out.kept KW.out) m hm
          by_cases hme : me = (m : Int)
          · have C := Lib.hid (CY.out m hm1 hm hme)
            have hnz : nm.size ≤ maxLen := by have := HNZ.out; unfold maxLen; omega
            subst hme
            clear HZ0 CY CN hno
            obtain ⟨x4, y4⟩ := HB4.out.three
            have k2 := Kept.refl wr
            have hn4 : Hid (((nmsP t).take (k + 1)).length = k + 1) := Lib.hid (by rw [List.length_take, HNL.out]; omega)
            have hm6 : Hid (((mksP t).take (k + 1)).length = k + 1) := Lib.hid (by rw [List.length_take, HML.out]; omega)
            go_wp2_with (first | (go_at_call 90; refine (C.out _).mono ?_; rintro e w' ⟨rfl, rfl⟩) | (at_builtin; refine wpList_append_SD _ rfl _ _ rfl w.heap.size (.slice An k cn) ((nmsP t).take k) rfl (ON.out.kept (k2.alloc _)) _ [nm] rfl (strs_box1 (Box.new _ _ _ _ rfl) hnz) (by rw [HK1.out]; simp only [List.length_cons, List.length_nil]; omega) (by simp; omega) ?_; intro v4 w4 o4 on4 f4; rw [← HN.out] at o4; obtain ⟨A4, c4, e4, _⟩ := own_form o4.1; rw [hn4.out] at e4; subst e4; obtain ⟨b5, om5⟩ := HST.out.mid1 (k2.alloc _) on4; obtain ⟨x5, y5⟩ := b5.three; have O4 := Lib.hid o4; have ON4 := Lib.hid on4; have F4 := Lib.hid f4; clear x4 y4 o4 f4 om5 on4 b5) | (at_builtin; refine wpList_append_ID _ rfl _ _ rfl w.heap.size (.slice Am k cm) ((mksP t).take k) rfl (HST.out.mid2 (k2.alloc _) ON4.out _) _ [(m : Int)] rfl (ints_box1 (Box.new _ _ _ _ (by simp [World.setCell]))) (by rw [HK2.out]; simp only [List.length_cons, List.length_nil]; omega) (by have h4 := ON4.out.size; simp at h4; simp [World.setCell]; omega) ?_; intro v6 w6 o6 on6 f6; rw [← HM.out] at o6; obtain ⟨A6, c6, e6, _⟩ := own_form o6; rw [hm6.out] at e6; subst e6; have b7 := HST.out.mid3 (k2.alloc _) ON4.out on6; obtain ⟨x7, y7⟩ := b7.three; have ST := Lib.hid (HST.out.step (k2.alloc _) (by simp <;> omega) ON4.out on6 O4.out o6 F4.out f6); clear x5 y5 o6 on6 f6 b7))
            go_roundw
            case rel => exact ⟨k + 1, _, _, by omega, by go_num, ST.out⟩
            case measure => simp [RowKit.intOf]; omega
          · have C := Lib.hid (CN.out m hm1 hm hme)
            have HNO : Hid (∀ j : Nat, 1 ≤ j → j < m + 1 → ¬ me = (j : Int)) := Lib.hid (fun j h1 h2 => by
              by_cases hjm : j = m
              · subst hjm; exact hme
              · exact hno.out j h1 (by omega))
            clear hme hno CY CN
            go_wp2_with (go_at_call 90; refine (C.out _).mono ?_; rintro e w' ⟨rfl, rfl⟩)
            go_round
            case rel => exact ⟨m + 1, by omega, by omega, rfl, rfl, by go_num, HNO⟩
            case measure => simp [RowKit.intOf]; omega
        · obtain rfl : m = 4 := by omega
          have h1 := hno.out 1 (by omega) (by omega)
          have h2 := hno.out 2 (by omega) (by omega)
          have h3 := hno.out 3 (by omega) (by omega)
          obtain rfl : me = 0 := by omega
          have hnm := HZ0.out rfl
          subst hnm
          have hnz : nm.size ≤ maxLen := by have := HNZ.out; unfold maxLen; omega
          clear HZ0 CY CN hno h1 h2 h3
          obtain ⟨x4, y4⟩ := HB4.out.three
          have k2 := Kept.refl wr
          have hn4 : Hid (((nmsP t).take (k + 1)).length = k + 1) := Lib.hid (by rw [List.length_take, HNL.out]; omega)
          have hm6 : Hid (((mksP t).take (k + 1)).length = k + 1) := Lib.hid (by rw [List.length_take, HML.out]; omega)
          go_wp2_with (first | (at_builtin; refine wpList_append_SD _ rfl _ _ rfl w.heap.size (.slice An k cn) ((nmsP t).take k) rfl (ON.out.kept (k2.alloc _)) _ [nm] rfl (strs_box1 (Box.new _ _ _ _ rfl) hnz) (by rw [HK1.out]; simp only [List.length_cons, List.length_nil]; omega) (by simp; omega) ?_; intro v4 w4 o4 on4 f4; rw [← HN.out] at o4; obtain ⟨A4, c4, e4, _⟩ := own_form o4.1; rw [hn4.out] at e4; subst e4; obtain ⟨b5, om5⟩ := HST.out.mid1 (k2.alloc _) on4; obtain ⟨x5, y5⟩ := b5.three; have O4 := Lib.hid o4; have ON4 := Lib.hid on4; have F4 := Lib.hid f4; clear x4 y4 o4 f4 om5 on4 b5) | (at_builtin; refine wpList_append_ID _ rfl _ _ rfl w.heap.size (.slice Am k cm) ((mksP t).take k) rfl (HST.out.mid2 (k2.alloc _) ON4.out _) _ [(0 : Int)] rfl (ints_box1 (Box.new _ _ _ _ (by simp [World.setCell]))) (by rw [HK2.out]; simp only [List.length_cons, List.length_nil]; omega) (by have h4 := ON4.out.size; simp at h4; simp [World.setCell]; omega) ?_; intro v6 w6 o6 on6 f6; rw [← HM.out] at o6; obtain ⟨A6, c6, e6, _⟩ := own_form o6; rw [hm6.out] at e6; subst e6; have b7 := HST.out.mid3 (k2.alloc _) ON4.out on6; obtain ⟨x7, y7⟩ := b7.three; have ST := Lib.hid (HST.out.step (k2.alloc _) (by simp <;> omega) ON4.out on6 O4.out o6 F4.out f6); clear x5 y5 o6 on6 f6 b7))
          go_roundw
          case rel => exact ⟨k + 1, _, _, by omega, by go_num, ST.out⟩
          case measure => simp [RowKit.intOf]; omega
    · have HKN : Hid (k = (spB 43 t).length) := Lib.hid (by omega)
      have OT := Lib.hid (HST.out.whole HT.out HKN.out)
      have FIN : Hid (∀ w3 w4 : World, Kept wr w3 → Only [w.heap.size] w3 w4 → OwnT w4 w.heap.size (.agg #[.slice An k cn, .slice Am k cm, .bool late]) (itP s.data.toList)) := Lib.hid (fun w3 w4 k3 q => HST.out.fin HT.out HKN.out k3 q)
      have KW : Hid (Kept w wr) := Lib.hid (HST.out.only.above K1 (fun b hb => by simp only [List.mem_cons, List.not_mem_nil, or_false] at hb; omega))
      obtain ⟨x4, y4⟩ := b4.three
      have b2 := HST.out.hbox
      go_wp2_with fail
      clear x4 y4
      refine (isItem_any _ (itP s.data.toList) _ OT.out.item).mono ?_
      rintro e w2 ⟨rfl, k2⟩
      cases hpb : itemB (itP s.data.toList) with
      | false =>
        have HP : Hid (piB s = false) := Lib.hid hpb
        clear hpb
        obtain ⟨x2, y2⟩ := (b2.kept k2).three
        go_wp2_with fail
        clear x2 y2
        obtain ⟨w5, hw5, B5, Q5⟩ := set3 (b2.kept k2) (.slice none 0 0) (.slice none 0 0) (.bool false)
        rw [← hw5]
        clear hw5
        obtain ⟨cc, ff⟩ := B5.three
        refine bodyPost_ret (v := .tuple #[.agg #[.slice none 0 0, .slice none 0 0, .bool false], .bool false]) (by simp [results, Tryz.results41, go_sem, cc, ff]) rfl ?_
        exact PiPost.no HP.out (Q5.above (KW.out.trans k2) (by simp))
      | true =>
        have HP : Hid (piB s = true) := Lib.hid hpb
        clear hpb
        obtain ⟨x4, y4⟩ := (b4.kept k2).three
        obtain ⟨x2, y2⟩ := (b2.kept k2).three
        go_wp2_with fail
        clear x4 y4 x2 y2
        obtain ⟨w5, hw5, B5, Q5⟩ := set3 (b2.kept k2) (.slice An k cn) (.slice Am k cm) (.bool late)
        rw [← hw5]
        clear hw5
        obtain ⟨cc, ff⟩ := B5.three
        refine bodyPost_ret (v := .tuple #[.agg #[.slice An k cn, .slice Am k cm, .bool late], .bool true]) (by simp [results, Tryz.results41, go_sem, cc, ff]) rfl ?_
        exact PiPost.yes HP.out (FIN.out _ _ k2 Q5) (Q5.above (KW.out.trans k2) (by simp))
end Go.Proofs.YtkekpolfdmmgeaaGreatDoor

/- Lists of items copied; marks cleared, late ones set. -/
namespace Go.Proofs.YtkekpolfdmmgeaaGreatDoor
set_option linter.unusedVariables false
set_option linter.unusedSimpArgs false
open Go.RowKit

theorem l1OwnI_any (v : Value) (zs : List Int) (w : World) (h : Ints w v zs) (hn : zs.length ≤ 1048576) :
    Calls Tryz.prog 107 #[v] w fun e w' => ∃ v', e = .returned v' ∧ OwnI w' w.heap.size v' zs ∧ Kept w w' := by
  have H := Lib.hid h
  clear h
  go_enter Tryz.func107, Tryz.ntmps107
  go_wp2_with (at_builtin; refine wpList_append_I _ rfl _ _ rfl w.heap.size _ [] rfl (own_made _ _ 1 (Nat.le_refl _) (Box.new _ _ _ _ rfl)) _ zs rfl (H.out.kept ((Kept.refl _).alloc _)) (by simp; omega) (by simp) ?_; intro v' w' ho' hg)
  have kg := ((Kept.refl w).alloc (.cells #[] 3)).grew (own_made (base := w.heap.size) _ _ 1 (Nat.le_refl _) (Box.new _ _ _ _ rfl)) hg (Nat.le_refl _)
  go_ret
  exact ⟨_, rfl, ho', kg⟩
theorem copyIntsI_any (v : Value) (zs : List Int) (w : World) (h : Ints w v zs) (hn : zs.length ≤ 1048576) :
    Calls Tryz.prog 104 #[v] w fun e w' => ∃ v', e = .returned v' ∧ OwnI w' w.heap.size v' zs ∧ Kept w w' := by
  have H := Lib.hid h
  clear h
  go_enter Tryz.func104, Tryz.ntmps104
  go_wp2_with (at_builtin; refine wpList_append_I _ rfl _ _ rfl w.heap.size _ [] rfl (own_made _ _ 1 (Nat.le_refl _) (Box.new _ _ _ _ rfl)) _ zs rfl (H.out.kept ((Kept.refl _).alloc _)) (by simp; omega) (by simp) ?_; intro v' w' ho' hg)
  have kg := ((Kept.refl w).alloc (.cells #[] 3)).grew (own_made (base := w.heap.size) _ _ 1 (Nat.le_refl _) (Box.new _ _ _ _ rfl)) hg (Nat.le_refl _)
  go_ret
  exact ⟨_, rfl, ho', kg⟩
theorem l1OwnS_any (v : Value) (zs : List ByteArray) (w : World) (h : Strs w v zs) (hn : zs.length ≤ 1048576) :
    Calls Tryz.prog 113 #[v] w fun e w' => ∃ v', e = .returned v' ∧ OwnS w' w.heap.size v' zs ∧ Kept w w' := by
  have H := Lib.hid h
  clear h
  go_enter Tryz.func113, Tryz.ntmps113
  go_wp2_with (at_builtin; refine wpList_append_S _ rfl _ _ rfl w.heap.size _ [] rfl ⟨own_made _ _ 1 (Nat.le_refl _) (Box.new _ _ _ _ rfl), (fun _ h => by cases h)⟩ _ zs rfl (H.out.kept ((Kept.refl _).alloc _)) (by simp; omega) (by simp) ?_; intro v' w' ho' hg)
  have kg := ((Kept.refl w).alloc (.cells #[] 9)).grew (own_made (base := w.heap.size) _ _ 1 (Nat.le_refl _) (Box.new _ _ _ _ rfl)) hg (Nat.le_refl _)
  go_ret
  exact ⟨_, rfl, ho', kg⟩
set_option maxRecDepth 100000 in
set_option maxHeartbeats 4000000 in
theorem copyItem_any (v : Value) (it : ItemD) (w : World) (h : ItemAt w v it) (hn : it.names.length ≤ 1048576) (hm : it.marks.length ≤ 1048576) :
    Calls Tryz.prog 130 #[v] w fun e w' => ∃ v', e = .returned v' ∧ OwnT w' w.heap.size v' it ∧ Kept w w' := by
  obtain ⟨nv, mv, rfl, q1, q2⟩ := h
  obtain ⟨A, c, rfl, hnc, hcm, hl⟩ := q1.1.out
  obtain ⟨A2, c2, rfl, _, _, _⟩ := q2.out
  have H1 := Lib.hid q1
  have H2 := Lib.hid q2
  clear q1 q2 hl
  go_enter Tryz.func130, Tryz.ntmps130
  go_wp2_with fail
  have B0 := (Box.new w w.heap.size 64 #[.slice A it.names.length c, .slice A2 it.marks.length c2, .bool it.late] rfl).alloc (.cells #[.slice none 0 0, .slice none 0 0, .bool false] 64)
  have B1 := Box.new (w.alloc (.cells #[.slice A it.names.length c, .slice A2 it.marks.length c2, .bool it.late] 64)) (w.heap.size + 1) 64 #[.slice none 0 0, .slice none 0 0, .bool false] (by simp)
  have K0 : Kept w ((w.alloc (.cells #[.slice A it.names.length c, .slice A2 it.marks.length c2, .bool it.late] 64)).alloc (.cells #[.slice none 0 0, .slice none 0 0, .bool false] 64)) := ((Kept.refl w).alloc _).alloc _
  generalize (w.alloc (.cells #[.slice A it.names.length c, .slice A2 it.marks.length c2, .bool it.late] 64)).alloc (.cells #[.slice none 0 0, .slice none 0 0, .bool false] 64) = w0 at *
  replace B0 : Box w0.drew w.heap.size 64 _ := B0
  have hz0 : w.heap.size + 1 < w0.heap.size := B1.lt
  have B1d : Box w0.drew (w.heap.size + 1) 64 #[.slice none 0 0, .slice none 0 0, .bool false] := B1
  have K0d : Kept w w0.drew := K0.drew
  have B0a : Box (w0.alloc (.cells #[] 9)).drew w.heap.size 64 #[.slice A it.names.length c, .slice A2 it.marks.length c2, .bool it.late] := B0.alloc _
  clear B1
  go_region_held3 (fun w' => w'.cell? ⟨w.heap.size, 0, none⟩ = some (.slice A it.names.length c) ∧ w'.cell? ⟨w.heap.size, 1, none⟩ = some (.slice A2 it.marks.length c2) ∧ w'.cell? ⟨w.heap.size, 2, none⟩ = some (.bool it.late)) (first | (with_reducible exact B0.three.1) | (with_reducible exact B0a.three.1) | (with_reducible exact (B0.kept (by assumption)).three.1) | (with_reducible exact (Box.far3 (B0.kept (by assumption)) (by omega) _ _ _).three.1))
    (first | (refine step_append_S _ rfl _ _ rfl w0.drew.heap.size _ [] rfl ⟨own_made _ _ 1 (Nat.le_refl _) (Box.new _ _ _ _ rfl), (fun _ h => by cases h)⟩ _ it.names rfl (H1.out.kept (K0d.alloc _)) (by simp; omega) (by simp) ?_; intro v1 w1 o1 hg1; have k1 := ((Kept.refl w0.drew).alloc (.cells #[] 9)).grew (own_made (base := w0.drew.heap.size) _ _ 1 (Nat.le_refl _) (Box.new _ _ _ _ rfl)) hg1 (Nat.le_refl _); clear hg1; obtain ⟨A1, c1, rfl, _, _, _⟩ := own_form o1.1; have O1 := Lib.hid o1; clear o1) | (go_at_call 104; refine (copyIntsI_any _ it.marks _ (H2.out.kept (K0d.trans k1)) hm).mono ?_; rintro e w2 ⟨v2, rfl, o2, k2⟩; have k12 := k1.trans k2; obtain ⟨A3, c3, rfl, _, _, _⟩ := own_form o2; have O2 := Lib.hid o2; clear o2; obtain ⟨cc, ff⟩ := (B1d.kept k12).three))
  rename_i hheld
  clear hheld cc ff
  obtain ⟨w3, hw3, B3, Q3⟩ := set3 (B1d.kept k12) (.slice A1 it.names.length c1) (.slice A3 it.marks.length c3) (.bool it.late)
  rw [← hw3]
  clear hw3
  obtain ⟨cc, ff⟩ := B3.three
  go_wp2_with fail
  have hz1 := k1.size
  have hz2 := k2.size
  have hzd : w0.drew.heap.size = w0.heap.size := rfl
  refine bodyPost_ret (v := .agg #[.slice A1 it.names.length c1, .slice A3 it.marks.length c3, .bool it.late]) (by simp [results, Tryz.results130, go_sem, cc, ff]) rfl ⟨_, rfl, ⟨_, _, rfl, ?_, ?_, ?_⟩, ?_⟩
  · exact OwnS.far (S := [w.heap.size + 1]) (O1.out.kept k2) Q3 (by simp; omega) (by omega)
  · exact OwnI.far (S := [w.heap.size + 1]) O2.out Q3 (by simp; omega) (by omega)
  · rw [fpA_item]
    exact nodup_fp (m := w1.heap.size) (fun y hy => (own_fp O1.out.1 y hy).2) (fun y hy => (own_fp O2.out y hy).1)
  · exact Q3.above (K0d.trans k12) (by simp)
end Go.Proofs.YtkekpolfdmmgeaaGreatDoor

/- Lists of items: copied, cleaned, with Late as rule 8 says. -/
namespace Go.Proofs.YtkekpolfdmmgeaaGreatDoor
set_option linter.unusedVariables false
set_option linter.unusedSimpArgs false
open Go.RowKit

theorem madeZ (n : Nat) : (madeCells (Value.int .i64 0).cells (n * 1)).toList = (List.replicate n (0 : Int)).map (Value.int .i64) := by
  apply List.ext_getElem?
  intro j
  by_cases hj : j < n
  · simp [madeCells, hj, show (Value.int .i64 0).cells = #[Value.int .i64 0] from rfl, Nat.mod_one]
  · simp [madeCells, hj]
theorem run_make_Z (w : World) (n : Nat) (hn : n ≤ 1048576) : (Instr.makeSlice 24 (.int .i64 (n : Int)) (.int .i64 (n : Int))).run Tryz.prog w = .ok (.slice (some ⟨w.heap.size, 0, none⟩) n n) (w.alloc (.cells (madeCells (Value.int .i64 0).cells (n * 1)) 3)) := by
  obtain ⟨i0, hi, hz0, hz1, hz2⟩ := info_parts info_int
  have hr := run_make (P := Tryz.prog) w 24 3 i0 _ Tryz.underlying24 hi hz0 .i64 .i64 n n (by omega) (Int.le_refl _) (by rw [hz2]; omega) (by omega)
  simp only [Int.toNat_natCast, hz1] at hr
  exact hr
theorem own_make_Z (w : World) (n : Nat) (hn : n ≤ 1048576) : OwnI (w.alloc (.cells (madeCells (Value.int .i64 0).cells (n * 1)) 3)) w.heap.size (.slice (some ⟨w.heap.size, 0, none⟩) n n) (List.replicate n 0) := by
  have h := World.ownsRow_lit (base := w.heap.size) (e := 3) (size := 1) w (madeCells (Value.int .i64 0).cells (n * 1)) n (Nat.le_refl _) (by unfold maxLen; omega) (size_madeCells _ _)
  rw [madeZ] at h
  unfold OwnI
  rw [List.length_replicate]
  exact h
theorem nodup_fp2 {a b : Value} {m : Nat} (h1 : ∀ x ∈ fp a, m ≤ x) (h2 : ∀ x ∈ fp b, x < m) : (fp a ++ fp b).Nodup := by
  rw [List.nodup_append]
  exact ⟨nodup_one a, nodup_one b, fun x hx y hy e => by have := h1 x hx; have := h2 y hy; omega⟩
def cleanIt (it : ItemD) : ItemD := ⟨it.names, List.replicate it.names.length 0, it.late⟩
def cleaned (its : List ItemD) : List ItemD := its.map cleanIt
theorem cleaned_get {its : List ItemD} {k : Nat} {it : ItemD} (h : its[k]? = some it) : (cleaned its)[k]? = some (cleanIt it) := by unfold cleaned; rw [List.getElem?_map, h]; rfl
theorem cleaned_length (its : List ItemD) : (cleaned its).length = its.length := by simp [cleaned]
theorem all_some {its : List ItemD} (h : its.all itemB = true) {k : Nat} {it : ItemD} (hi : its[k]? = some it) : itemB it = true ∧ 1 ≤ it.names.length ∧ it.names.length ≤ 3 ∧ it.marks.length = it.names.length := by
  have h1 := List.all_eq_true.1 h it (List.mem_of_getElem? hi)
  have := itemB_true h1
  exact ⟨h1, this.2.1, this.2.2.1, this.2.2.2.1⟩
def lateI (n k : Nat) (it : ItemD) : ItemD := { it with late := decide (n ≤ 2 * k) }
def lated (its : List ItemD) : List ItemD := its.mapIdx (lateI its.length)
theorem lated_length (its : List ItemD) : (lated its).length = its.length := by simp [lated]
theorem lated_get {its : List ItemD} {k : Nat} {it : ItemD} (h : its[k]? = some it) : (lated its)[k]? = some (lateI its.length k it) := by
  unfold lated; rw [List.getElem?_mapIdx, h]; rfl
def onT (b : Bool) (v : List ItemD) : List ItemD := cond b v []
theorem ret_vb3 {v : Value} {b b' : Bool} (h : b = b') : Ending.returned (.tuple #[v, .bool b]) = .returned (.tuple #[v, .bool b']) := by rw [h]
theorem nilL (w : World) (base : Nat) : OwnL w base (.slice none 0 0) [] (fp (.slice none 0 0) ++ fpL []) := (OwnC.nil0 w base).toL
theorem OwnL.base {w : World} {base base' : Nat} {v : Value} {its : List ItemD} {S : List Nat} (h : OwnL w base v its S) (hb : base' ≤ base) : OwnL w base' v its S := by
  obtain ⟨cs, h1, h2, h3, h4, h5, h6⟩ := h
  exact ⟨cs, h1, own_base h2 hb, fun k nv mv it q1 q2 => ⟨⟨own_base (h3 k nv mv it q1 q2).1.1 hb, (h3 k nv mv it q1 q2).1.2⟩, own_base (h3 k nv mv it q1 q2).2 hb⟩, h4, h5, fun b hb' => ⟨Nat.le_trans hb (h6 b hb').1, (h6 b hb').2⟩⟩
set_option maxHeartbeats 4000000 in
theorem copyItems_any (v0 : Value) (its : List ItemD) (w : World) (h0 : ItemsAt w v0 its) (hv : its.all itemB = true) (hl : its.length ≤ 1000) :
    Calls Tryz.prog 112 #[v0] w fun e w' => ∃ v' cs, e = .returned v' ∧ OwnC w' w.heap.size v' its cs ∧ Kept w w' := by
  have H0 := Lib.hid h0
  obtain ⟨A0, c0, cs0, rfl, hnc0, hcm0, hA0⟩ := h0.out; have HA0 := Lib.hid hA0; clear hA0 h0; unfold maxLen at hcm0
  go_enter Tryz.func112, Tryz.ntmps112
  have K0 := Kept.refl w
  have HV := Lib.hid hv
  clear hv
  go_wp2_with fail
  obtain ⟨w0, hw0⟩ : ∃ w' : World, w' = w.alloc (.cells #[] 64) := ⟨_, rfl⟩
  rw [← hw0]
  have KE : Kept w w0 := hw0 ▸ (Kept.refl w).alloc _
  have HO0 : Hid (OwnC w0 w.heap.size (.slice (some ⟨w.heap.size, 0, none⟩) 0 0) (its.take 0) []) := Lib.hid (OwnC.made _ (Nat.le_refl _) (hw0 ▸ Box.new w _ _ _ rfl))
  clear hw0
  go_loopw [3, 9] (fun q i wr => ∃ (j : Nat) (cs : List (Value × Value)), j ≤ its.length ∧ i = .int .i64 j ∧ OwnC wr w.heap.size q ((its).take j) cs ∧ Kept w wr) (fun _ i _ => its.length - (intOf i).toNat)
  case atStart => exact ⟨0, [], Nat.zero_le _, rfl, HO0.out, KE⟩
  case round =>
    obtain ⟨j, cs, hj, rfl, ho, hkept⟩ := hrel
    have HO := Lib.hid ho
    clear ho HO0
    have szr := hkept.size
    have Kr := K0.trans hkept
    by_cases hlt : j < its.length
    · obtain ⟨b, o, Aa, ca, Ab, cb, it, rfl, hbb, h2, h3, hit, q0, q1, q2⟩ := items_at (HA0.out.kept Kr) hlt
      obtain ⟨hib, hi1, hi3, him⟩ := all_some HV.out h2
      have him3 : it.marks.length ≤ 3 := by omega
      clear him
      have HIT := Lib.hid hit
      have HSN := Lib.hid (take_snoc h2)
      clear h2 h3 hit
      have htl : ((its).take j).length ≤ 1000 := by rw [List.length_take]; omega
      go_upto_region 5 with (fail)
      obtain ⟨wb1, hwb1⟩ : ∃ w' : World, w' = wr.alloc (.cells #[.slice Aa it.names.length ca, .slice Ab it.marks.length cb, .bool it.late] 64) := ⟨_, rfl⟩
      rw [← hwb1]
      have KBt : Kept wr wb1 := hwb1 ▸ (Kept.refl wr).alloc _
      have Bt : Box wb1 (wr.heap.size) 64 #[.slice Aa it.names.length ca, .slice Ab it.marks.length cb, .bool it.late] := hwb1 ▸ Box.new wr (wr.heap.size) 64 #[.slice Aa it.names.length ca, .slice Ab it.marks.length cb, .bool it.late] rfl
      have swb1 : wb1.heap.size = wr.heap.size + 1 := by rw [hwb1]; simp
      clear hwb1
      have Kwb1 := Kr.trans KBt
      clear q0 q1 q2
      obtain ⟨xt, yt⟩ := Bt.three
      go_wp2_with fail
      clear xt yt
      refine (copyItem_any _ it _ (HIT.out.kept KBt) (by omega) (by omega)).mono ?_
      rintro e w1 ⟨v1, rfl, o1, k1⟩
      replace Bt := Bt.kept k1
      have sz1 := k1.size
      have K1 := Kwb1.trans k1
      obtain ⟨nv, mv, rfl, p1, p2, nd⟩ := o1
      rw [fpA_item] at nd
      obtain ⟨A1, c1, rfl, _⟩ := own_form p1.1
      obtain ⟨A2, c2, rfl, _⟩ := own_form p2
      have P1 := Lib.hid p1
      have P2 := Lib.hid p2
      have ND := Lib.hid nd
      clear p1 p2 nd
      have HOk := Lib.hid (HO.out.kept ((KBt.trans k1).alloc (.cells #[.slice A1 it.names.length c1, .slice A2 it.marks.length c2, .bool it.late] 64)))
      obtain ⟨xt, yt⟩ := Bt.three
      go_wp2_with (at_builtin; refine wpList_append_T _ rfl _ _ rfl w.heap.size _ _ _ rfl HOk.out.2.1 w1.heap.size (.slice A1 it.names.length c1) (.slice A2 it.marks.length c2) (.bool it.late) rfl (Box.new _ _ _ _ rfl) ⟨rfl, rfl, rfl⟩ (by omega) (by have := sz1; simp; omega) ?_; intro v3 w3 o3 g3 h3)
      clear xt yt
      have hpush := OwnC.push (it := it) HOk.out ⟨own_base (P1.out.kept ((Kept.refl _).alloc _)).1 (by omega), P1.out.2⟩ (own_base (P2.out.kept ((Kept.refl _).alloc _)) (by omega)) ND.out (fun b hb hb' => by
        have h1 := (HO.out.fps b hb').2
        rcases List.mem_append.1 hb with hb | hb
        · have := (own_fp P1.out.1 b hb).1; omega
        · have := (own_fp P2.out b hb).1; omega) o3 g3 h3
      have kg : Kept w w3 := ((hkept.trans (KBt.trans k1)).alloc _).grew HOk.out.2.1 g3 (Nat.le_refl _)
      have HP := Lib.hid hpush
      clear hpush o3 g3 h3
      go_wp2_with fail
      go_roundw
      case rel => exact ⟨j + 1, _, by omega, by go_num, by rw [HSN.out]; exact HP.out, kg⟩
      case measure => simp [intOf]; omega
    · obtain rfl : j = its.length := by omega
      have HOE : Hid (OwnC wr w.heap.size _ its cs) := Lib.hid (by have := HO.out; rw [List.take_length] at this; exact this)
      go_wp2_with fail
      go_ret
      exact ⟨_, cs, rfl, HOE.out, Kr⟩
set_option maxRecDepth 100000 in
set_option maxHeartbeats 4000000 in
theorem itClean_any (v : Value) (it : ItemD) (w : World) (h : ItemAt w v it) (hn : it.names.length ≤ 1048576) (_ : it.marks.length ≤ 1048576) :
    Calls Tryz.prog 82 #[v] w fun e w' => ∃ v', e = .returned v' ∧ OwnT w' w.heap.size v' (cleanIt it) ∧ Kept w w' := by
  obtain ⟨nv, mv, rfl, q1, q2⟩ := h
  obtain ⟨A, c, rfl, hnc, hcm, hl⟩ := q1.1.out
  obtain ⟨A2, c2, rfl, _, _, _⟩ := q2.out
  have H1 := Lib.hid q1
  have H2 := Lib.hid q2
  clear q1 q2 hl
  obtain ⟨Z, hZ⟩ : ∃ Z, Z = madeCells (Value.int .i64 0).cells (it.names.length * 1) := ⟨_, rfl⟩
  have hmk : ∀ w : World, (Instr.makeSlice 24 (.int .i64 (it.names.length : Int)) (.int .i64 (it.names.length : Int))).run Tryz.prog w = .ok (.slice (some ⟨w.heap.size, 0, none⟩) it.names.length it.names.length) (w.alloc (.cells Z 3)) := fun w => by rw [hZ]; exact run_make_Z w it.names.length (by omega)
  have HOZ : Hid (∀ w : World, OwnI (w.alloc (.cells Z 3)) w.heap.size (.slice (some ⟨w.heap.size, 0, none⟩) it.names.length it.names.length) (List.replicate it.names.length 0)) := Lib.hid (fun w => by rw [hZ]; exact own_make_Z w it.names.length (by omega))
  clear hZ
  go_enter Tryz.func82, Tryz.ntmps82
  go_wp2_with fail
  have B0 := (Box.new w w.heap.size 64 #[.slice A it.names.length c, .slice A2 it.marks.length c2, .bool it.late] rfl).alloc (.cells #[.slice none 0 0, .slice none 0 0, .bool false] 64)
  have B1 := Box.new (w.alloc (.cells #[.slice A it.names.length c, .slice A2 it.marks.length c2, .bool it.late] 64)) (w.heap.size + 1) 64 #[.slice none 0 0, .slice none 0 0, .bool false] (by simp)
  have K0 : Kept w ((w.alloc (.cells #[.slice A it.names.length c, .slice A2 it.marks.length c2, .bool it.late] 64)).alloc (.cells #[.slice none 0 0, .slice none 0 0, .bool false] 64)) := ((Kept.refl w).alloc _).alloc _
  generalize (w.alloc (.cells #[.slice A it.names.length c, .slice A2 it.marks.length c2, .bool it.late] 64)).alloc (.cells #[.slice none 0 0, .slice none 0 0, .bool false] 64) = w0 at *
  replace B0 : Box w0.drew w.heap.size 64 _ := B0
  have hz0 : w.heap.size + 1 < w0.heap.size := B1.lt
  have B1d : Box w0.drew (w.heap.size + 1) 64 #[.slice none 0 0, .slice none 0 0, .bool false] := B1
  have K0d : Kept w w0.drew := K0.drew
  have B0a : Box (w0.alloc (.cells Z 3)).drew w.heap.size 64 #[.slice A it.names.length c, .slice A2 it.marks.length c2, .bool it.late] := B0.alloc _
  have B1a : Box (w0.alloc (.cells Z 3)).drew (w.heap.size + 1) 64 #[.slice none 0 0, .slice none 0 0, .bool false] := B1.alloc _
  clear B1
  go_region_held3 (fun w' => w'.cell? ⟨w.heap.size, 0, none⟩ = some (.slice A it.names.length c) ∧ w'.cell? ⟨w.heap.size, 1, none⟩ = some (.slice A2 it.marks.length c2) ∧ w'.cell? ⟨w.heap.size, 2, none⟩ = some (.bool it.late)) (first | (with_reducible exact B0.three.1) | (with_reducible exact bz0.three.1) | (with_reducible exact (Box.far3 bz0 (by omega) _ _ _).three.1) | (with_reducible exact B0a.three.1) | (with_reducible exact (B0.kept (by assumption)).three.1) | (with_reducible exact (Box.far3 (B0.kept (by assumption)) (by omega) _ _ _).three.1))
    (first | (go_at_call 113; (with_reducible refine (l1OwnS_any _ it.names _ (H1.out.kept (K0.trans (Kept.refl w0).drew)) hn).mono ?_); rintro e w1 ⟨v1, rfl, o1, k1⟩; obtain ⟨A1, c1, rfl, _, _, _⟩ := own_form o1.1; have O1 := Lib.hid o1; clear o1; have kz : Kept w0 w1 := (Kept.refl w0).drew.trans k1; have bz0 := (B0.kept k1).alloc (.cells Z 3); have bz := (B1d.kept k1).alloc (.cells Z 3); have OZ := Lib.hid (HOZ.out w1); have O1z := Lib.hid (O1.out.kept ((Kept.refl w1).alloc (.cells Z 3))); have ND := Lib.hid (nodup_fp (b := .slice (some ⟨w1.heap.size, 0, none⟩) it.names.length it.names.length) (m := w1.heap.size) (fun y hy => (own_fp O1.out.1 y hy).2) (fun y hy => (own_fp OZ.out y hy).1)); have kf := kz.alloc (.cells Z 3); obtain ⟨cc, ff⟩ := bz.three) | (go_at_call 113; (with_reducible refine (l1OwnS_any _ it.names _ (H1.out.kept (K0.trans ((Kept.refl w0).alloc (.cells Z 3)).drew)) hn).mono ?_); rintro e w1 ⟨v1, rfl, o1, k1⟩; obtain ⟨A1, c1, rfl, _, _, _⟩ := own_form o1.1; have O1 := Lib.hid o1; clear o1; have kz : Kept w0 w1 := ((Kept.refl w0).alloc (.cells Z 3)).drew.trans k1; have bz0 := B0a.kept k1; have bz := B1a.kept k1; have OZ := Lib.hid ((HOZ.out w0).kept (((Kept.refl (w0.alloc (.cells Z 3))).drew).trans k1)); have O1z := O1; have ND := Lib.hid (nodup_fp2 (a := .slice A1 it.names.length c1) (b := .slice (some ⟨w0.heap.size, 0, none⟩) it.names.length it.names.length) (m := w0.heap.size + 1) (fun y hy => by have := (own_fp O1.out.1 y hy).1; simpa using this) (fun y hy => by simp [fp_some] at hy; omega)); have kf := kz; obtain ⟨cc, ff⟩ := bz.three))
  all_goals
    rename_i hheld
    clear hheld cc ff
  · obtain ⟨w3, hw3, B3, Q3⟩ := set3 bz (.slice A1 it.names.length c1) (.slice (some ⟨w1.heap.size, 0, none⟩) it.names.length it.names.length) (.bool it.late)
    rw [← hw3]
    clear hw3
    obtain ⟨cc, ff⟩ := B3.three
    go_wp2_with fail
    have hz1 := k1.size
    have hzd : w0.drew.heap.size = w0.heap.size := rfl
    have hza : (w0.alloc (.cells Z 3)).drew.heap.size = w0.heap.size + 1 := by simp
    refine bodyPost_ret (v := .agg #[.slice A1 it.names.length c1, .slice (some ⟨w1.heap.size, 0, none⟩) it.names.length it.names.length, .bool it.late]) (by simp [results, Tryz.results82, go_sem, cc, ff]) rfl ⟨_, rfl, ⟨_, _, rfl, ?_, ?_, ?_⟩, ?_⟩
    · exact OwnS.far (S := [w.heap.size + 1]) O1z.out Q3 (by simp; omega) (by omega)
    · exact OwnI.far (S := [w.heap.size + 1]) OZ.out Q3 (by simp; omega) (by omega)
    · rw [fpA_item]; exact ND.out
    · exact Q3.above (K0.trans kf) (by simp)
  · obtain ⟨w3, hw3, B3, Q3⟩ := set3 bz (.slice A1 it.names.length c1) (.slice (some ⟨w0.heap.size, 0, none⟩) it.names.length it.names.length) (.bool it.late)
    rw [← hw3]
    clear hw3
    obtain ⟨cc, ff⟩ := B3.three
    go_wp2_with fail
    have hz1 := k1.size
    have hzd : w0.drew.heap.size = w0.heap.size := rfl
    have hza : (w0.alloc (.cells Z 3)).drew.heap.size = w0.heap.size + 1 := by simp
    refine bodyPost_ret (v := .agg #[.slice A1 it.names.length c1, .slice (some ⟨w0.heap.size, 0, none⟩) it.names.length it.names.length, .bool it.late]) (by simp [results, Tryz.results82, go_sem, cc, ff]) rfl ⟨_, rfl, ⟨_, _, rfl, ?_, ?_, ?_⟩, ?_⟩
    · exact OwnS.far (S := [w.heap.size + 1]) O1z.out Q3 (by simp; omega) (by omega)
    · exact OwnI.far (S := [w.heap.size + 1]) OZ.out Q3 (by simp; omega) (by omega)
    · rw [fpA_item]; exact ND.out
    · exact Q3.above (K0.trans kf) (by simp)
set_option maxHeartbeats 4000000 in
theorem specCleanItems_any (v0 : Value) (its : List ItemD) (w : World) (h0 : ItemsAt w v0 its)  :
    Calls Tryz.prog 28 #[v0] w fun e w' => ∃ v' S, e = .returned (.tuple #[v', .bool (itemsB its)]) ∧ OwnL w' w.heap.size v' (onT (itemsB its) (cleaned its)) S ∧ Kept w w' := by
  have H0 := Lib.hid h0
  obtain ⟨A0, c0, cs0, rfl, hnc0, hcm0, hA0⟩ := h0.out; have HA0 := Lib.hid hA0; clear hA0 h0; unfold maxLen at hcm0
  go_enter Tryz.func28, Tryz.ntmps28
  have K0 := Kept.refl w
  go_wp2_with fail
  refine (itList_any _ its _ (H0.out.kept K0)).mono ?_
  rintro e w1 ⟨rfl, k1⟩
  have sz1 := k1.size
  have K1 := K0.trans k1
  by_cases hb : itemsB its = true
  case neg =>
    simp only [Bool.not_eq_true] at hb
    rw [hb]
    have HO := Lib.hid hb
    clear hb
    go_wp2_with fail
    go_ret2
    exact ⟨_, _, ret_vb3 HO.out.symm, by rw [HO.out]; exact nilL _ _, K1⟩
  rw [hb]
  have HB := Lib.hid hb
  have hl14 := (itemsB_true hb).1
  have HV : Hid (its.all itemB = true) := Lib.hid (List.all_eq_true.2 (fun it hi => (itemsB_true hb).2 it hi))
  clear hb
  have KE := Kept.refl w1
  have HO0 : Hid (OwnC w1 w1.heap.size (.slice none 0 0) ((cleaned its).take 0) []) := Lib.hid (OwnC.nil0 _ _)
  have hcl := cleaned_length its
  have HCL := Lib.hid hcl
  clear hcl
  go_wp2_with fail
  go_loopw [4, 12] (fun q i wr => ∃ (j : Nat) (cs : List (Value × Value)), j ≤ its.length ∧ i = .int .i64 j ∧ OwnC wr w1.heap.size q ((cleaned its).take j) cs ∧ Kept w1 wr) (fun _ i _ => its.length - (intOf i).toNat)
  case atStart => exact ⟨0, [], Nat.zero_le _, rfl, HO0.out, KE⟩
  case round =>
    obtain ⟨j, cs, hj, rfl, ho, hkept⟩ := hrel
    have HO := Lib.hid ho
    clear ho HO0
    have szr := hkept.size
    have Kr := K1.trans hkept
    by_cases hlt : j < its.length
    · obtain ⟨b, o, Aa, ca, Ab, cb, it, rfl, hbb, h2, h3, hit, q0, q1, q2⟩ := items_at (HA0.out.kept Kr) hlt
      obtain ⟨hib, hi1, hi3, him⟩ := all_some HV.out h2
      have him3 : it.marks.length ≤ 3 := by omega
      clear him
      have HIT := Lib.hid hit
      have HSN := Lib.hid (take_snoc (cleaned_get h2))
      clear h2 h3 hit
      have htl : ((cleaned its).take j).length ≤ 1000 := by rw [List.length_take]; omega
      go_upto_region 7 with (fail)
      obtain ⟨wb1, hwb1⟩ : ∃ w' : World, w' = wr.alloc (.cells #[.slice Aa it.names.length ca, .slice Ab it.marks.length cb, .bool it.late] 64) := ⟨_, rfl⟩
      rw [← hwb1]
      have KBt : Kept wr wb1 := hwb1 ▸ (Kept.refl wr).alloc _
      have Bt : Box wb1 (wr.heap.size) 64 #[.slice Aa it.names.length ca, .slice Ab it.marks.length cb, .bool it.late] := hwb1 ▸ Box.new wr (wr.heap.size) 64 #[.slice Aa it.names.length ca, .slice Ab it.marks.length cb, .bool it.late] rfl
      have swb1 : wb1.heap.size = wr.heap.size + 1 := by rw [hwb1]; simp
      clear hwb1
      have Kwb1 := Kr.trans KBt
      clear q0 q1 q2
      obtain ⟨xt, yt⟩ := Bt.three
      go_wp2_with fail
      clear xt yt
      refine (itClean_any _ it _ (HIT.out.kept KBt) (by omega) (by omega)).mono ?_
      rintro e w2 ⟨v2, rfl, o2, k2⟩
      replace Bt := Bt.kept k2
      have sz2 := k2.size
      have K2 := Kwb1.trans k2
      obtain ⟨nv, mv, rfl, p1, p2, nd⟩ := o2
      rw [fpA_item] at nd
      obtain ⟨A1, c1, rfl, _⟩ := own_form p1.1
      obtain ⟨A2, c2, rfl, _⟩ := own_form p2
      have P1 := Lib.hid p1
      have P2 := Lib.hid p2
      have ND := Lib.hid nd
      clear p1 p2 nd
      have HOk := Lib.hid (HO.out.kept ((KBt.trans k2).alloc (.cells #[.slice A1 (cleanIt it).names.length c1, .slice A2 (cleanIt it).marks.length c2, .bool (cleanIt it).late] 64)))
      obtain ⟨xt, yt⟩ := Bt.three
      go_wp2_with (at_builtin; refine wpList_append_T _ rfl _ _ rfl w1.heap.size _ _ _ rfl HOk.out.2.1 w2.heap.size (.slice A1 (cleanIt it).names.length c1) (.slice A2 (cleanIt it).marks.length c2) (.bool (cleanIt it).late) rfl (Box.new _ _ _ _ rfl) ⟨rfl, rfl, rfl⟩ (by omega) (by have := sz2; simp; omega) ?_; intro v3 w3 o3 g3 h3)
      clear xt yt
      have hpush := OwnC.push (it := cleanIt it) HOk.out ⟨own_base (P1.out.kept ((Kept.refl _).alloc _)).1 (by omega), P1.out.2⟩ (own_base (P2.out.kept ((Kept.refl _).alloc _)) (by omega)) ND.out (fun b hb hb' => by
        have h1 := (HO.out.fps b hb').2
        rcases List.mem_append.1 hb with hb | hb
        · have := (own_fp P1.out.1 b hb).1; omega
        · have := (own_fp P2.out b hb).1; omega) o3 g3 h3
      have kg : Kept w1 w3 := ((hkept.trans (KBt.trans k2)).alloc _).grew HOk.out.2.1 g3 (Nat.le_refl _)
      have HP := Lib.hid hpush
      clear hpush o3 g3 h3
      go_wp2_with fail
      go_roundw
      case rel => exact ⟨j + 1, _, by omega, by go_num, by rw [HSN.out]; exact HP.out, kg⟩
      case measure => simp [intOf]; omega
    · obtain rfl : j = its.length := by omega
      have HOE : Hid (OwnC wr w1.heap.size _ (cleaned its) cs) := Lib.hid (by have := HO.out; rw [List.take_of_length_le (by rw [HCL.out]; exact Nat.le_refl _)] at this; exact this)
      go_wp2_with fail
      go_ret2
      exact ⟨_, _, ret_vb3 HB.out.symm, by rw [HB.out]; exact (HOE.out.base K1.size).toL, Kr⟩
end Go.Proofs.YtkekpolfdmmgeaaGreatDoor
