/- Contracts of functions that the proof leans on. No condition. -/
import Derived.Test.YtkkdhmbkpebajaaDoorMa966fcfa81
import Derived.Deep.RegionHeld3
import Derived.Deep.DeepCutAuto
/- Items: reading their text, the program's side. -/
namespace Go.Proofs.YtkkdhmbkpebajaaDoor
set_option linter.unusedVariables false
set_option linter.unusedSimpArgs false
set_option linter.unnecessarySimpa false
open Go.RowKit Go.Lib

theorem cutS_yes {z nm : ByteArray} {m : Nat} (hz : z.size ≤ 1048576) (h1 : 1 ≤ m) (h3 : m ≤ 3) (he : mkW z = (m : Int)) (hn : nmW z = nm) (w : World) :
    Calls Tryd.prog 34 #[.string z, .string (sgB m)] w fun e w' => e = .returned (.tuple #[.string nm, .bool true]) ∧ w = w' := by
  have e1 : hasSuffix z.data.toList (signL (m : Int)) = true := by rw [suf_sign h1 h3]; exact decide_eq_true he
  have e2 : tx (trimSuffix z.data.toList (signL (m : Int))) = nm := by rw [cut_sign h1 h3 he, ← hn]; rfl
  have c := Tryd.strings_CutSuffix z (sgB m) w
  have e3 : (sgB m).data.toList = signL (m : Int) := rfl
  rw [e3, e1] at c
  rw [← e2]
  exact (c (by omega)).mono (fun e w' h => ⟨h.1, h.2.symm⟩)
theorem cutS_no {z : ByteArray} {m : Nat} (hz : z.size ≤ 1048576) (h1 : 1 ≤ m) (h3 : m ≤ 3) (he : ¬ mkW z = (m : Int)) (w : World) :
    Calls Tryd.prog 34 #[.string z, .string (sgB m)] w fun e w' => e = .returned (.tuple #[.string z, .bool false]) ∧ w = w' := by
  have e1 : hasSuffix z.data.toList (signL (m : Int)) = false := by rw [suf_sign h1 h3]; exact decide_eq_false he
  have e2 : tx (trimSuffix z.data.toList (signL (m : Int))) = z := by unfold trimSuffix; rw [e1]; exact tx_of z
  have c := Tryd.strings_CutSuffix z (sgB m) w
  have e3 : (sgB m).data.toList = signL (m : Int) := rfl
  rw [e3, e1] at c
  rw [← e2]
  conv => enter [3]; rw [e2]
  exact (c (by omega)).mono (fun e w' h => ⟨h.1, h.2.symm⟩)
theorem cutS_late {s : ByteArray} (hs : s.size ≤ 1048576) : ∃ (t : ByteArray) (late : Bool), t.size ≤ 1048576 ∧ ItHead s t late ∧ ∀ w : World, Calls Tryd.prog 34 #[.string s, .string ⟨#[32, 120]⟩] w fun e w' => e = .returned (.tuple #[.string t, .bool late]) ∧ w = w' := by
  obtain ⟨t, late, ht, hh, _⟩ := itHead_cases s hs
  refine ⟨t, late, ht, hh, fun w => ?_⟩
  have c := Tryd.strings_CutSuffix s ⟨#[32, 120]⟩ w
  have e3 : (⟨#[32, 120]⟩ : ByteArray).data.toList = [32, 120] := rfl
  rw [e3, hh.2] at c
  have e2 : tx (trimSuffix s.data.toList [32, 120]) = t := by rw [hh.1, tx_of]
  rw [← e2]
  exact (c (by omega)).mono (fun e w' h => ⟨h.1, h.2.symm⟩)
set_option maxRecDepth 100000 in
set_option maxHeartbeats 16000000 in
theorem implParseItem_any (s : ByteArray) (w : World) (hs : s.size ≤ 1048576) (hsg : HasSigns w) (hmx : HasMax w) :
    Calls Tryd.prog 13 #[.string s] w fun e w' => PiPost s w e w' := by
  have HSG := Lib.hid hsg
  have HMX := Lib.hid hmx
  clear hsg hmx
  obtain ⟨t, late, ht, hT, cl⟩ := cutS_late hs
  have HT := Lib.hid hT
  have CL := Lib.hid cl
  clear hT cl
  have CS : Hid (∀ w0 : World, HasMax w0 → Calls Tryd.prog 35 #[.string t, .string ⟨#[43]⟩] w0 fun e w' => ∃ cap, e = .returned (.slice (some ⟨w0.heap.size, 0, none⟩) (spB 43 t).length cap) ∧ OwnS w' w0.heap.size (.slice (some ⟨w0.heap.size, 0, none⟩) (spB 43 t).length cap) (spB 43 t) ∧ Kept w0 w') := Lib.hid (fun w0 h => split_any t 43 w0 ht h)
  go_enter Tryd.func13, Tryd.ntmps13
  go_wp2_with fail
  obtain ⟨w0, hw0⟩ : ∃ x : World, x = (((w.alloc (.cells #[.slice none 0 0, .slice none 0 0, .bool false] 34)).alloc (.cells #[] 9)).alloc (.cells #[] 3)).alloc (.cells #[.slice (some ⟨w.heap.size + 1, 0, none⟩) 0 0, .slice (some ⟨w.heap.size + 2, 0, none⟩) 0 0, .bool false] 34) := ⟨_, rfl⟩
  rw [← hw0]
  have B2 : Box w0 w.heap.size 34 #[.slice none 0 0, .slice none 0 0, .bool false] := hw0 ▸ (((Box.new w _ _ _ rfl).alloc _).alloc _).alloc _
  have BN : Box w0 (w.heap.size + 1) 9 #[] := hw0 ▸ ((Box.new (w.alloc _) _ _ _ (by simp)).alloc _).alloc _
  have BM : Box w0 (w.heap.size + 1 + 1) 3 #[] := hw0 ▸ (Box.new ((w.alloc _).alloc _) _ _ _ (by simp)).alloc _
  have B4 : Box w0 (w.heap.size + 1 + 1 + 1) 34 #[.slice (some ⟨w.heap.size + 1, 0, none⟩) 0 0, .slice (some ⟨w.heap.size + 1 + 1, 0, none⟩) 0 0, .bool false] := hw0 ▸ Box.new (((w.alloc _).alloc _).alloc _) _ _ _ (by simp)
  have K0 : Kept w w0 := hw0 ▸ ((((Kept.refl w).alloc _).alloc _).alloc _).alloc _
  have sz0 : w.heap.size + 4 ≤ w0.heap.size := by rw [hw0]; simp
  clear hw0
  obtain ⟨bb, hbb⟩ : ∃ b, b = w.heap.size + 1 + 1 + 1 := ⟨_, rfl⟩
  rw [← hbb] at B4 ⊢
  obtain ⟨bm, hbm⟩ : ∃ b, b = w.heap.size + 1 + 1 := ⟨_, rfl⟩
  rw [← hbm] at B4 BM ⊢
  obtain ⟨bn, hbn⟩ : ∃ b, b = w.heap.size + 1 := ⟨_, rfl⟩
  rw [← hbn] at B4 BN ⊢
  have hb1 : w.heap.size < bn := by omega
  have hb2 : bn < bm := by omega
  have hb3 : bm < bb := by omega
  have hb4 : bb < w0.heap.size := by omega
  clear hbb hbm hbn sz0
  obtain ⟨x4, y4⟩ := B4.three
  refine (CL.out _).mono ?_
  rintro e w1 ⟨rfl, rfl⟩
  go_wp2_with fail
  clear x4 y4
  obtain ⟨wq, hwq⟩ : ∃ x : World, x = w0.setCell ⟨bb, 2, none⟩ (.bool late) := ⟨_, rfl⟩
  rw [← hwq]
  have B4' : Box wq bb 34 #[.slice (some ⟨bn, 0, none⟩) 0 0, .slice (some ⟨bm, 0, none⟩) 0 0, .bool late] := hwq ▸ B4.set2 _
  have B2' : Box wq w.heap.size 34 #[.slice none 0 0, .slice none 0 0, .bool false] := hwq ▸ B2.far _ (by simp only [ne_eq]; omega) _
  have BN' : Box wq bn 9 #[] := hwq ▸ BN.far _ (by simp only [ne_eq]; omega) _
  have BM' : Box wq bm 3 #[] := hwq ▸ BM.far _ (by simp only [ne_eq]; omega) _
  have K0' : Kept w wq := hwq ▸ K0.setCell (by simp only; omega) _
  have sz0' : bb < wq.heap.size := by rw [hwq]; simpa [World.setCell] using hb4
  clear hwq B4 B2 BN BM K0 hb4
  refine (CS.out _ (HMX.out.kept K0')).mono ?_
  rintro e w1 ⟨cap, rfl, o1, k1⟩
  obtain ⟨g, hgq⟩ : ∃ g, g = wq.heap.size := ⟨_, rfl⟩
  rw [← hgq] at o1
  rw [← hgq]
  have hg4 : bb < g := by omega
  clear hgq
  have hcc := own_form o1.1
  have hc1 : (spB 43 t).length ≤ cap := by obtain ⟨_, _, e, h1, h2, _⟩ := hcc; cases e; exact h1
  have hc2 : cap ≤ maxLen := by obtain ⟨_, _, e, h1, h2, _⟩ := hcc; cases e; exact h2
  unfold maxLen at hc2
  have hgl := own_fp o1.1 g (by simp [fp_some])
  have HO1 := Lib.hid o1
  have hlen := spB_le 43 t
  replace B2' := B2'.kept k1
  replace B4' := B4'.kept k1
  replace BN' := BN'.kept k1
  replace BM' := BM'.kept k1
  have K1 := K0'.trans k1
  have sz1 := k1.size
  have HSG1 := Lib.hid (HSG.out.kept K1)
  clear o1 k1 K0' hcc
  have HB : Hid (RowSt [bn, bm, bb] w.heap.size bb w.heap.size t late w1 w1 0 (.slice (some ⟨bn, 0, none⟩) 0 0) (.slice (some ⟨bm, 0, none⟩) 0 0)) := Lib.hid ⟨B2', B4', ⟨own_made _ _ 1 (by omega) BN', fun _ h => by cases h⟩, own_made _ _ 1 (by omega) BM', fun b hb => by simp only [fp_some, List.mem_singleton] at hb ⊢; omega, Only.refl _ _, by simp, by omega, fun b hb => by simp only [fp_some, List.mem_append, List.mem_singleton] at hb; simp only [List.mem_cons, List.mem_singleton]; omega, by omega⟩
  clear B2' B4' BN' BM'
  go_wp2_with fail
  go_loopw [23] (fun i wr => ∃ (k : Nat) (nv mv : Value), k ≤ (spB 43 t).length ∧ i = .int .i64 k ∧ RowSt [bn, bm, bb] w.heap.size bb w.heap.size t late w1 wr k nv mv) (fun i _ => (spB 43 t).length - (RowKit.intOf i).toNat)
  case atStart => exact ⟨0, _, _, Nat.zero_le _, rfl, HB.out⟩
  case round =>
    clear HB
    obtain ⟨k, nv, mv, hk, rfl, hst⟩ := hrel
    have on_ := hst.names
    have om := hst.marks
    have b4 := hst.bbox
    obtain ⟨An, cn, rfl, _⟩ := own_form on_.1
    obtain ⟨Am, cm, rfl, _⟩ := own_form om
    have HNL := Lib.hid (nmsP_len t)
    have HML := Lib.hid (mksP_len t)
    have hnl : ((nmsP t).take k).length = k := by rw [List.length_take, HNL.out]; omega
    have hml : ((mksP t).take k).length = k := by rw [List.length_take, HML.out]; omega
    rw [hnl, hml] at hst b4
    rw [hnl] at on_
    rw [hml] at om
    have HST := Lib.hid hst
    have ON := Lib.hid on_
    have OM := Lib.hid om
    have szr := hst.only.size
    have HK1 := Lib.hid hnl
    have HK2 := Lib.hid hml
    clear hst on_ om hnl hml
    by_cases hlt : k < (spB 43 t).length
    · have OW := Lib.hid (HO1.out.only HST.out.only (fun b hb => by rw [fp_some, List.mem_singleton] at hb; simp only at hb; simp only [List.mem_cons, List.not_mem_nil, or_false]; omega))
      obtain ⟨b0, i0, z, e0, hb0, hz0, hx0⟩ := strs_at (k := k) OW.out.strs.1.addr hlt
      cases e0
      rw [Nat.zero_add] at hx0
      have HN := Lib.hid (nmsP_snoc hz0)
      have HM := Lib.hid (mksP_snoc hz0)
      have hzs := spB_sz (List.mem_of_getElem? hz0)
      have HNZ := Lib.hid (nmW_sz z)
      clear hz0
      have hed : 0 ≤ mkW z ∧ mkW z ≤ 3 := endM_bd _
      have HZ0 := Lib.hid (fun h => nmW_zero (z := z) h)
      have CY : Hid (∀ (m : Nat), 1 ≤ m → m ≤ 3 → mkW z = (m : Int) → ∀ w0 : World, Calls Tryd.prog 34 #[.string z, .string (sgB m)] w0 fun e w' => e = .returned (.tuple #[.string (nmW z), .bool true]) ∧ w0 = w') := Lib.hid (fun m h1 h3 he w0 => cutS_yes (by omega) h1 h3 he rfl w0)
      have CN : Hid (∀ (m : Nat), 1 ≤ m → m ≤ 3 → ¬ mkW z = (m : Int) → ∀ w0 : World, Calls Tryd.prog 34 #[.string z, .string (sgB m)] w0 fun e w' => e = .returned (.tuple #[.string z, .bool false]) ∧ w0 = w') := Lib.hid (fun m h1 h3 he w0 => cutS_no (by omega) h1 h3 he w0)
      generalize hnm : nmW z = nm at HN HZ0 HNZ CY
      clear hnm
      generalize hme : mkW z = me at HM HZ0 hed CY CN
      clear hme
      have HB4 := Lib.hid b4
      have KW : Hid (Kept w wr) := Lib.hid (HST.out.only.above K1 (fun b hb => by simp only [List.mem_cons, List.not_mem_nil, or_false] at hb; omega))
      clear b4
      have HQ0 : Hid (∀ j : Nat, 1 ≤ j → j < 1 → ¬ me = (j : Int)) := Lib.hid (fun j h1 h2 => by omega)
      go_wp2_with fail
      go_loop [6, 7, 8] (fun s6 s7 mm => ∃ m : Nat, 1 ≤ m ∧ m ≤ 4 ∧ s6 = .string z ∧ s7 = .int .i64 0 ∧ mm = .int .i64 m ∧ Hid (∀ j : Nat, 1 ≤ j → j < m → ¬ me = (j : Int))) (fun _ _ mm => 4 - (RowKit.intOf mm).toNat)
      case atStart => exact ⟨1, by omega, by omega, rfl, rfl, rfl, HQ0⟩
      case round =>
        clear HQ0
        obtain ⟨m, hm1, hm4, rfl, rfl, rfl, hno⟩ := hrel
        by_cases hm : m ≤ 3
        · have hm' : (m : Int) ≤ 3 := by omega
          have hm5 : (m : Int) < 4 := by omega
          have xs := (HSG.out.kept KW.out) m hm
          by_cases hme : me = (m : Int)
          · have C := Lib.hid (CY.out m hm1 hm hme)
            have hnz : nm.size ≤ maxLen := by have := HNZ.out; unfold maxLen; omega
            subst hme
            clear HZ0 CY CN hno
            obtain ⟨x4, y4⟩ := HB4.out.three
            have k2 := Kept.refl wr
            have hn4 : Hid (((nmsP t).take (k + 1)).length = k + 1) := Lib.hid (by rw [List.length_take, HNL.out]; omega)
            have hm6 : Hid (((mksP t).take (k + 1)).length = k + 1) := Lib.hid (by rw [List.length_take, HML.out]; omega)
            go_wp2_with (first | (go_at_call 34; refine (C.out _).mono ?_; rintro e w' ⟨rfl, rfl⟩) | (at_builtin; refine wpList_append_SD _ rfl _ _ rfl w.heap.size (.slice An k cn) ((nmsP t).take k) rfl (ON.out.kept (k2.alloc _)) _ [nm] rfl (strs_box1 (Box.new _ _ _ _ rfl) hnz) (by rw [HK1.out]; simp only [List.length_cons, List.length_nil]; omega) (by simp; omega) ?_; intro v4 w4 o4 on4 f4; rw [← HN.out] at o4; obtain ⟨A4, c4, e4, _⟩ := own_form o4.1; rw [hn4.out] at e4; subst e4; obtain ⟨b5, om5⟩ := HST.out.mid1 (k2.alloc _) on4; obtain ⟨x5, y5⟩ := b5.three; have O4 := Lib.hid o4; have ON4 := Lib.hid on4; have F4 := Lib.hid f4; clear x4 y4 o4 f4 om5 on4 b5) | (at_builtin; refine wpList_append_ID _ rfl _ _ rfl w.heap.size (.slice Am k cm) ((mksP t).take k) rfl (HST.out.mid2 (k2.alloc _) ON4.out _) _ [(m : Int)] rfl (ints_box1 (Box.new _ _ _ _ (by simp [World.setCell]))) (by rw [HK2.out]; simp only [List.length_cons, List.length_nil]; omega) (by have h4 := ON4.out.size; simp at h4; simp [World.setCell]; omega) ?_; intro v6 w6 o6 on6 f6; rw [← HM.out] at o6; obtain ⟨A6, c6, e6, _⟩ := own_form o6; rw [hm6.out] at e6; subst e6; have b7 := HST.out.mid3 (k2.alloc _) ON4.out on6; obtain ⟨x7, y7⟩ := b7.three; have ST := Lib.hid (HST.out.step (k2.alloc _) (by simp <;> omega) ON4.out on6 O4.out o6 F4.out f6); clear x5 y5 o6 on6 f6 b7))
            go_roundw
            case rel => exact ⟨k + 1, _, _, by omega, by go_num, ST.out⟩
            case measure => simp [RowKit.intOf]; omega
          · have C := Lib.hid (CN.out m hm1 hm hme)
            have HNO : Hid (∀ j : Nat, 1 ≤ j → j < m + 1 → ¬ me = (j : Int)) := Lib.hid (fun j h1 h2 => by
              by_cases hjm : j = m
              · subst hjm; exact hme
              · exact hno.out j h1 (by omega))
            clear hme hno CY CN
            go_wp2_with (go_at_call 34; refine (C.out _).mono ?_; rintro e w' ⟨rfl, rfl⟩)
            go_round
            case rel => exact ⟨m + 1, by omega, by omega, rfl, rfl, by go_num, HNO⟩
            case measure => simp [RowKit.intOf]; omega
        · obtain rfl : m = 4 := by omega
          have h1 := hno.out 1 (by omega) (by omega)
          have h2 := hno.out 2 (by omega) (by omega)
          have h3 := hno.out 3 (by omega) (by omega)
          obtain rfl : me = 0 := by omega
          have hnm := HZ0.out rfl
          subst hnm
          have hnz : nm.size ≤ maxLen := by have := HNZ.out; unfold maxLen; omega
          clear HZ0 CY CN hno h1 h2 h3
          obtain ⟨x4, y4⟩ := HB4.out.three
          have k2 := Kept.refl wr
          have hn4 : Hid (((nmsP t).take (k + 1)).length = k + 1) := Lib.hid (by rw [List.length_take, HNL.out]; omega)
          have hm6 : Hid (((mksP t).take (k + 1)).length = k + 1) := Lib.hid (by rw [List.length_take, HML.out]; omega)
          go_wp2_with (first | (at_builtin; refine wpList_append_SD _ rfl _ _ rfl w.heap.size (.slice An k cn) ((nmsP t).take k) rfl (ON.out.kept (k2.alloc _)) _ [nm] rfl (strs_box1 (Box.new _ _ _ _ rfl) hnz) (by rw [HK1.out]; simp only [List.length_cons, List.length_nil]; omega) (by simp; omega) ?_; intro v4 w4 o4 on4 f4; rw [← HN.out] at o4; obtain ⟨A4, c4, e4, _⟩ := own_form o4.1; rw [hn4.out] at e4; subst e4; obtain ⟨b5, om5⟩ := HST.out.mid1 (k2.alloc _) on4; obtain ⟨x5, y5⟩ := b5.three; have O4 := Lib.hid o4; have ON4 := Lib.hid on4; have F4 := Lib.hid f4; clear x4 y4 o4 f4 om5 on4 b5) | (at_builtin; refine wpList_append_ID _ rfl _ _ rfl w.heap.size (.slice Am k cm) ((mksP t).take k) rfl (HST.out.mid2 (k2.alloc _) ON4.out _) _ [(0 : Int)] rfl (ints_box1 (Box.new _ _ _ _ (by simp [World.setCell]))) (by rw [HK2.out]; simp only [List.length_cons, List.length_nil]; omega) (by have h4 := ON4.out.size; simp at h4; simp [World.setCell]; omega) ?_; intro v6 w6 o6 on6 f6; rw [← HM.out] at o6; obtain ⟨A6, c6, e6, _⟩ := own_form o6; rw [hm6.out] at e6; subst e6; have b7 := HST.out.mid3 (k2.alloc _) ON4.out on6; obtain ⟨x7, y7⟩ := b7.three; have ST := Lib.hid (HST.out.step (k2.alloc _) (by simp <;> omega) ON4.out on6 O4.out o6 F4.out f6); clear x5 y5 o6 on6 f6 b7))
          go_roundw
          case rel => exact ⟨k + 1, _, _, by omega, by go_num, ST.out⟩
          case measure => simp [RowKit.intOf]; omega
    · have HKN : Hid (k = (spB 43 t).length) := Lib.hid (by omega)
      have OT := Lib.hid (HST.out.whole HT.out HKN.out)
      have FIN : Hid (∀ w3 w4 : World, Kept wr w3 → Only [w.heap.size] w3 w4 → OwnT w4 w.heap.size (.agg #[.slice An k cn, .slice Am k cm, .bool late]) (itP s.data.toList)) := Lib.hid (fun w3 w4 k3 q => HST.out.fin HT.out HKN.out k3 q)
      have KW : Hid (Kept w wr) := Lib.hid (HST.out.only.above K1 (fun b hb => by simp only [List.mem_cons, List.not_mem_nil, or_false] at hb; omega))
      obtain ⟨x4, y4⟩ := b4.three
      have b2 := HST.out.hbox
      go_wp2_with fail
      clear x4 y4
      refine (isItem_any _ (itP s.data.toList) _ OT.out.item).mono ?_
      rintro e w2 ⟨rfl, k2⟩
      cases hpb : itemB (itP s.data.toList) with
      | false =>
        have HP : Hid (piB s = false) := Lib.hid hpb
        clear hpb
        obtain ⟨x2, y2⟩ := (b2.kept k2).three
        go_wp2_with fail
        clear x2 y2
        obtain ⟨w5, hw5, B5, Q5⟩ := set3 (b2.kept k2) (.slice none 0 0) (.slice none 0 0) (.bool false)
        rw [← hw5]
        clear hw5
        obtain ⟨cc, ff⟩ := B5.three
        refine bodyPost_ret (v := .tuple #[.agg #[.slice none 0 0, .slice none 0 0, .bool false], .bool false]) (by simp [results, Tryd.results13, go_sem, cc, ff]) rfl ?_
        exact PiPost.no HP.out (Q5.above (KW.out.trans k2) (by simp))
      | true =>
        have HP : Hid (piB s = true) := Lib.hid hpb
        clear hpb
        obtain ⟨x4, y4⟩ := (b4.kept k2).three
        obtain ⟨x2, y2⟩ := (b2.kept k2).three
        go_wp2_with fail
        clear x4 y4 x2 y2
        obtain ⟨w5, hw5, B5, Q5⟩ := set3 (b2.kept k2) (.slice An k cn) (.slice Am k cm) (.bool late)
        rw [← hw5]
        clear hw5
        obtain ⟨cc, ff⟩ := B5.three
        refine bodyPost_ret (v := .tuple #[.agg #[.slice An k cn, .slice Am k cm, .bool late], .bool true]) (by simp [results, Tryd.results13, go_sem, cc, ff]) rfl ?_
        exact PiPost.yes HP.out (FIN.out _ _ k2 Q5) (Q5.above (KW.out.trans k2) (by simp))
end Go.Proofs.YtkkdhmbkpebajaaDoor

/- Lists of items copied; marks cleared, late ones set. -/
namespace Go.Proofs.YtkkdhmbkpebajaaDoor
set_option linter.unusedVariables false
set_option linter.unusedSimpArgs false
open Go.RowKit

end Go.Proofs.YtkkdhmbkpebajaaDoor

/- Lists of items: copied, cleaned, with Late as rule 8 says. -/
namespace Go.Proofs.YtkkdhmbkpebajaaDoor
set_option linter.unusedVariables false
set_option linter.unusedSimpArgs false
open Go.RowKit

theorem madeZ (n : Nat) : (madeCells (Value.int .i64 0).cells (n * 1)).toList = (List.replicate n (0 : Int)).map (Value.int .i64) := by
  apply List.ext_getElem?
  intro j
  by_cases hj : j < n
  · simp [madeCells, hj, show (Value.int .i64 0).cells = #[Value.int .i64 0] from rfl, Nat.mod_one]
  · simp [madeCells, hj]
theorem run_make_Z (w : World) (n : Nat) (hn : n ≤ 1048576) : (Instr.makeSlice 32 (.int .i64 (n : Int)) (.int .i64 (n : Int))).run Tryd.prog w = .ok (.slice (some ⟨w.heap.size, 0, none⟩) n n) (w.alloc (.cells (madeCells (Value.int .i64 0).cells (n * 1)) 3)) := by
  obtain ⟨i0, hi, hz0, hz1, hz2⟩ := info_parts info_int
  have hr := run_make (P := Tryd.prog) w 32 3 i0 _ Tryd.underlying32 hi hz0 .i64 .i64 n n (by omega) (Int.le_refl _) (by rw [hz2]; omega) (by omega)
  simp only [Int.toNat_natCast, hz1] at hr
  exact hr
theorem own_make_Z (w : World) (n : Nat) (hn : n ≤ 1048576) : OwnI (w.alloc (.cells (madeCells (Value.int .i64 0).cells (n * 1)) 3)) w.heap.size (.slice (some ⟨w.heap.size, 0, none⟩) n n) (List.replicate n 0) := by
  have h := World.ownsRow_lit (base := w.heap.size) (e := 3) (size := 1) w (madeCells (Value.int .i64 0).cells (n * 1)) n (Nat.le_refl _) (by unfold maxLen; omega) (size_madeCells _ _)
  rw [madeZ] at h
  unfold OwnI
  rw [List.length_replicate]
  exact h
theorem nodup_fp2 {a b : Value} {m : Nat} (h1 : ∀ x ∈ fp a, m ≤ x) (h2 : ∀ x ∈ fp b, x < m) : (fp a ++ fp b).Nodup := by
  rw [List.nodup_append]
  exact ⟨nodup_one a, nodup_one b, fun x hx y hy e => by have := h1 x hx; have := h2 y hy; omega⟩
def cleanIt (it : ItemD) : ItemD := ⟨it.names, List.replicate it.names.length 0, it.late⟩
def cleaned (its : List ItemD) : List ItemD := its.map cleanIt
theorem cleaned_get {its : List ItemD} {k : Nat} {it : ItemD} (h : its[k]? = some it) : (cleaned its)[k]? = some (cleanIt it) := by unfold cleaned; rw [List.getElem?_map, h]; rfl
theorem cleaned_length (its : List ItemD) : (cleaned its).length = its.length := by simp [cleaned]
theorem all_some {its : List ItemD} (h : its.all itemB = true) {k : Nat} {it : ItemD} (hi : its[k]? = some it) : itemB it = true ∧ 1 ≤ it.names.length ∧ it.names.length ≤ 3 ∧ it.marks.length = it.names.length := by
  have h1 := List.all_eq_true.1 h it (List.mem_of_getElem? hi)
  have := itemB_true h1
  exact ⟨h1, this.2.1, this.2.2.1, this.2.2.2.1⟩
def lateI (n k : Nat) (it : ItemD) : ItemD := { it with late := decide (n ≤ 2 * k) }
def lated (its : List ItemD) : List ItemD := its.mapIdx (lateI its.length)
theorem lated_length (its : List ItemD) : (lated its).length = its.length := by simp [lated]
theorem lated_get {its : List ItemD} {k : Nat} {it : ItemD} (h : its[k]? = some it) : (lated its)[k]? = some (lateI its.length k it) := by
  unfold lated; rw [List.getElem?_mapIdx, h]; rfl
def onT (b : Bool) (v : List ItemD) : List ItemD := cond b v []
theorem ret_vb3 {v : Value} {b b' : Bool} (h : b = b') : Ending.returned (.tuple #[v, .bool b]) = .returned (.tuple #[v, .bool b']) := by rw [h]
theorem nilL (w : World) (base : Nat) : OwnL w base (.slice none 0 0) [] (fp (.slice none 0 0) ++ fpL []) := (OwnC.nil0 w base).toL
theorem OwnL.base {w : World} {base base' : Nat} {v : Value} {its : List ItemD} {S : List Nat} (h : OwnL w base v its S) (hb : base' ≤ base) : OwnL w base' v its S := by
  obtain ⟨cs, h1, h2, h3, h4, h5, h6⟩ := h
  exact ⟨cs, h1, own_base h2 hb, fun k nv mv it q1 q2 => ⟨⟨own_base (h3 k nv mv it q1 q2).1.1 hb, (h3 k nv mv it q1 q2).1.2⟩, own_base (h3 k nv mv it q1 q2).2 hb⟩, h4, h5, fun b hb' => ⟨Nat.le_trans hb (h6 b hb').1, (h6 b hb').2⟩⟩
end Go.Proofs.YtkkdhmbkpebajaaDoor

/- Lists of items: reading their text, both sides. -/
namespace Go.Proofs.YtkkdhmbkpebajaaDoor
set_option linter.unusedVariables false
set_option linter.unusedSimpArgs false
set_option linter.unnecessarySimpa false
open Go.RowKit Go.Lib

theorem lnOk_split (s : List UInt8) : ∃ L x, splitOn 10 s = L ++ [x] ∧ lns s = L ∧ (lnOk s = true ↔ x = []) := by
  induction s using snocInd with
  | h0 => exact ⟨[], [], rfl, rfl, by simp [lnOk]⟩
  | h1 p c _ =>
    by_cases h : c = 10
    · subst h
      refine ⟨splitOn 10 p, [], splitOn_snoc _ _, by rw [lns_snoc], ?_⟩
      rw [lnOk_snoc]
      simp
    · obtain ⟨L, x, e⟩ := splitOn_last (b := 10) (p := p) h
      refine ⟨L, x ++ [c], e, by unfold lns; rw [e, List.dropLast_concat], ?_⟩
      rw [lnOk_snoc]
      simp [h]
def lnsB (s : ByteArray) : List ByteArray := (lns s.data.toList).map tx
theorem lnsB_split (s : ByteArray) : ∃ x : ByteArray, spB 10 s = lnsB s ++ [x] ∧ (lnOk s.data.toList = true ↔ x = ⟨#[]⟩) := by
  obtain ⟨L, x, e, h1, h2⟩ := lnOk_split s.data.toList
  refine ⟨tx x, by unfold spB lnsB; rw [e, h1, List.map_append]; rfl, ?_⟩
  rw [h2]
  constructor
  · intro h; rw [h]; rfl
  · intro h; exact tx_inj h
theorem lnsB_sz {s z : ByteArray} (h : z ∈ lnsB s) : z.size ≤ s.size := by
  obtain ⟨x, e, _⟩ := lnsB_split s
  exact spB_sz (b := 10) (by rw [e]; exact List.mem_append_left _ h)
theorem lnsB_le (s : ByteArray) : (lnsB s).length ≤ s.size := by
  obtain ⟨x, e, _⟩ := lnsB_split s
  have := spB_le 10 s
  rw [e, List.length_append] at this
  simp at this
  omega
def psB (s : ByteArray) : Bool := psOk s.data.toList
def psL (s : ByteArray) : List ItemD := psV s.data.toList
def itsB (s : ByteArray) : List ItemD := (lnsB s).map fun l => itP l.data.toList
theorem itsB_len (s : ByteArray) : (itsB s).length = (lnsB s).length := by simp [itsB]
theorem itsB_snoc {s z : ByteArray} {k : Nat} (h : (lnsB s)[k]? = some z) : (itsB s).take (k + 1) = (itsB s).take k ++ [itP z.data.toList] := take_snoc (by unfold itsB; rw [List.getElem?_map, h]; rfl)
theorem psB_eq (s : ByteArray) : psB s = (lnOk s.data.toList && (decide ((lnsB s).length ≤ 14) && (lnsB s).all piB)) := by
  unfold psB psOk lnsB
  rw [List.length_map, List.all_map]
  rfl
theorem psL_yes {s : ByteArray} (h : psB s = true) : psL s = itsB s := by
  unfold psB at h
  unfold psL psV itsB lnsB
  rw [if_pos h, List.map_map]
  rfl
theorem psL_no {s : ByteArray} (h : psB s = false) : psL s = [] := by
  unfold psB at h
  unfold psL psV
  rw [h]
  rfl
theorem psB_open {s : ByteArray} (h : lnOk s.data.toList = false) : psB s = false := by rw [psB_eq, h]; rfl
theorem psB_many {s : ByteArray} (h : ¬ (lnsB s).length ≤ 14) : psB s = false := by rw [psB_eq, decide_eq_false h]; simp
theorem psB_bad {s z : ByteArray} {k : Nat} (h : (lnsB s)[k]? = some z) (hz : piB z = false) : psB s = false := by rw [psB_eq, all_not h hz]; simp
theorem psB_full {s : ByteArray} (h1 : lnOk s.data.toList = true) (h2 : (lnsB s).length ≤ 14) (h3 : (lnsB s).all piB = true) : psB s = true := by rw [psB_eq, h1, decide_eq_true h2, h3]; rfl
theorem psL_len (s : ByteArray) : (psL s).length ≤ 14 ∧ itemsB (psL s) = true := by
  cases h : psB s with
  | true =>
    rw [psL_yes h]
    rw [psB_eq] at h
    simp only [Bool.and_eq_true, decide_eq_true_eq] at h
    refine ⟨by rw [itsB_len]; exact h.2.1, ?_⟩
    unfold itemsB itsB
    rw [List.all_map, List.length_map]
    simp only [Bool.and_eq_true]
    exact ⟨h.2.2, by have := h.2.1; simp; omega⟩
  | false => rw [psL_no h]; exact ⟨by decide, rfl⟩
def PsPost (s : ByteArray) (w : World) (e : Ending) (w' : World) : Prop := ∃ v' S, e = .returned (.tuple #[v', .bool (psB s)]) ∧ OwnL w' w.heap.size v' (psL s) S ∧ Kept w w'
theorem PsPost.no {s : ByteArray} {w w' : World} (h : psB s = false) (k : Kept w w') : PsPost s w (.returned (.tuple #[.slice none 0 0, .bool false])) w' :=
  ⟨_, _, by rw [h], by rw [psL_no h]; exact (OwnC.nil0 _ _).toL, k⟩
theorem PsPost.yes {s : ByteArray} {base : Nat} {w w' : World} {v : Value} {cs : List (Value × Value)} (h : psB s = true) (k : Kept w w') (hb : w.heap.size ≤ base) (o : OwnC w' base v (itsB s) cs) : PsPost s w (.returned (.tuple #[v, .bool true])) w' :=
  ⟨_, _, by rw [h], by rw [psL_yes h]; exact (o.base hb).toL, k⟩
def LnPost (s : ByteArray) (w : World) (e : Ending) (w' : World) : Prop := ∃ v', e = .returned (.tuple #[v', .bool (lnOk s.data.toList)]) ∧ (lnOk s.data.toList = true → OwnS w' w.heap.size v' (lnsB s)) ∧ (lnOk s.data.toList = false → v' = .slice none 0 0) ∧ Kept w w'
theorem snoc_ext {s : ByteArray} (h : 0 < s.size) : ∃ p, s.data.toList = p ++ [s[s.size - 1]] ∧ (s.extract 0 (s.size - 1)).data.toList = p := by
  have hne : s.data.toList ≠ [] := by intro e; rw [size_eq, e] at h; simp at h
  have hg := byte_get s (s.size - 1) (by omega)
  have e1 := (List.dropLast_concat_getLast hne).symm
  have hl : s.data.toList.getLast hne = s[s.size - 1] := by
    rw [List.getLast_eq_getElem]
    have := (List.getElem?_eq_some_iff.1 hg).2
    rw [← this]
    congr 1
  refine ⟨s.data.toList.dropLast, by rw [← hl]; exact e1, ?_⟩
  rw [pc_ext, tx_data]
  unfold pc
  rw [List.drop_zero, List.dropLast_eq_take, size_eq]
set_option maxHeartbeats 4000000 in
theorem linesOf_any (s : ByteArray) (w : World) (hs : s.size ≤ 1048576) (hmx : HasMax w) :
    Calls Tryd.prog 26 #[.string s] w fun e w' => LnPost s w e w' := by
  have HMX := Lib.hid hmx
  clear hmx
  by_cases h0 : s.size = 0
  · have hd : s.data.toList = [] := List.eq_nil_of_length_eq_zero (by rw [← size_eq]; exact h0)
    have he : s.toList.isEmpty = true := by rw [toList_data, hd]; rfl
    have HP : Hid (∀ w' : World, Kept w w' → Box w' w.heap.size 9 #[] → LnPost s w (.returned (.tuple #[.slice (some ⟨w.heap.size, 0, none⟩) 0 0, .bool true])) w') := Lib.hid (fun w' k b => ⟨_, by rw [hd]; rfl, fun _ => by unfold lnsB; rw [hd, lns_nil]; exact ⟨own_made _ _ 1 (Nat.le_refl _) b, fun _ h => by cases h⟩, fun h => (by rw [hd] at h; cases h), k⟩)
    clear hd h0
    go_enter Tryd.func26, Tryd.ntmps26
    go_wp2_with fail
    go_ret2
    exact HP.out _ ((Kept.refl w).alloc _) (Box.new w _ _ _ rfl)
  · have hp : 0 < s.size := by omega
    obtain ⟨p, hp1, hp2⟩ := snoc_ext hp
    have he : s.toList.isEmpty = false := by
      rw [toList_data, hp1]
      cases p <;> rfl
    have hln : lnOk s.data.toList = (s[s.size - 1] == 10) := by rw [hp1, lnOk_snoc]
    have hp' : (0 : Int) ≤ (s.size : Int) - 1 := by omega
    have hp3 : (s.size : Int) - 1 < (s.size : Int) := by omega
    have hp4 : (1 : Int) ≤ (s.size : Int) := by omega
    by_cases hc : s[s.size - 1].toNat = 10
    · have hc' : s[s.size - 1] = 10 := UInt8.toNat_inj.1 hc
      have hb : ((s[s.size - 1].toNat : Int) != 10) = false := by simp [hc]
      have hb2 : ((s[s.size - 1].toNat : Int) == 10) = true := by simp [hc]
      obtain ⟨t, ht⟩ : ∃ t, s.extract 0 (s.size - 1) = t := ⟨_, rfl⟩
      rw [ht] at hp2
      have htl : spB 10 t = lnsB s := by
        unfold spB lnsB
        rw [hp2, hp1, hc', lns_snoc]
      have hts : t.size ≤ 1048576 := by
        have e1 := congrArg List.length hp1
        rw [← hp2, List.length_append, ← size_eq, ← size_eq] at e1
        simp at e1
        omega
      have CS : Hid (∀ w0 : World, HasMax w0 → Calls Tryd.prog 35 #[.string t, .string ⟨#[10]⟩] w0 fun e w' => ∃ cap, e = .returned (.slice (some ⟨w0.heap.size, 0, none⟩) (spB 10 t).length cap) ∧ OwnS w' w0.heap.size (.slice (some ⟨w0.heap.size, 0, none⟩) (spB 10 t).length cap) (spB 10 t) ∧ Kept w0 w') := Lib.hid (fun w0 h => split_any t 10 w0 hts h)
      have HP : Hid (∀ (w' : World) (v : Value), Kept w w' → OwnS w' w.heap.size v (spB 10 t) → LnPost s w (.returned (.tuple #[v, .bool true])) w') := Lib.hid (fun w' v k o => by
        have e : lnOk s.data.toList = true := by rw [hln, hc']; rfl
        exact ⟨v, by rw [e], fun _ => htl ▸ o, fun h => (by rw [e] at h; cases h), k⟩)
      clear hc hc' hln hp1 hp2 htl hts h0
      go_enter Tryd.func26, Tryd.ntmps26
      go_wp2_with fail
      refine (CS.out _ HMX.out).mono ?_
      rintro e w1 ⟨cap, rfl, o1, k1⟩
      go_wp2_with fail
      go_ret2
      exact HP.out _ _ k1 o1
    · have hb : ((s[s.size - 1].toNat : Int) != 10) = true := by simp; omega
      have hb2 : ((s[s.size - 1].toNat : Int) == 10) = false := by simp; omega
      have HP : Hid (∀ w' : World, Kept w w' → LnPost s w (.returned (.tuple #[.slice none 0 0, .bool false])) w') := Lib.hid (fun w' k => by
        have e : lnOk s.data.toList = false := by
          rw [hln, beq_eq_false_iff_ne]
          intro e
          exact hc (by rw [e]; rfl)
        exact ⟨_, by rw [e], fun h => (by rw [e] at h; cases h), fun _ => rfl, k⟩)
      clear hc hln hp1 hp2 h0
      go_enter Tryd.func26, Tryd.ntmps26
      go_wp2_with fail
      go_ret2
      exact HP.out _ (Kept.refl w)
set_option maxRecDepth 100000 in
set_option maxHeartbeats 16000000 in
theorem itRead_any (s : ByteArray) (w : World) (hs : s.size ≤ 1048576) :
    Calls Tryd.prog 24 #[.string s] w fun e w' => PsPost s w e w' := by
  have CS := Lib.hid (l1Split_any s 10 w hs)
  obtain ⟨x, hx, hlx⟩ := lnsB_split s
  have HX := Lib.hid hx
  have HLX := Lib.hid hlx
  have hll : (spB 10 s).length = (lnsB s).length + 1 := by rw [hx]; simp
  have HLL := Lib.hid hll
  have hle := lnsB_le s
  clear hx hlx hll
  go_enter Tryd.func24, Tryd.ntmps24
  go_wp2_with fail
  refine (CS.out).mono ?_
  rintro e w1 ⟨v1, rfl, o1, k1⟩
  rcases ownS_cases o1 with ⟨rfl, hn⟩ | ⟨g, cap, rfl, hc1, hc2⟩
  · exact absurd hn (spB_ne _ s)
  have hgl := (own_fp o1.1 g (by simp [fp_some])).2
  obtain ⟨b0, i0, z0, e0, hb0, hz0, hx0⟩ := strs_at (k := (lnsB s).length) o1.strs.1.addr (by rw [HLL.out]; omega)
  rw [HLL.out] at hc1
  unfold maxLen at hc2
  cases e0
  rw [Nat.zero_add] at hx0
  obtain rfl : x = z0 := by
    rw [HX.out, List.getElem?_append_right (Nat.le_refl _), Nat.sub_self] at hz0
    exact Option.some.inj hz0
  have OL : Hid (OwnS w1 w.heap.size (.slice (some ⟨g, 0, none⟩) (lnsB s).length cap) (lnsB s)) := Lib.hid (by
    refine ⟨?_, fun y hy => o1.2 y (by rw [HX.out]; exact List.mem_append_left _ hy)⟩
    have h1 := own_shrink (m := (lnsB s).length) o1.1 (by rw [HLL.out]; omega)
    rw [HX.out, List.map_append, List.take_left' (by rw [List.length_map])] at h1
    exact h1)
  replace OL := Lib.hid OL.out.strs
  have KW := Lib.hid k1
  have sz1 := k1.size
  clear hz0 hb0 o1 k1
  rw [HLL.out]
  by_cases hxe : x = ⟨#[]⟩
  case neg =>
    have hx2 : x.toList.isEmpty = false := by
      cases hq : x.toList with
      | nil => exact absurd (by rw [← tx_of x, ← toList_data, hq]; rfl) hxe
      | cons _ _ => rfl
    have hx3 : ¬ x.toList = [] := fun e => by rw [e] at hx2; cases hx2
    have HN : Hid (psB s = false) := Lib.hid (psB_open (by rw [Bool.eq_false_iff]; exact fun e => hxe (HLX.out.1 e)))
    clear hxe
    go_wp2_with fail
    go_ret2
    exact PsPost.no HN.out KW.out
  have HLN : Hid (lnOk s.data.toList = true) := Lib.hid (HLX.out.2 hxe)
  subst hxe
  by_cases h14 : (lnsB s).length ≤ 14
  case neg =>
    have HN : Hid (psB s = false) := Lib.hid (psB_many h14)
    have h15 : (15 : Int) < (((lnsB s).length + 1 : Nat) : Int) := by omega
    have h16 : (15 : Int) < ((lnsB s).length : Int) + 1 := by omega
    go_wp2_with fail
    go_ret2
    exact PsPost.no HN.out KW.out
  have h15 : ¬ (15 : Int) < (((lnsB s).length + 1 : Nat) : Int) := by omega
  have h16 : ¬ (15 : Int) < ((lnsB s).length : Int) + 1 := by omega
  have HL14 := Lib.hid h14
  have HQ0 : Hid (OwnC w1 w1.heap.size (.slice none 0 0) ((itsB s).take 0) []) := Lib.hid (OwnC.nil0 _ _)
  have KQ0 : Hid (Kept w1 w1) := Lib.hid (Kept.refl w1)
  have BL : Hid (w1.heap.size ≤ w1.heap.size) := Lib.hid (Nat.le_refl _)
  have KB0 : Hid (w.heap.size ≤ w1.heap.size) := Lib.hid sz1
  go_wp2_with fail
  go_loopw [30, 5] (fun i q wr => ∃ (k : Nat) (cs : List (Value × Value)), k ≤ (lnsB s).length ∧ i = .int .i64 k ∧ OwnC wr w1.heap.size q ((itsB s).take k) cs ∧ ((lnsB s).take k).all piB = true ∧ Kept w1 wr) (fun i _ _ => (lnsB s).length - (RowKit.intOf i).toNat)
  case atStart => exact ⟨0, [], Nat.zero_le _, rfl, HQ0.out, rfl, KQ0.out⟩
  case round =>
    clear HQ0 KQ0
    obtain ⟨k, cs, hk, rfl, oq, hall, hkept⟩ := hrel
    have HAL := Lib.hid hall
    have HO := Lib.hid oq
    have FO := Lib.hid oq.fps
    have szr := hkept.size
    have HKL := Lib.hid (itsB_len s)
    obtain ⟨Aq, cq, eq, hnq, hcq, _⟩ := own_form oq.2.1
    have hkk : ((itsB s).take k).length = k := by rw [List.length_take, HKL.out]; omega
    rw [hkk] at eq
    clear hkk
    clear hall oq hnq hcq
    by_cases hlt : k < (lnsB s).length
    · obtain ⟨b0, i0, z, e0, hb0, hz0, hx0⟩ := strs_at (k := k) (OL.out.kept hkept).1.addr hlt
      cases e0
      rw [Nat.zero_add] at hx0
      have hzs := lnsB_sz (List.mem_of_getElem? hz0)
      have HZ := Lib.hid hz0
      have HSN := Lib.hid (itsB_snoc hz0)
      clear hz0
      go_wp2_with fail
      refine (itParse_any z _ (by omega)).mono ?_
      rintro e w3 ⟨v3, rfl, o3, k3⟩
      have sz3 := k3.size
      cases hpb : piB z with
      | false =>
        have HN := Lib.hid (psB_bad HZ.out hpb)
        obtain ⟨n3, m3, rfl, p3, q3, nd3⟩ := o3
        obtain ⟨An, cn, rfl, _⟩ := own_form p3.1
        obtain ⟨Am, cm, rfl, _⟩ := own_form q3
        clear p3 q3 nd3 hpb
        go_wp2_with fail
        go_ret2
        exact PsPost.no HN.out (KW.out.trans ((hkept.trans k3).alloc _))
      | true =>
        have HPB := Lib.hid hpb
        have HAN := Lib.hid (all_snoc HZ.out HAL.out hpb)
        rw [piV_yes hpb] at o3
        obtain ⟨it, hit⟩ : ∃ it, it = itP z.data.toList := ⟨_, rfl⟩
        rw [← hit] at o3 HSN
        clear hit hpb
        obtain ⟨n3, m3, rfl, p3, q3, nd3⟩ := o3
        obtain ⟨An, cn, rfl, _⟩ := own_form p3.1
        obtain ⟨Am, cm, rfl, _⟩ := own_form q3
        rw [fpA_item] at nd3
        have P3 := Lib.hid p3
        have Q3 := Lib.hid q3
        have ND3 := Lib.hid nd3
        clear p3 q3 nd3
        have htl : ((itsB s).take k).length ≤ 1000 := by rw [List.length_take]; have := HKL.out; omega
        subst eq
        go_upto_region 11 with (fail)
        obtain ⟨wb, hwb⟩ : ∃ x : World, x = w3.alloc (.cells #[.slice An it.names.length cn, .slice Am it.marks.length cm, .bool it.late] 34) := ⟨_, rfl⟩
        rw [← hwb]
        have KB : Kept w3 wb := hwb ▸ (Kept.refl w3).alloc _
        have BB : Box wb w3.heap.size 34 #[.slice An it.names.length cn, .slice Am it.marks.length cm, .bool it.late] := hwb ▸ Box.new w3 _ _ _ rfl
        clear hwb
        have szb := KB.size
        have hbl := BB.lt
        obtain ⟨xb, yb⟩ := BB.three
        have k3b := k3.trans KB
        have kcc : Kept wr (wb.alloc (.cells #[.slice An it.names.length cn, .slice Am it.marks.length cm, .bool it.late] 34)) := k3b.alloc _
        have HOk := Lib.hid (HO.out.kept kcc)
        go_wp2_with (at_builtin; refine wpList_append_T _ rfl _ _ rfl w1.heap.size _ _ _ rfl HOk.out.2.1 wb.heap.size (.slice An it.names.length cn) (.slice Am it.marks.length cm) (.bool it.late) rfl (Box.new _ _ _ _ rfl) ⟨rfl, rfl, rfl⟩ (by omega) (by have := hkept.size; have := BL.out; simp; omega) ?_; intro v4 w4 o4 g4 h4)
        have kd := KB.alloc (.cells #[.slice An it.names.length cn, .slice Am it.marks.length cm, .bool it.late] 34)
        have hpush := OwnC.push (it := it) HOk.out ⟨own_base (P3.out.kept kd).1 (by have := BL.out; omega), P3.out.2⟩ (own_base (own_kept Q3.out kd) (by have := BL.out; omega)) ND3.out (fun b hb hb' => by
          have h1 := (FO.out b hb').2
          rcases List.mem_append.1 hb with hb | hb
          · have := (own_fp P3.out.1 b hb).1; omega
          · have := (own_fp Q3.out b hb).1; omega) o4 g4 h4
        have kg : Kept w1 w4 := (hkept.trans kcc).grew HOk.out.2.1 g4 BL.out
        have HPU := Lib.hid hpush
        clear hpush o4 g4 h4
        go_wp2_with fail
        go_roundw
        case rel => exact ⟨k + 1, _, by omega, by go_num, by rw [HSN.out]; exact HPU.out, HAN.out, kg⟩
        case measure => simp [RowKit.intOf]; omega
    · obtain rfl : k = (lnsB s).length := by omega
      have HOE : Hid (OwnC wr w1.heap.size _ (itsB s) cs) := Lib.hid (by have := HO.out; rw [← HKL.out, List.take_length] at this; exact this)
      have HY := Lib.hid (psB_full HLN.out HL14.out (by have := HAL.out; rw [List.take_length] at this; exact this))
      go_wp2_with fail
      go_ret2
      exact PsPost.yes HY.out (KW.out.trans hkept) KB0.out HOE.out
set_option maxRecDepth 100000 in
set_option maxHeartbeats 16000000 in
theorem implParseItems_any (s : ByteArray) (w : World) (hs : s.size ≤ 1048576) (hsg : HasSigns w) (hmx : HasMax w) :
    Calls Tryd.prog 9 #[.string s] w fun e w' => PsPost s w e w' := by
  have HSG := Lib.hid hsg
  have CS := Lib.hid (linesOf_any s w hs hmx)
  have HMX := Lib.hid hmx
  clear hsg hmx
  have hle := lnsB_le s
  go_enter Tryd.func9, Tryd.ntmps9
  go_wp2_with fail
  refine (CS.out).mono ?_
  rintro e w1 ⟨v1, rfl, hy1, hn1, k1⟩
  have KW := Lib.hid k1
  have sz1 := k1.size
  have HMX1 := Lib.hid (HMX.out.kept k1)
  have HSG1 := Lib.hid (HSG.out.kept k1)
  clear k1
  cases hln : lnOk s.data.toList with
  | false =>
    have HN : Hid (psB s = false) := Lib.hid (psB_open hln)
    obtain rfl := hn1 hln
    clear hy1 hn1 hln
    go_wp2_with fail
    go_ret2
    exact PsPost.no HN.out KW.out
  | true =>
    have o1 := hy1 hln
    have HLN := Lib.hid hln
    clear hy1 hn1 hln
    obtain ⟨g, cap, rfl, hc1, hc2⟩ : ∃ (A : Option Addr) (cap : Nat), v1 = .slice A (lnsB s).length cap ∧ (lnsB s).length ≤ cap ∧ cap ≤ maxLen := by
      obtain ⟨A, c, e, h1, h2, _⟩ := own_form o1.1
      exact ⟨A, c, e, h1, h2⟩
    unfold maxLen at hc2
    have OL := Lib.hid o1.strs
    clear o1
    by_cases h14 : (lnsB s).length ≤ 14
    case neg =>
      have HN : Hid (psB s = false) := Lib.hid (psB_many h14)
      have h15 : (14 : Int) < ((lnsB s).length : Int) := by omega
      go_wp2_with fail
      go_ret2
      exact PsPost.no HN.out KW.out
    have h15 : ¬ (14 : Int) < ((lnsB s).length : Int) := by omega
    have HL14 := Lib.hid h14
    go_wp2_with fail
    have HQ0 : Hid (OwnC (w1.alloc (.cells #[] 34)) w1.heap.size (.slice (some ⟨w1.heap.size, 0, none⟩) 0 0) ((itsB s).take 0) []) := Lib.hid (OwnC.made _ (Nat.le_refl _) (Box.new _ _ _ _ rfl))
    have KQ0 : Hid (Kept w1 (w1.alloc (.cells #[] 34))) := Lib.hid ((Kept.refl w1).alloc _)
    have BL : Hid (w1.heap.size ≤ w1.heap.size) := Lib.hid (Nat.le_refl _)
    have KB0 : Hid (w.heap.size ≤ w1.heap.size) := Lib.hid sz1
    go_loopw [26, 6] (fun i q wr => ∃ (k : Nat) (cs : List (Value × Value)), k ≤ (lnsB s).length ∧ i = .int .i64 k ∧ OwnC wr w1.heap.size q ((itsB s).take k) cs ∧ ((lnsB s).take k).all piB = true ∧ Kept w1 wr) (fun i _ _ => (lnsB s).length - (RowKit.intOf i).toNat)
    case atStart => exact ⟨0, [], Nat.zero_le _, rfl, HQ0.out, rfl, KQ0.out⟩
    case round =>
      clear HQ0 KQ0
      obtain ⟨k, cs, hk, rfl, oq, hall, hkept⟩ := hrel
      have HAL := Lib.hid hall
      have HO := Lib.hid oq
      have FO := Lib.hid oq.fps
      have szr := hkept.size
      have HKL := Lib.hid (itsB_len s)
      obtain ⟨Aq, cq, eq, hnq, hcq, _⟩ := own_form oq.2.1
      have hkk : ((itsB s).take k).length = k := by rw [List.length_take, HKL.out]; omega
      rw [hkk] at eq
      clear hkk
      clear hall oq hnq hcq
      by_cases hlt : k < (lnsB s).length
      · obtain ⟨b0, i0, z, e0, hb0, hz0, hx0⟩ := strs_at (k := k) (OL.out.kept hkept).1.addr hlt
        subst e0
        have hzs := lnsB_sz (List.mem_of_getElem? hz0)
        have HZ := Lib.hid hz0
        have HSN := Lib.hid (itsB_snoc hz0)
        clear hz0
        go_wp2_with fail
        refine (implParseItem_any z _ (by omega) (HSG1.out.kept hkept) (HMX1.out.kept hkept)).mono ?_
        rintro e w3 ⟨v3, rfl, o3, k3⟩
        have sz3 := k3.size
        cases hpb : piB z with
        | false =>
          have HN := Lib.hid (psB_bad HZ.out hpb)
          obtain ⟨n3, m3, rfl, p3, q3, nd3⟩ := o3
          obtain ⟨An, cn, rfl, _⟩ := own_form p3.1
          obtain ⟨Am, cm, rfl, _⟩ := own_form q3
          clear p3 q3 nd3 hpb
          go_wp2_with fail
          go_ret2
          exact PsPost.no HN.out (KW.out.trans ((hkept.trans k3).alloc _))
        | true =>
          have HPB := Lib.hid hpb
          have HAN := Lib.hid (all_snoc HZ.out HAL.out hpb)
          rw [piV_yes hpb] at o3
          obtain ⟨it, hit⟩ : ∃ it, it = itP z.data.toList := ⟨_, rfl⟩
          rw [← hit] at o3 HSN
          clear hit hpb
          obtain ⟨n3, m3, rfl, p3, q3, nd3⟩ := o3
          obtain ⟨An, cn, rfl, _⟩ := own_form p3.1
          obtain ⟨Am, cm, rfl, _⟩ := own_form q3
          rw [fpA_item] at nd3
          have P3 := Lib.hid p3
          have Q3 := Lib.hid q3
          have ND3 := Lib.hid nd3
          clear p3 q3 nd3
          have htl : ((itsB s).take k).length ≤ 1000 := by rw [List.length_take]; have := HKL.out; omega
          subst eq
          go_upto_region 11 with (fail)
          obtain ⟨wb, hwb⟩ : ∃ x : World, x = w3.alloc (.cells #[.slice An it.names.length cn, .slice Am it.marks.length cm, .bool it.late] 34) := ⟨_, rfl⟩
          rw [← hwb]
          have KB : Kept w3 wb := hwb ▸ (Kept.refl w3).alloc _
          have BB : Box wb w3.heap.size 34 #[.slice An it.names.length cn, .slice Am it.marks.length cm, .bool it.late] := hwb ▸ Box.new w3 _ _ _ rfl
          clear hwb
          have szb := KB.size
          have hbl := BB.lt
          obtain ⟨xb, yb⟩ := BB.three
          have k3b := k3.trans KB
          have kcc : Kept wr (wb.alloc (.cells #[.slice An it.names.length cn, .slice Am it.marks.length cm, .bool it.late] 34)) := k3b.alloc _
          have HOk := Lib.hid (HO.out.kept kcc)
          go_wp2_with (at_builtin; refine wpList_append_T _ rfl _ _ rfl w1.heap.size _ _ _ rfl HOk.out.2.1 wb.heap.size (.slice An it.names.length cn) (.slice Am it.marks.length cm) (.bool it.late) rfl (Box.new _ _ _ _ rfl) ⟨rfl, rfl, rfl⟩ (by omega) (by have := hkept.size; have := BL.out; simp; omega) ?_; intro v4 w4 o4 g4 h4)
          have kd := KB.alloc (.cells #[.slice An it.names.length cn, .slice Am it.marks.length cm, .bool it.late] 34)
          have hpush := OwnC.push (it := it) HOk.out ⟨own_base (P3.out.kept kd).1 (by have := BL.out; omega), P3.out.2⟩ (own_base (own_kept Q3.out kd) (by have := BL.out; omega)) ND3.out (fun b hb hb' => by
            have h1 := (FO.out b hb').2
            rcases List.mem_append.1 hb with hb | hb
            · have := (own_fp P3.out.1 b hb).1; omega
            · have := (own_fp Q3.out b hb).1; omega) o4 g4 h4
          have kg : Kept w1 w4 := (hkept.trans kcc).grew HOk.out.2.1 g4 BL.out
          have HPU := Lib.hid hpush
          clear hpush o4 g4 h4
          go_wp2_with fail
          go_roundw
          case rel => exact ⟨k + 1, _, by omega, by go_num, by rw [HSN.out]; exact HPU.out, HAN.out, kg⟩
          case measure => simp [RowKit.intOf]; omega
      · obtain rfl : k = (lnsB s).length := by omega
        have HOE : Hid (OwnC wr w1.heap.size _ (itsB s) cs) := Lib.hid (by have := HO.out; rw [← HKL.out, List.take_length] at this; exact this)
        have HY := Lib.hid (psB_full HLN.out HL14.out (by have := HAL.out; rw [List.take_length] at this; exact this))
        go_wp2_with fail
        go_ret2
        exact PsPost.yes HY.out (KW.out.trans hkept) KB0.out HOE.out
end Go.Proofs.YtkkdhmbkpebajaaDoor
