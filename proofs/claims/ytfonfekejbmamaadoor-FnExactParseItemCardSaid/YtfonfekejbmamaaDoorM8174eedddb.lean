/- Contracts of functions that the proof leans on. No condition. -/
import Derived.Test.YtfonfekejbmamaaDoorMb24d05585c
/- Items: reading their text, the program's side. -/
namespace Go.Proofs.YtfonfekejbmamaaDoor
set_option linter.unusedVariables false
set_option linter.unusedSimpArgs false
set_option linter.unnecessarySimpa false
open Go.RowKit Go.Lib

theorem cutS_yes {z nm : ByteArray} {m : Nat} (hz : z.size ≤ 1048576) (h1 : 1 ≤ m) (h3 : m ≤ 3) (he : mkW z = (m : Int)) (hn : nmW z = nm) (w : World) :
    Calls Tryd.prog 30 #[.string z, .string (sgB m)] w fun e w' => e = .returned (.tuple #[.string nm, .bool true]) ∧ w = w' := by
  have e1 : hasSuffix z.data.toList (signL (m : Int)) = true := by rw [suf_sign h1 h3]; exact decide_eq_true he
  have e2 : tx (trimSuffix z.data.toList (signL (m : Int))) = nm := by rw [cut_sign h1 h3 he, ← hn]; rfl
  have c := Tryd.strings_CutSuffix z (sgB m) w
  have e3 : (sgB m).data.toList = signL (m : Int) := rfl
  rw [e3, e1] at c
  rw [← e2]
  exact (c (by omega)).mono (fun e w' h => ⟨h.1, h.2.symm⟩)
theorem cutS_no {z : ByteArray} {m : Nat} (hz : z.size ≤ 1048576) (h1 : 1 ≤ m) (h3 : m ≤ 3) (he : ¬ mkW z = (m : Int)) (w : World) :
    Calls Tryd.prog 30 #[.string z, .string (sgB m)] w fun e w' => e = .returned (.tuple #[.string z, .bool false]) ∧ w = w' := by
  have e1 : hasSuffix z.data.toList (signL (m : Int)) = false := by rw [suf_sign h1 h3]; exact decide_eq_false he
  have e2 : tx (trimSuffix z.data.toList (signL (m : Int))) = z := by unfold trimSuffix; rw [e1]; exact tx_of z
  have c := Tryd.strings_CutSuffix z (sgB m) w
  have e3 : (sgB m).data.toList = signL (m : Int) := rfl
  rw [e3, e1] at c
  rw [← e2]
  conv => enter [3]; rw [e2]
  exact (c (by omega)).mono (fun e w' h => ⟨h.1, h.2.symm⟩)
theorem cutS_late {s : ByteArray} (hs : s.size ≤ 1048576) : ∃ (t : ByteArray) (late : Bool), t.size ≤ 1048576 ∧ ItHead s t late ∧ ∀ w : World, Calls Tryd.prog 30 #[.string s, .string ⟨#[32, 120]⟩] w fun e w' => e = .returned (.tuple #[.string t, .bool late]) ∧ w = w' := by
  obtain ⟨t, late, ht, hh, _⟩ := itHead_cases s hs
  refine ⟨t, late, ht, hh, fun w => ?_⟩
  have c := Tryd.strings_CutSuffix s ⟨#[32, 120]⟩ w
  have e3 : (⟨#[32, 120]⟩ : ByteArray).data.toList = [32, 120] := rfl
  rw [e3, hh.2] at c
  have e2 : tx (trimSuffix s.data.toList [32, 120]) = t := by rw [hh.1, tx_of]
  rw [← e2]
  exact (c (by omega)).mono (fun e w' h => ⟨h.1, h.2.symm⟩)
set_option maxRecDepth 100000 in
set_option maxHeartbeats 16000000 in
theorem implParseItem_any (s : ByteArray) (w : World) (hs : s.size ≤ 1048576) (hsg : HasSigns w) (hmx : HasMax w) :
    Calls Tryd.prog 9 #[.string s] w fun e w' => PiPost s w e w' := by
  have HSG := Lib.hid hsg
  have HMX := Lib.hid hmx
  clear hsg hmx
  obtain ⟨t, late, ht, hT, cl⟩ := cutS_late hs
  have HT := Lib.hid hT
  have CL := Lib.hid cl
  clear hT cl
  have CS : Hid (∀ w0 : World, HasMax w0 → Calls Tryd.prog 31 #[.string t, .string ⟨#[43]⟩] w0 fun e w' => ∃ cap, e = .returned (.slice (some ⟨w0.heap.size, 0, none⟩) (spB 43 t).length cap) ∧ OwnS w' w0.heap.size (.slice (some ⟨w0.heap.size, 0, none⟩) (spB 43 t).length cap) (spB 43 t) ∧ Kept w0 w') := Lib.hid (fun w0 h => split_any t 43 w0 ht h)
  go_enter Tryd.func9, Tryd.ntmps9
  go_wp2_with fail
  obtain ⟨w0, hw0⟩ : ∃ x : World, x = (((w.alloc (.cells #[.slice none 0 0, .slice none 0 0, .bool false] 25)).alloc (.cells #[] 9)).alloc (.cells #[] 3)).alloc (.cells #[.slice (some ⟨w.heap.size + 1, 0, none⟩) 0 0, .slice (some ⟨w.heap.size + 2, 0, none⟩) 0 0, .bool false] 25) := ⟨_, rfl⟩
  rw [← hw0]
  have B2 : Box w0 w.heap.size 25 #[.slice none 0 0, .slice none 0 0, .bool false] := hw0 ▸ (((Box.new w _ _ _ rfl).alloc _).alloc _).alloc _
  have BN : Box w0 (w.heap.size + 1) 9 #[] := hw0 ▸ ((Box.new (w.alloc _) _ _ _ (by simp)).alloc _).alloc _
  have BM : Box w0 (w.heap.size + 1 + 1) 3 #[] := hw0 ▸ (Box.new ((w.alloc _).alloc _) _ _ _ (by simp)).alloc _
  have B4 : Box w0 (w.heap.size + 1 + 1 + 1) 25 #[.slice (some ⟨w.heap.size + 1, 0, none⟩) 0 0, .slice (some ⟨w.heap.size + 1 + 1, 0, none⟩) 0 0, .bool false] := hw0 ▸ Box.new (((w.alloc _).alloc _).alloc _) _ _ _ (by simp)
  have K0 : Kept w w0 := hw0 ▸ ((((Kept.refl w).alloc _).alloc _).alloc _).alloc _
  have sz0 : w.heap.size + 4 ≤ w0.heap.size := by rw [hw0]; simp
  clear hw0
  obtain ⟨bb, hbb⟩ : ∃ b, b = w.heap.size + 1 + 1 + 1 := ⟨_, rfl⟩
  rw [← hbb] at B4 ⊢
  obtain ⟨bm, hbm⟩ : ∃ b, b = w.heap.size + 1 + 1 := ⟨_, rfl⟩
  rw [← hbm] at B4 BM ⊢
  obtain ⟨bn, hbn⟩ : ∃ b, b = w.heap.size + 1 := ⟨_, rfl⟩
  rw [← hbn] at B4 BN ⊢
  have hb1 : w.heap.size < bn := by omega
  have hb2 : bn < bm := by omega
  have hb3 : bm < bb := by omega
  have hb4 : bb < w0.heap.size := by omega
  clear hbb hbm hbn sz0
  obtain ⟨x4, y4⟩ := B4.three
  refine (CL.out _).mono ?_
  rintro e w1 ⟨rfl, rfl⟩
  go_wp2_with fail
  clear x4 y4
  obtain ⟨wq, hwq⟩ : ∃ x : World, x = w0.setCell ⟨bb, 2, none⟩ (.bool late) := ⟨_, rfl⟩
  rw [← hwq]
  have B4' : Box wq bb 25 #[.slice (some ⟨bn, 0, none⟩) 0 0, .slice (some ⟨bm, 0, none⟩) 0 0, .bool late] := hwq ▸ B4.set2 _
  have B2' : Box wq w.heap.size 25 #[.slice none 0 0, .slice none 0 0, .bool false] := hwq ▸ B2.far _ (by simp only [ne_eq]; omega) _
  have BN' : Box wq bn 9 #[] := hwq ▸ BN.far _ (by simp only [ne_eq]; omega) _
  have BM' : Box wq bm 3 #[] := hwq ▸ BM.far _ (by simp only [ne_eq]; omega) _
  have K0' : Kept w wq := hwq ▸ K0.setCell (by simp only; omega) _
  have sz0' : bb < wq.heap.size := by rw [hwq]; simpa [World.setCell] using hb4
  clear hwq B4 B2 BN BM K0 hb4
  refine (CS.out _ (HMX.out.kept K0')).mono ?_
  rintro e w1 ⟨cap, rfl, o1, k1⟩
  obtain ⟨g, hgq⟩ : ∃ g, g = wq.heap.size := ⟨_, rfl⟩
  rw [← hgq] at o1
  rw [← hgq]
  have hg4 : bb < g := by omega
  clear hgq
  have hcc := own_form o1.1
  have hc1 : (spB 43 t).length ≤ cap := by obtain ⟨_, _, e, h1, h2, _⟩ := hcc; cases e; exact h1
  have hc2 : cap ≤ maxLen := by obtain ⟨_, _, e, h1, h2, _⟩ := hcc; cases e; exact h2
  unfold maxLen at hc2
  have hgl := own_fp o1.1 g (by simp [fp_some])
  have HO1 := Lib.hid o1
  have hlen := spB_le 43 t
  replace B2' := B2'.kept k1
  replace B4' := B4'.kept k1
  replace BN' := BN'.kept k1
  replace BM' := BM'.kept k1
  have K1 := K0'.trans k1
  have sz1 := k1.size
  have HSG1 := Lib.hid (HSG.out.kept K1)
  clear o1 k1 K0' hcc
  have HB : Hid (RowSt [bn, bm, bb] w.heap.size bb w.heap.size t late w1 w1 0 (.slice (some ⟨bn, 0, none⟩) 0 0) (.slice (some ⟨bm, 0, none⟩) 0 0)) := Lib.hid ⟨B2', B4', ⟨own_made _ _ 1 (by omega) BN', fun _ h => by cases h⟩, own_made _ _ 1 (by omega) BM', fun b hb => by simp only [fp_some, List.mem_singleton] at hb ⊢; omega, Only.refl _ _, by simp, by omega, fun b hb => by simp only [fp_some, List.mem_append, List.mem_singleton] at hb; simp only [List.mem_cons, List.mem_singleton]; omega, by omega⟩
  clear B2' B4' BN' BM'
  go_wp2_with fail
  go_loopw [23] (fun i wr => ∃ (k : Nat) (nv mv : Value), k ≤ (spB 43 t).length ∧ i = .int .i64 k ∧ RowSt [bn, bm, bb] w.heap.size bb w.heap.size t late w1 wr k nv mv) (fun i _ => (spB 43 t).length - (RowKit.intOf i).toNat)
  case atStart => exact ⟨0, _, _, Nat.zero_le _, rfl, HB.out⟩
  case round =>
    clear HB
    obtain ⟨k, nv, mv, hk, rfl, hst⟩ := hrel
    have on_ := hst.names
    have om := hst.marks
    have b4 := hst.bbox
    obtain ⟨An, cn, rfl, _⟩ := own_form on_.1
    obtain ⟨Am, cm, rfl, _⟩ := own_form om
    have HNL := Lib.hid (nmsP_len t)
    have HML := Lib.hid (mksP_len t)
    have hnl : ((nmsP t).take k).length = k := by rw [List.length_take, HNL.out]; omega
    have hml : ((mksP t).take k).length = k := by rw [List.length_take, HML.out]; omega
    rw [hnl, hml] at hst b4
    rw [hnl] at on_
    rw [hml] at om
    have HST := Lib.hid hst
    have ON := Lib.hid on_
    have OM := Lib.hid om
    have szr := hst.only.size
    have HK1 := Lib.hid hnl
    have HK2 := Lib.hid hml
    clear hst on_ om hnl hml
    by_cases hlt : k < (spB 43 t).length
    · have OW := Lib.hid (HO1.out.only HST.out.only (fun b hb => by rw [fp_some, List.mem_singleton] at hb; simp only at hb; simp only [List.mem_cons, List.not_mem_nil, or_false]; omega))
      obtain ⟨b0, i0, z, e0, hb0, hz0, hx0⟩ := strs_at (k := k) OW.out.strs.1.addr hlt
      cases e0
      rw [Nat.zero_add] at hx0
      have HN := Lib.hid (nmsP_snoc hz0)
      have HM := Lib.hid (mksP_snoc hz0)
      have hzs := spB_sz (List.mem_of_getElem? hz0)
      have HNZ := Lib.hid (nmW_sz z)
      clear hz0
      have hed : 0 ≤ mkW z ∧ mkW z ≤ 3 := endM_bd _
      have HZ0 := Lib.hid (fun h => nmW_zero (z := z) h)
      have CY : Hid (∀ (m : Nat), 1 ≤ m → m ≤ 3 → mkW z = (m : Int) → ∀ w0 : World, Calls Tryd.prog 30 #[.string z, .string (sgB m)] w0 fun e w' => e = .returned (.tuple #[.string (nmW z), .bool true]) ∧ w0 = w') := Lib.hid (fun m h1 h3 he w0 => cutS_yes (by omega) h1 h3 he rfl w0)
      have CN : Hid (∀ (m : Nat), 1 ≤ m → m ≤ 3 → ¬ mkW z = (m : Int) → ∀ w0 : World, Calls Tryd.prog 30 #[.string z, .string (sgB m)] w0 fun e w' => e = .returned (.tuple #[.string z, .bool false]) ∧ w0 = w') := Lib.hid (fun m h1 h3 he w0 => cutS_no (by omega) h1 h3 he w0)
      generalize hnm : nmW z = nm at HN HZ0 HNZ CY
      clear hnm
      generalize hme : mkW z = me at HM HZ0 hed CY CN
      clear hme
      have HB4 := Lib.hid b4
      have KW : Hid (Kept w wr) := Lib.hid (HST.out.only.above K1 (fun b hb => by simp only [List.mem_cons, List.not_mem_nil, or_false] at hb; omega))
      clear b4
      have HQ0 : Hid (∀ j : Nat, 1 ≤ j → j < 1 → ¬ me = (j : Int)) := Lib.hid (fun j h1 h2 => by omega)
      go_wp2_with fail
      go_loop [6, 7, 8] (fun s6 s7 mm => ∃ m : Nat, 1 ≤ m ∧ m ≤ 4 ∧ s6 = .string z ∧ s7 = .int .i64 0 ∧ mm = .int .i64 m ∧ Hid (∀ j : Nat, 1 ≤ j → j < m → ¬ me = (j : Int))) (fun _ _ mm => 4 - (RowKit.intOf mm).toNat)
      case atStart => exact ⟨1, by omega, by omega, rfl, rfl, rfl, HQ0⟩
      case round =>
        clear HQ0
        obtain ⟨m, hm1, hm4, rfl, rfl, rfl, hno⟩ := hrel
        by_cases hm : m ≤ 3
        · have hm' : (m : Int) ≤ 3 := by omega
          have hm5 : (m : Int) < 4 := by omega
          have xs := (HSG.out.kept KW.out) m hm
          by_cases hme : me = (m : Int)
          · have C := Lib.hid (CY.out m hm1 hm hme)
            have hnz : nm.size ≤ maxLen := by have := HNZ.out; unfold maxLen; omega
            subst hme
            clear HZ0 CY CN hno
            obtain ⟨x4, y4⟩ := HB4.out.three
            have k2 := Kept.refl wr
            have hn4 : Hid (((nmsP t).take (k + 1)).length = k + 1) := Lib.hid (by rw [List.length_take, HNL.out]; omega)
            have hm6 : Hid (((mksP t).take (k + 1)).length = k + 1) := Lib.hid (by rw [List.length_take, HML.out]; omega)
            go_wp2_with (first | (go_at_call 30; refine (C.out _).mono ?_; rintro e w' ⟨rfl, rfl⟩) | (at_builtin; refine wpList_append_SD _ rfl _ _ rfl w.heap.size (.slice An k cn) ((nmsP t).take k) rfl (ON.out.kept (k2.alloc _)) _ [nm] rfl (strs_box1 (Box.new _ _ _ _ rfl) hnz) (by rw [HK1.out]; simp only [List.length_cons, List.length_nil]; omega) (by simp; omega) ?_; intro v4 w4 o4 on4 f4; rw [← HN.out] at o4; obtain ⟨A4, c4, e4, _⟩ := own_form o4.1; rw [hn4.out] at e4; subst e4; obtain ⟨b5, om5⟩ := HST.out.mid1 (k2.alloc _) on4; obtain ⟨x5, y5⟩ := b5.three; have O4 := Lib.hid o4; have ON4 := Lib.hid on4; have F4 := Lib.hid f4; clear x4 y4 o4 f4 om5 on4 b5) | (at_builtin; refine wpList_append_ID _ rfl _ _ rfl w.heap.size (.slice Am k cm) ((mksP t).take k) rfl (HST.out.mid2 (k2.alloc _) ON4.out _) _ [(m : Int)] rfl (ints_box1 (Box.new _ _ _ _ (by simp [World.setCell]))) (by rw [HK2.out]; simp only [List.length_cons, List.length_nil]; omega) (by have h4 := ON4.out.size; simp at h4; simp [World.setCell]; omega) ?_; intro v6 w6 o6 on6 f6; rw [← HM.out] at o6; obtain ⟨A6, c6, e6, _⟩ := own_form o6; rw [hm6.out] at e6; subst e6; have b7 := HST.out.mid3 (k2.alloc _) ON4.out on6; obtain ⟨x7, y7⟩ := b7.three; have ST := Lib.hid (HST.out.step (k2.alloc _) (by simp <;> omega) ON4.out on6 O4.out o6 F4.out f6); clear x5 y5 o6 on6 f6 b7))
            go_roundw
            case rel => exact ⟨k + 1, _, _, by omega, by go_num, ST.out⟩
            case measure => simp [RowKit.intOf]; omega
          · have C := Lib.hid (CN.out m hm1 hm hme)
            have HNO : Hid (∀ j : Nat, 1 ≤ j → j < m + 1 → ¬ me = (j : Int)) := Lib.hid (fun j h1 h2 => by
              by_cases hjm : j = m
              · subst hjm; exact hme
              · exact hno.out j h1 (by omega))
            clear hme hno CY CN
            go_wp2_with (go_at_call 30; refine (C.out _).mono ?_; rintro e w' ⟨rfl, rfl⟩)
            go_round
            case rel => exact ⟨m + 1, by omega, by omega, rfl, rfl, by go_num, HNO⟩
            case measure => simp [RowKit.intOf]; omega
        · obtain rfl : m = 4 := by omega
          have h1 := hno.out 1 (by omega) (by omega)
          have h2 := hno.out 2 (by omega) (by omega)
          have h3 := hno.out 3 (by omega) (by omega)
          obtain rfl : me = 0 := by omega
          have hnm := HZ0.out rfl
          subst hnm
          have hnz : nm.size ≤ maxLen := by have := HNZ.out; unfold maxLen; omega
          clear HZ0 CY CN hno h1 h2 h3
          obtain ⟨x4, y4⟩ := HB4.out.three
          have k2 := Kept.refl wr
          have hn4 : Hid (((nmsP t).take (k + 1)).length = k + 1) := Lib.hid (by rw [List.length_take, HNL.out]; omega)
          have hm6 : Hid (((mksP t).take (k + 1)).length = k + 1) := Lib.hid (by rw [List.length_take, HML.out]; omega)
          go_wp2_with (first | (at_builtin; refine wpList_append_SD _ rfl _ _ rfl w.heap.size (.slice An k cn) ((nmsP t).take k) rfl (ON.out.kept (k2.alloc _)) _ [nm] rfl (strs_box1 (Box.new _ _ _ _ rfl) hnz) (by rw [HK1.out]; simp only [List.length_cons, List.length_nil]; omega) (by simp; omega) ?_; intro v4 w4 o4 on4 f4; rw [← HN.out] at o4; obtain ⟨A4, c4, e4, _⟩ := own_form o4.1; rw [hn4.out] at e4; subst e4; obtain ⟨b5, om5⟩ := HST.out.mid1 (k2.alloc _) on4; obtain ⟨x5, y5⟩ := b5.three; have O4 := Lib.hid o4; have ON4 := Lib.hid on4; have F4 := Lib.hid f4; clear x4 y4 o4 f4 om5 on4 b5) | (at_builtin; refine wpList_append_ID _ rfl _ _ rfl w.heap.size (.slice Am k cm) ((mksP t).take k) rfl (HST.out.mid2 (k2.alloc _) ON4.out _) _ [(0 : Int)] rfl (ints_box1 (Box.new _ _ _ _ (by simp [World.setCell]))) (by rw [HK2.out]; simp only [List.length_cons, List.length_nil]; omega) (by have h4 := ON4.out.size; simp at h4; simp [World.setCell]; omega) ?_; intro v6 w6 o6 on6 f6; rw [← HM.out] at o6; obtain ⟨A6, c6, e6, _⟩ := own_form o6; rw [hm6.out] at e6; subst e6; have b7 := HST.out.mid3 (k2.alloc _) ON4.out on6; obtain ⟨x7, y7⟩ := b7.three; have ST := Lib.hid (HST.out.step (k2.alloc _) (by simp <;> omega) ON4.out on6 O4.out o6 F4.out f6); clear x5 y5 o6 on6 f6 b7))
          go_roundw
          case rel => exact ⟨k + 1, _, _, by omega, by go_num, ST.out⟩
          case measure => simp [RowKit.intOf]; omega
    · have HKN : Hid (k = (spB 43 t).length) := Lib.hid (by omega)
      have OT := Lib.hid (HST.out.whole HT.out HKN.out)
      have FIN : Hid (∀ w3 w4 : World, Kept wr w3 → Only [w.heap.size] w3 w4 → OwnT w4 w.heap.size (.agg #[.slice An k cn, .slice Am k cm, .bool late]) (itP s.data.toList)) := Lib.hid (fun w3 w4 k3 q => HST.out.fin HT.out HKN.out k3 q)
      have KW : Hid (Kept w wr) := Lib.hid (HST.out.only.above K1 (fun b hb => by simp only [List.mem_cons, List.not_mem_nil, or_false] at hb; omega))
      obtain ⟨x4, y4⟩ := b4.three
      have b2 := HST.out.hbox
      go_wp2_with fail
      clear x4 y4
      refine (isItem_any _ (itP s.data.toList) _ OT.out.item).mono ?_
      rintro e w2 ⟨rfl, k2⟩
      cases hpb : itemB (itP s.data.toList) with
      | false =>
        have HP : Hid (piB s = false) := Lib.hid hpb
        clear hpb
        obtain ⟨x2, y2⟩ := (b2.kept k2).three
        go_wp2_with fail
        clear x2 y2
        obtain ⟨w5, hw5, B5, Q5⟩ := set3 (b2.kept k2) (.slice none 0 0) (.slice none 0 0) (.bool false)
        rw [← hw5]
        clear hw5
        obtain ⟨cc, ff⟩ := B5.three
        refine bodyPost_ret (v := .tuple #[.agg #[.slice none 0 0, .slice none 0 0, .bool false], .bool false]) (by simp [results, Tryd.results9, go_sem, cc, ff]) rfl ?_
        exact PiPost.no HP.out (Q5.above (KW.out.trans k2) (by simp))
      | true =>
        have HP : Hid (piB s = true) := Lib.hid hpb
        clear hpb
        obtain ⟨x4, y4⟩ := (b4.kept k2).three
        obtain ⟨x2, y2⟩ := (b2.kept k2).three
        go_wp2_with fail
        clear x4 y4 x2 y2
        obtain ⟨w5, hw5, B5, Q5⟩ := set3 (b2.kept k2) (.slice An k cn) (.slice Am k cm) (.bool late)
        rw [← hw5]
        clear hw5
        obtain ⟨cc, ff⟩ := B5.three
        refine bodyPost_ret (v := .tuple #[.agg #[.slice An k cn, .slice Am k cm, .bool late], .bool true]) (by simp [results, Tryd.results9, go_sem, cc, ff]) rfl ?_
        exact PiPost.yes HP.out (FIN.out _ _ k2 Q5) (Q5.above (KW.out.trans k2) (by simp))
end Go.Proofs.YtfonfekejbmamaaDoor

/- Items: ParseItem, the reference's side and the law. -/
namespace Go.Proofs.YtfonfekejbmamaaDoor
set_option linter.unusedVariables false
set_option linter.unusedSimpArgs false
set_option linter.unnecessarySimpa false
open Go.RowKit Go.Lib

theorem specParseItem_any (s : ByteArray) (w : World) (hs : s.size ≤ 1048576) :
    Calls Tryd.prog 8 #[.string s] w fun e w' => PiPost s w e w' := by
  have CS : Hid (∀ w0 : World, Calls Tryd.prog 29 #[.string s] w0 fun e w' => PiPost s w0 e w') := Lib.hid (fun w0 => itParse_any s w0 hs)
  go_enter Tryd.func8, Tryd.ntmps8
  go_wp2_with fail
  obtain ⟨w0, hw0⟩ : ∃ x : World, x = w.alloc (.cells #[.slice none 0 0, .slice none 0 0, .bool false] 25) := ⟨_, rfl⟩
  rw [← hw0]
  have B2 : Box w0 w.heap.size 25 #[.slice none 0 0, .slice none 0 0, .bool false] := hw0 ▸ Box.new w _ _ _ rfl
  have K0 : Kept w w0 := hw0 ▸ (Kept.refl w).alloc _
  clear hw0
  refine (CS.out _).mono ?_
  rintro e w1 ⟨v1, rfl, o1, k1⟩
  have K1 := K0.trans k1
  have sz0 := K0.size
  have hl := B2.lt
  have b2 := B2.kept k1
  obtain ⟨n1, m1, rfl, p1, q1, nd1⟩ := o1
  obtain ⟨An, cn, rfl, _⟩ := own_form p1.1
  obtain ⟨Am, cm, rfl, _⟩ := own_form q1
  have O1 : Hid (OwnT w1 w0.heap.size (.agg #[.slice An (piV s).names.length cn, .slice Am (piV s).marks.length cm, .bool (piV s).late]) (piV s)) := Lib.hid ⟨_, _, rfl, p1, q1, nd1⟩
  clear p1 q1 nd1 k1
  obtain ⟨x2, y2⟩ := b2.three
  go_wp2_with fail
  clear x2 y2
  obtain ⟨w5, hw5, B5, Q5⟩ := set3 b2 (.slice An (piV s).names.length cn) (.slice Am (piV s).marks.length cm) (.bool (piV s).late)
  rw [← hw5]
  clear hw5
  obtain ⟨cc, ff⟩ := B5.three
  refine bodyPost_ret (v := .tuple #[.agg #[.slice An (piV s).names.length cn, .slice Am (piV s).marks.length cm, .bool (piV s).late], .bool (piB s)]) (by simp [results, Tryd.results8, go_sem, cc, ff]) rfl ?_
  refine ⟨_, rfl, ?_, Q5.above K1 (by simp)⟩
  have o5 := O1.out.only Q5 (fun b hb hm => by rw [List.mem_singleton] at hm; have := (O1.out.fps b hb).1; omega)
  obtain ⟨n', m', e, h1, h2, h3⟩ := o5
  exact ⟨n', m', e, OwnS.base h1 sz0, own_base h2 sz0, h3⟩
set_option maxHeartbeats 4000000 in
theorem lawParseItem_any {w : World}  (a0 : ByteArray) (hs0 : a0.size ≤ maxLen) (hsg : HasSigns w) (hm : HasMax w) :
    Calls Tryd.prog 3 #[.string a0] w fun e w' => e = .returned (.bool true) ∧ Kept w w' := by
  have HSG := Lib.hid hsg
  have HMX := Lib.hid hm
  clear hsg hm
  go_enter Tryd.func3, Tryd.ntmps3
  have K0 := Kept.refl w
  have hm0 := hs0
  unfold maxLen at hm0
  by_cases hbig0 : a0.size ≤ 1048576
  case neg =>
    go_wp2_with fail
    go_ret
    first | exact ⟨rfl, K0⟩ | exact ⟨rfl, K0.alloc _⟩ | exact ⟨rfl, (K0.alloc _).alloc _⟩
  have hX := piV_len a0
  go_wp2_with fail
  refine (specParseItem_any _ _ hbig0).mono ?_
  rintro e w1 ⟨u1, rfl, o1, k1⟩
  have sz1 := k1.size
  have K1 := K0.trans k1
  obtain ⟨n1, m1, rfl, p1, q1, nd1⟩ := o1
  obtain ⟨A1, c1, rfl, _⟩ := own_form p1.1
  obtain ⟨D1, d1, rfl, _⟩ := own_form q1
  have o1 : OwnT w1 _ (.agg #[.slice A1 (piV a0).names.length c1, .slice D1 (piV a0).marks.length d1, .bool (piV a0).late]) (piV a0) := ⟨_, _, rfl, p1, q1, nd1⟩
  clear p1 q1 nd1
  have RS := Lib.hid o1.item
  clear o1
  have KS := Kept.refl w1
  go_wp2_with fail
  obtain ⟨wb1, hwb1⟩ : ∃ w' : World, w' = w1.alloc (.cells #[.slice A1 (piV a0).names.length c1, .slice D1 (piV a0).marks.length d1, .bool (piV a0).late] 25) := ⟨_, rfl⟩
  rw [← hwb1]
  have KB1 : Kept w1 wb1 := hwb1 ▸ (Kept.refl w1).alloc _
  have B1 : Box wb1 (w1.heap.size) 25 #[.slice A1 (piV a0).names.length c1, .slice D1 (piV a0).marks.length d1, .bool (piV a0).late] := hwb1 ▸ Box.new w1 (w1.heap.size) 25 #[.slice A1 (piV a0).names.length c1, .slice D1 (piV a0).marks.length d1, .bool (piV a0).late] rfl
  have szwb1 : wb1.heap.size = w1.heap.size + 1 := by rw [hwb1]; simp
  clear hwb1
  replace KS := KS.trans KB1
  have Kwb1 := K1.trans KB1
  refine (implParseItem_any _ _ hbig0 (HSG.out.kept Kwb1) (HMX.out.kept Kwb1)).mono ?_
  rintro e w2 ⟨u2, rfl, o2, k2⟩
  replace B1 := B1.kept k2
  replace KS := KS.trans k2
  have sz2 := k2.size
  have K2 := Kwb1.trans k2
  obtain ⟨n2, m2, rfl, p2, q2, nd2⟩ := o2
  obtain ⟨A2, c2, rfl, _⟩ := own_form p2.1
  obtain ⟨D2, d2, rfl, _⟩ := own_form q2
  have o2 : OwnT w2 _ (.agg #[.slice A2 (piV a0).names.length c2, .slice D2 (piV a0).marks.length d2, .bool (piV a0).late]) (piV a0) := ⟨_, _, rfl, p2, q2, nd2⟩
  clear p2 q2 nd2
  have F2 := Lib.hid o2.fps
  have O2 := Lib.hid o2
  clear o2
  obtain ⟨x1, y1⟩ := B1.three
  have l1 := B1.lt
  go_wp2_with fail
  clear x1 y1 l1
  obtain ⟨wb2, hwb2⟩ : ∃ w' : World, w' = w2.alloc (.cells #[.slice A2 (piV a0).names.length c2, .slice D2 (piV a0).marks.length d2, .bool (piV a0).late] 25) := ⟨_, rfl⟩
  rw [← hwb2]
  have KB2 : Kept w2 wb2 := hwb2 ▸ (Kept.refl w2).alloc _
  have B2 : Box wb2 (w2.heap.size) 25 #[.slice A2 (piV a0).names.length c2, .slice D2 (piV a0).marks.length d2, .bool (piV a0).late] := hwb2 ▸ Box.new w2 (w2.heap.size) 25 #[.slice A2 (piV a0).names.length c2, .slice D2 (piV a0).marks.length d2, .bool (piV a0).late] rfl
  have szwb2 : wb2.heap.size = w2.heap.size + 1 := by rw [hwb2]; simp
  clear hwb2
  replace B1 := B1.kept KB2
  replace O2 := Lib.hid (O2.out.kept KB2)
  replace KS := KS.trans KB2
  have Kwb2 := K2.trans KB2
  refine (eqItem_any _ _ (piV a0) _ O2.out.item (RS.out.kept KS)).mono ?_
  rintro e w3 ⟨rfl, k3⟩
  replace B1 := B1.kept k3
  replace B2 := B2.kept k3
  replace O2 := Lib.hid (O2.out.kept k3)
  replace KS := KS.trans k3
  have sz3 := k3.size
  have K3 := Kwb2.trans k3
  have nbR : 1 ≤ nextM 1 (piV a0) ∧ nextM 1 (piV a0) ≤ 2097154 := ⟨by unfold nextM; omega, by unfold nextM; omega⟩
  obtain ⟨x1, y1⟩ := B1.three
  obtain ⟨x2, y2⟩ := B2.three
  go_wp2_with fail
  clear x1 y1 x2 y2
  refine (markItem_any _ (piV a0) _ _ _ O2.out (by omega) (by omega) (by omega) (by omega)).mono ?_
  rintro e w4 ⟨rfl, o4, on4⟩
  have sz4 := on4.size
  replace B1 := B1.only on4 (fun hb => by have := F2.out _ hb; omega)
  replace B2 := B2.only on4 (fun hb => by have := F2.out _ hb; omega)
  replace KS := on4.above KS (fun b hb => by have := F2.out b hb; omega)
  have K4 := on4.above K3 (fun b hb => by have := F2.out b hb; omega)
  replace O2 := Lib.hid o4
  clear o4 on4
  obtain ⟨x1, y1⟩ := B1.three
  obtain ⟨x2, y2⟩ := B2.three
  go_wp2_with fail
  clear x1 y1 x2 y2
  refine (heldItem_any _ (piV a0) _ _ O2.out.item (by omega) (by omega) (by omega) (by omega)).mono ?_
  rintro e w5 ⟨rfl, k5⟩
  replace B1 := B1.kept k5
  replace B2 := B2.kept k5
  replace O2 := Lib.hid (O2.out.kept k5)
  replace KS := KS.trans k5
  have sz5 := k5.size
  have K5 := K4.trans k5
  obtain ⟨x1, y1⟩ := B1.three
  obtain ⟨x2, y2⟩ := B2.three
  go_wp2_with fail
  clear x1 y1 x2 y2
  refine (implParseItem_any _ _ hbig0 (HSG.out.kept K5) (HMX.out.kept K5)).mono ?_
  rintro e w6 ⟨u6, rfl, o6, k6⟩
  replace B1 := B1.kept k6
  replace B2 := B2.kept k6
  replace O2 := Lib.hid (O2.out.kept k6)
  replace KS := KS.trans k6
  have sz6 := k6.size
  have K6 := K5.trans k6
  obtain ⟨n6, m6, rfl, p6, q6, nd6⟩ := o6
  obtain ⟨A6, c6, rfl, _⟩ := own_form p6.1
  obtain ⟨D6, d6, rfl, _⟩ := own_form q6
  have o6 : OwnT w6 _ (.agg #[.slice A6 (piV a0).names.length c6, .slice D6 (piV a0).marks.length d6, .bool (piV a0).late]) (piV a0) := ⟨_, _, rfl, p6, q6, nd6⟩
  clear p6 q6 nd6
  have RH := Lib.hid o6.item
  clear o6
  obtain ⟨x1, y1⟩ := B1.three
  have l1 := B1.lt
  obtain ⟨x2, y2⟩ := B2.three
  have l2 := B2.lt
  go_wp2_with fail
  clear x1 y1 l1 x2 y2 l2
  obtain ⟨wb3, hwb3⟩ : ∃ w' : World, w' = w6.alloc (.cells #[.slice A6 (piV a0).names.length c6, .slice D6 (piV a0).marks.length d6, .bool (piV a0).late] 25) := ⟨_, rfl⟩
  rw [← hwb3]
  have KB6 : Kept w6 wb3 := hwb3 ▸ (Kept.refl w6).alloc _
  have B6 : Box wb3 (w6.heap.size) 25 #[.slice A6 (piV a0).names.length c6, .slice D6 (piV a0).marks.length d6, .bool (piV a0).late] := hwb3 ▸ Box.new w6 (w6.heap.size) 25 #[.slice A6 (piV a0).names.length c6, .slice D6 (piV a0).marks.length d6, .bool (piV a0).late] rfl
  have szwb3 : wb3.heap.size = w6.heap.size + 1 := by rw [hwb3]; simp
  clear hwb3
  replace B1 := B1.kept KB6
  replace B2 := B2.kept KB6
  replace RH := Lib.hid (RH.out.kept KB6)
  replace O2 := Lib.hid (O2.out.kept KB6)
  replace KS := KS.trans KB6
  have Kwb3 := K6.trans KB6
  refine (eqItem_any _ _ (piV a0) _ RH.out (RS.out.kept KS)).mono ?_
  rintro e w7 ⟨rfl, k7⟩
  replace B1 := B1.kept k7
  replace B2 := B2.kept k7
  replace B6 := B6.kept k7
  replace RH := Lib.hid (RH.out.kept k7)
  replace O2 := Lib.hid (O2.out.kept k7)
  replace KS := KS.trans k7
  have sz7 := k7.size
  have K7 := Kwb3.trans k7
  obtain ⟨x1, y1⟩ := B1.three
  obtain ⟨x2, y2⟩ := B2.three
  obtain ⟨x6, y6⟩ := B6.three
  go_wp2_with fail
  clear x1 y1 x2 y2 x6 y6
  refine (heldItem_any _ (piV a0) _ _ O2.out.item (by omega) (by omega) (by omega) (by omega)).mono ?_
  rintro e w8 ⟨rfl, k8⟩
  replace B1 := B1.kept k8
  replace B2 := B2.kept k8
  replace B6 := B6.kept k8
  replace RH := Lib.hid (RH.out.kept k8)
  replace O2 := Lib.hid (O2.out.kept k8)
  replace KS := KS.trans k8
  have sz8 := k8.size
  have K8 := K7.trans k8
  go_wp2_with fail
  go_ret
  exact ⟨rfl, K8⟩
end Go.Proofs.YtfonfekejbmamaaDoor
