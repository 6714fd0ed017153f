/- Contracts of functions that the proof leans on. No condition. -/
import Derived.Test.YtkekpolfdmmgeaaGreatDoorM16798acf99
import Derived.Shelf.Strings.OnBuilder
import Derived.Test.YtkekpolfdmmgeaaGreatDoorChecked
/- Lists of items: reading their text, both sides. -/
namespace Go.Proofs.YtkekpolfdmmgeaaGreatDoor
set_option linter.unusedVariables false
set_option linter.unusedSimpArgs false
set_option linter.unnecessarySimpa false
open Go.RowKit Go.Lib

theorem lnOk_split (s : List UInt8) : ∃ L x, splitOn 10 s = L ++ [x] ∧ lns s = L ∧ (lnOk s = true ↔ x = []) := by
  induction s using snocInd with
  | h0 => exact ⟨[], [], rfl, rfl, by simp [lnOk]⟩
  | h1 p c _ =>
    by_cases h : c = 10
    · subst h
      refine ⟨splitOn 10 p, [], splitOn_snoc _ _, by rw [lns_snoc], ?_⟩
      rw [lnOk_snoc]
      simp
    · obtain ⟨L, x, e⟩ := splitOn_last (b := 10) (p := p) h
      refine ⟨L, x ++ [c], e, by unfold lns; rw [e, List.dropLast_concat], ?_⟩
      rw [lnOk_snoc]
      simp [h]
def lnsB (s : ByteArray) : List ByteArray := (lns s.data.toList).map tx
theorem lnsB_split (s : ByteArray) : ∃ x : ByteArray, spB 10 s = lnsB s ++ [x] ∧ (lnOk s.data.toList = true ↔ x = ⟨#[]⟩) := by
  obtain ⟨L, x, e, h1, h2⟩ := lnOk_split s.data.toList
  refine ⟨tx x, by unfold spB lnsB; rw [e, h1, List.map_append]; rfl, ?_⟩
  rw [h2]
  constructor
  · intro h; rw [h]; rfl
  · intro h; exact tx_inj h
theorem lnsB_sz {s z : ByteArray} (h : z ∈ lnsB s) : z.size ≤ s.size := by
  obtain ⟨x, e, _⟩ := lnsB_split s
  exact spB_sz (b := 10) (by rw [e]; exact List.mem_append_left _ h)
theorem lnsB_le (s : ByteArray) : (lnsB s).length ≤ s.size := by
  obtain ⟨x, e, _⟩ := lnsB_split s
  have := spB_le 10 s
  rw [e, List.length_append] at this
  simp at this
  omega
def psB (s : ByteArray) : Bool := psOk s.data.toList
def psL (s : ByteArray) : List ItemD := psV s.data.toList
def itsB (s : ByteArray) : List ItemD := (lnsB s).map fun l => itP l.data.toList
theorem itsB_len (s : ByteArray) : (itsB s).length = (lnsB s).length := by simp [itsB]
theorem itsB_snoc {s z : ByteArray} {k : Nat} (h : (lnsB s)[k]? = some z) : (itsB s).take (k + 1) = (itsB s).take k ++ [itP z.data.toList] := take_snoc (by unfold itsB; rw [List.getElem?_map, h]; rfl)
theorem psB_eq (s : ByteArray) : psB s = (lnOk s.data.toList && (decide ((lnsB s).length ≤ 14) && (lnsB s).all piB)) := by
  unfold psB psOk lnsB
  rw [List.length_map, List.all_map]
  rfl
theorem psL_yes {s : ByteArray} (h : psB s = true) : psL s = itsB s := by
  unfold psB at h
  unfold psL psV itsB lnsB
  rw [if_pos h, List.map_map]
  rfl
theorem psL_no {s : ByteArray} (h : psB s = false) : psL s = [] := by
  unfold psB at h
  unfold psL psV
  rw [h]
  rfl
theorem psB_open {s : ByteArray} (h : lnOk s.data.toList = false) : psB s = false := by rw [psB_eq, h]; rfl
theorem psB_many {s : ByteArray} (h : ¬ (lnsB s).length ≤ 14) : psB s = false := by rw [psB_eq, decide_eq_false h]; simp
theorem psB_bad {s z : ByteArray} {k : Nat} (h : (lnsB s)[k]? = some z) (hz : piB z = false) : psB s = false := by rw [psB_eq, all_not h hz]; simp
theorem psB_full {s : ByteArray} (h1 : lnOk s.data.toList = true) (h2 : (lnsB s).length ≤ 14) (h3 : (lnsB s).all piB = true) : psB s = true := by rw [psB_eq, h1, decide_eq_true h2, h3]; rfl
theorem psL_len (s : ByteArray) : (psL s).length ≤ 14 ∧ itemsB (psL s) = true := by
  cases h : psB s with
  | true =>
    rw [psL_yes h]
    rw [psB_eq] at h
    simp only [Bool.and_eq_true, decide_eq_true_eq] at h
    refine ⟨by rw [itsB_len]; exact h.2.1, ?_⟩
    unfold itemsB itsB
    rw [List.all_map, List.length_map]
    simp only [Bool.and_eq_true]
    exact ⟨h.2.2, by have := h.2.1; simp; omega⟩
  | false => rw [psL_no h]; exact ⟨by decide, rfl⟩
def PsPost (s : ByteArray) (w : World) (e : Ending) (w' : World) : Prop := ∃ v' S, e = .returned (.tuple #[v', .bool (psB s)]) ∧ OwnL w' w.heap.size v' (psL s) S ∧ Kept w w'
theorem PsPost.no {s : ByteArray} {w w' : World} (h : psB s = false) (k : Kept w w') : PsPost s w (.returned (.tuple #[.slice none 0 0, .bool false])) w' :=
  ⟨_, _, by rw [h], by rw [psL_no h]; exact (OwnC.nil0 _ _).toL, k⟩
theorem PsPost.yes {s : ByteArray} {base : Nat} {w w' : World} {v : Value} {cs : List (Value × Value)} (h : psB s = true) (k : Kept w w') (hb : w.heap.size ≤ base) (o : OwnC w' base v (itsB s) cs) : PsPost s w (.returned (.tuple #[v, .bool true])) w' :=
  ⟨_, _, by rw [h], by rw [psL_yes h]; exact (o.base hb).toL, k⟩
def LnPost (s : ByteArray) (w : World) (e : Ending) (w' : World) : Prop := ∃ v', e = .returned (.tuple #[v', .bool (lnOk s.data.toList)]) ∧ (lnOk s.data.toList = true → OwnS w' w.heap.size v' (lnsB s)) ∧ (lnOk s.data.toList = false → v' = .slice none 0 0) ∧ Kept w w'
theorem snoc_ext {s : ByteArray} (h : 0 < s.size) : ∃ p, s.data.toList = p ++ [s[s.size - 1]] ∧ (s.extract 0 (s.size - 1)).data.toList = p := by
  have hne : s.data.toList ≠ [] := by intro e; rw [size_eq, e] at h; simp at h
  have hg := byte_get s (s.size - 1) (by omega)
  have e1 := (List.dropLast_concat_getLast hne).symm
  have hl : s.data.toList.getLast hne = s[s.size - 1] := by
    rw [List.getLast_eq_getElem]
    have := (List.getElem?_eq_some_iff.1 hg).2
    rw [← this]
    congr 1
  refine ⟨s.data.toList.dropLast, by rw [← hl]; exact e1, ?_⟩
  rw [pc_ext, tx_data]
  unfold pc
  rw [List.drop_zero, List.dropLast_eq_take, size_eq]
set_option maxHeartbeats 4000000 in
theorem linesOf_any (s : ByteArray) (w : World) (hs : s.size ≤ 1048576) (hmx : HasMax w) :
    Calls Tryz.prog 67 #[.string s] w fun e w' => LnPost s w e w' := by
  have HMX := Lib.hid hmx
  clear hmx
  by_cases h0 : s.size = 0
  · have hd : s.data.toList = [] := List.eq_nil_of_length_eq_zero (by rw [← size_eq]; exact h0)
    have he : s.toList.isEmpty = true := by rw [toList_data, hd]; rfl
    have HP : Hid (∀ w' : World, Kept w w' → Box w' w.heap.size 9 #[] → LnPost s w (.returned (.tuple #[.slice (some ⟨w.heap.size, 0, none⟩) 0 0, .bool true])) w') := Lib.hid (fun w' k b => ⟨_, by rw [hd]; rfl, fun _ => by unfold lnsB; rw [hd, lns_nil]; exact ⟨own_made _ _ 1 (Nat.le_refl _) b, fun _ h => by cases h⟩, fun h => (by rw [hd] at h; cases h), k⟩)
    clear hd h0
    go_enter Tryz.func67, Tryz.ntmps67
    go_wp2_with fail
    go_ret2
    exact HP.out _ ((Kept.refl w).alloc _) (Box.new w _ _ _ rfl)
  · have hp : 0 < s.size := by omega
    obtain ⟨p, hp1, hp2⟩ := snoc_ext hp
    have he : s.toList.isEmpty = false := by
      rw [toList_data, hp1]
      cases p <;> rfl
    have hln : lnOk s.data.toList = (s[s.size - 1] == 10) := by rw [hp1, lnOk_snoc]
    have hp' : (0 : Int) ≤ (s.size : Int) - 1 := by omega
    have hp3 : (s.size : Int) - 1 < (s.size : Int) := by omega
    have hp4 : (1 : Int) ≤ (s.size : Int) := by omega
    by_cases hc : s[s.size - 1].toNat = 10
    · have hc' : s[s.size - 1] = 10 := UInt8.toNat_inj.1 hc
      have hb : ((s[s.size - 1].toNat : Int) != 10) = false := by simp [hc]
      have hb2 : ((s[s.size - 1].toNat : Int) == 10) = true := by simp [hc]
      obtain ⟨t, ht⟩ : ∃ t, s.extract 0 (s.size - 1) = t := ⟨_, rfl⟩
      rw [ht] at hp2
      have htl : spB 10 t = lnsB s := by
        unfold spB lnsB
        rw [hp2, hp1, hc', lns_snoc]
      have hts : t.size ≤ 1048576 := by
        have e1 := congrArg List.length hp1
        rw [← hp2, List.length_append, ← size_eq, ← size_eq] at e1
        simp at e1
        omega
      have CS : Hid (∀ w0 : World, HasMax w0 → Calls Tryz.prog 91 #[.string t, .string ⟨#[10]⟩] w0 fun e w' => ∃ cap, e = .returned (.slice (some ⟨w0.heap.size, 0, none⟩) (spB 10 t).length cap) ∧ OwnS w' w0.heap.size (.slice (some ⟨w0.heap.size, 0, none⟩) (spB 10 t).length cap) (spB 10 t) ∧ Kept w0 w') := Lib.hid (fun w0 h => split_any t 10 w0 hts h)
      have HP : Hid (∀ (w' : World) (v : Value), Kept w w' → OwnS w' w.heap.size v (spB 10 t) → LnPost s w (.returned (.tuple #[v, .bool true])) w') := Lib.hid (fun w' v k o => by
        have e : lnOk s.data.toList = true := by rw [hln, hc']; rfl
        exact ⟨v, by rw [e], fun _ => htl ▸ o, fun h => (by rw [e] at h; cases h), k⟩)
      clear hc hc' hln hp1 hp2 htl hts h0
      go_enter Tryz.func67, Tryz.ntmps67
      go_wp2_with fail
      refine (CS.out _ HMX.out).mono ?_
      rintro e w1 ⟨cap, rfl, o1, k1⟩
      go_wp2_with fail
      go_ret2
      exact HP.out _ _ k1 o1
    · have hb : ((s[s.size - 1].toNat : Int) != 10) = true := by simp; omega
      have hb2 : ((s[s.size - 1].toNat : Int) == 10) = false := by simp; omega
      have HP : Hid (∀ w' : World, Kept w w' → LnPost s w (.returned (.tuple #[.slice none 0 0, .bool false])) w') := Lib.hid (fun w' k => by
        have e : lnOk s.data.toList = false := by
          rw [hln, beq_eq_false_iff_ne]
          intro e
          exact hc (by rw [e]; rfl)
        exact ⟨_, by rw [e], fun h => (by rw [e] at h; cases h), fun _ => rfl, k⟩)
      clear hc hln hp1 hp2 h0
      go_enter Tryz.func67, Tryz.ntmps67
      go_wp2_with fail
      go_ret2
      exact HP.out _ (Kept.refl w)
set_option maxRecDepth 100000 in
set_option maxHeartbeats 16000000 in
theorem implParseItems_any (s : ByteArray) (w : World) (hs : s.size ≤ 1048576) (hsg : HasSigns w) (hmx : HasMax w) :
    Calls Tryz.prog 26 #[.string s] w fun e w' => PsPost s w e w' := by
  have HSG := Lib.hid hsg
  have CS := Lib.hid (linesOf_any s w hs hmx)
  have HMX := Lib.hid hmx
  clear hsg hmx
  have hle := lnsB_le s
  go_enter Tryz.func26, Tryz.ntmps26
  go_wp2_with fail
  refine (CS.out).mono ?_
  rintro e w1 ⟨v1, rfl, hy1, hn1, k1⟩
  have KW := Lib.hid k1
  have sz1 := k1.size
  have HMX1 := Lib.hid (HMX.out.kept k1)
  have HSG1 := Lib.hid (HSG.out.kept k1)
  clear k1
  cases hln : lnOk s.data.toList with
  | false =>
    have HN : Hid (psB s = false) := Lib.hid (psB_open hln)
    obtain rfl := hn1 hln
    clear hy1 hn1 hln
    go_wp2_with fail
    go_ret2
    exact PsPost.no HN.out KW.out
  | true =>
    have o1 := hy1 hln
    have HLN := Lib.hid hln
    clear hy1 hn1 hln
    obtain ⟨g, cap, rfl, hc1, hc2⟩ : ∃ (A : Option Addr) (cap : Nat), v1 = .slice A (lnsB s).length cap ∧ (lnsB s).length ≤ cap ∧ cap ≤ maxLen := by
      obtain ⟨A, c, e, h1, h2, _⟩ := own_form o1.1
      exact ⟨A, c, e, h1, h2⟩
    unfold maxLen at hc2
    have OL := Lib.hid o1.strs
    clear o1
    by_cases h14 : (lnsB s).length ≤ 14
    case neg =>
      have HN : Hid (psB s = false) := Lib.hid (psB_many h14)
      have h15 : (14 : Int) < ((lnsB s).length : Int) := by omega
      go_wp2_with fail
      go_ret2
      exact PsPost.no HN.out KW.out
    have h15 : ¬ (14 : Int) < ((lnsB s).length : Int) := by omega
    have HL14 := Lib.hid h14
    go_wp2_with fail
    have HQ0 : Hid (OwnC (w1.alloc (.cells #[] 64)) w1.heap.size (.slice (some ⟨w1.heap.size, 0, none⟩) 0 0) ((itsB s).take 0) []) := Lib.hid (OwnC.made _ (Nat.le_refl _) (Box.new _ _ _ _ rfl))
    have KQ0 : Hid (Kept w1 (w1.alloc (.cells #[] 64))) := Lib.hid ((Kept.refl w1).alloc _)
    have BL : Hid (w1.heap.size ≤ w1.heap.size) := Lib.hid (Nat.le_refl _)
    have KB0 : Hid (w.heap.size ≤ w1.heap.size) := Lib.hid sz1
    go_loopw [26, 6] (fun i q wr => ∃ (k : Nat) (cs : List (Value × Value)), k ≤ (lnsB s).length ∧ i = .int .i64 k ∧ OwnC wr w1.heap.size q ((itsB s).take k) cs ∧ ((lnsB s).take k).all piB = true ∧ Kept w1 wr) (fun i _ _ => (lnsB s).length - (RowKit.intOf i).toNat)
    case atStart => exact ⟨0, [], Nat.zero_le _, rfl, HQ0.out, rfl, KQ0.out⟩
    case round =>
      clear HQ0 KQ0
      obtain ⟨k, cs, hk, rfl, oq, hall, hkept⟩ := hrel
      have HAL := Lib.hid hall
      have HO := Lib.hid oq
      have FO := Lib.hid oq.fps
      have szr := hkept.size
      have HKL := Lib.hid (itsB_len s)
      obtain ⟨Aq, cq, eq, hnq, hcq, _⟩ := own_form oq.2.1
      have hkk : ((itsB s).take k).length = k := by rw [List.length_take, HKL.out]; omega
      rw [hkk] at eq
      clear hkk
      clear hall oq hnq hcq
      by_cases hlt : k < (lnsB s).length
      · obtain ⟨b0, i0, z, e0, hb0, hz0, hx0⟩ := strs_at (k := k) (OL.out.kept hkept).1.addr hlt
        subst e0
        have hzs := lnsB_sz (List.mem_of_getElem? hz0)
        have HZ := Lib.hid hz0
        have HSN := Lib.hid (itsB_snoc hz0)
        clear hz0
        go_wp2_with fail
        refine (implParseItem_any z _ (by omega) (HSG1.out.kept hkept) (HMX1.out.kept hkept)).mono ?_
        rintro e w3 ⟨v3, rfl, o3, k3⟩
        have sz3 := k3.size
        cases hpb : piB z with
        | false =>
          have HN := Lib.hid (psB_bad HZ.out hpb)
          obtain ⟨n3, m3, rfl, p3, q3, nd3⟩ := o3
          obtain ⟨An, cn, rfl, _⟩ := own_form p3.1
          obtain ⟨Am, cm, rfl, _⟩ := own_form q3
          clear p3 q3 nd3 hpb
          go_wp2_with fail
          go_ret2
          exact PsPost.no HN.out (KW.out.trans ((hkept.trans k3).alloc _))
        | true =>
          have HPB := Lib.hid hpb
          have HAN := Lib.hid (all_snoc HZ.out HAL.out hpb)
          rw [piV_yes hpb] at o3
          obtain ⟨it, hit⟩ : ∃ it, it = itP z.data.toList := ⟨_, rfl⟩
          rw [← hit] at o3 HSN
          clear hit hpb
          obtain ⟨n3, m3, rfl, p3, q3, nd3⟩ := o3
          obtain ⟨An, cn, rfl, _⟩ := own_form p3.1
          obtain ⟨Am, cm, rfl, _⟩ := own_form q3
          rw [fpA_item] at nd3
          have P3 := Lib.hid p3
          have Q3 := Lib.hid q3
          have ND3 := Lib.hid nd3
          clear p3 q3 nd3
          have htl : ((itsB s).take k).length ≤ 1000 := by rw [List.length_take]; have := HKL.out; omega
          subst eq
          go_upto_region 11 with (fail)
          obtain ⟨wb, hwb⟩ : ∃ x : World, x = w3.alloc (.cells #[.slice An it.names.length cn, .slice Am it.marks.length cm, .bool it.late] 64) := ⟨_, rfl⟩
          rw [← hwb]
          have KB : Kept w3 wb := hwb ▸ (Kept.refl w3).alloc _
          have BB : Box wb w3.heap.size 64 #[.slice An it.names.length cn, .slice Am it.marks.length cm, .bool it.late] := hwb ▸ Box.new w3 _ _ _ rfl
          clear hwb
          have szb := KB.size
          have hbl := BB.lt
          obtain ⟨xb, yb⟩ := BB.three
          have k3b := k3.trans KB
          have kcc : Kept wr (wb.alloc (.cells #[.slice An it.names.length cn, .slice Am it.marks.length cm, .bool it.late] 64)) := k3b.alloc _
          have HOk := Lib.hid (HO.out.kept kcc)
          go_wp2_with (at_builtin; refine wpList_append_T _ rfl _ _ rfl w1.heap.size _ _ _ rfl HOk.out.2.1 wb.heap.size (.slice An it.names.length cn) (.slice Am it.marks.length cm) (.bool it.late) rfl (Box.new _ _ _ _ rfl) ⟨rfl, rfl, rfl⟩ (by omega) (by have := hkept.size; have := BL.out; simp; omega) ?_; intro v4 w4 o4 g4 h4)
          have kd := KB.alloc (.cells #[.slice An it.names.length cn, .slice Am it.marks.length cm, .bool it.late] 64)
          have hpush := OwnC.push (it := it) HOk.out ⟨own_base (P3.out.kept kd).1 (by have := BL.out; omega), P3.out.2⟩ (own_base (own_kept Q3.out kd) (by have := BL.out; omega)) ND3.out (fun b hb hb' => by
            have h1 := (FO.out b hb').2
            rcases List.mem_append.1 hb with hb | hb
            · have := (own_fp P3.out.1 b hb).1; omega
            · have := (own_fp Q3.out b hb).1; omega) o4 g4 h4
          have kg : Kept w1 w4 := (hkept.trans kcc).grew HOk.out.2.1 g4 BL.out
          have HPU := Lib.hid hpush
          clear hpush o4 g4 h4
          go_wp2_with fail
          go_roundw
          case rel => exact ⟨k + 1, _, by omega, by go_num, by rw [HSN.out]; exact HPU.out, HAN.out, kg⟩
          case measure => simp [RowKit.intOf]; omega
      · obtain rfl : k = (lnsB s).length := by omega
        have HOE : Hid (OwnC wr w1.heap.size _ (itsB s) cs) := Lib.hid (by have := HO.out; rw [← HKL.out, List.take_length] at this; exact this)
        have HY := Lib.hid (psB_full HLN.out HL14.out (by have := HAL.out; rw [List.take_length] at this; exact this))
        go_wp2_with fail
        go_ret2
        exact PsPost.yes HY.out (KW.out.trans hkept) KB0.out HOE.out
end Go.Proofs.YtkekpolfdmmgeaaGreatDoor

/- strings.Builder's WriteString at this program, laid by hand: two of the numbers that the structures name stand in no body of the closure here. -/
namespace Go.Proofs
set_option linter.unusedVariables false
set_option linter.unusedSimpArgs false
open Go Go.Shelf Go.RowKit
def Tryz.b166_ren : Go.Shelf.Ren := ⟨fun | 166 => 48 | 240 => 96 | 276 => 123 | n => n, fun | 0 => 0 | 3 => 3 | 4 => 4 | 5 => 5 | 9 => 9 | 20 => 20 | 37 => 22 | 70 => 73 | 72 => 75 | 75 => 77 | 80 => 81 | 164 => 136 | n => n, fun | n => n⟩
theorem Tryz.b166 : Go.Proofs.Lays.n166 Tryz.prog Tryz.b166_ren := {
  mixed := by kernel_rfl
  f166 := Tryz.func48.trans (congrArg some (by kernel_rfl))
  f240 := Tryz.func96.trans (congrArg some (by kernel_rfl))
  f276 := Tryz.func123.trans (congrArg some (by kernel_rfl))
  t0 := Tryz.underlying0
  a0 := Tryz.isAgg0
  z0 := Tryz.sizeOf0
  v0 := Tryz.zeroValue0
  t3 := Tryz.underlying3
  a3 := Tryz.isAgg3
  z3 := Tryz.sizeOf3
  v3 := Tryz.zeroValue3
  t4 := Tryz.underlying4
  a4 := Tryz.isAgg4
  z4 := Tryz.sizeOf4
  v4 := Tryz.zeroValue4
  t9 := Tryz.underlying9
  a9 := Tryz.isAgg9
  z9 := Tryz.sizeOf9
  v9 := Tryz.zeroValue9
  t20 := Tryz.underlying20
  a20 := Tryz.isAgg20
  z20 := Tryz.sizeOf20
  v20 := Tryz.zeroValue20
  t37 := Tryz.underlying22
  a37 := Tryz.isAgg22
  z37 := Tryz.sizeOf22
  v37 := Tryz.zeroValue22
  t70 := Tryz.underlying73
  a70 := Tryz.isAgg73
  z70 := Tryz.sizeOf73
  v70 := Tryz.zeroValue73
  t72 := Tryz.underlying75
  a72 := Tryz.isAgg75
  z72 := Tryz.sizeOf75
  v72 := Tryz.zeroValue75
  t75 := Tryz.underlying77
  a75 := Tryz.isAgg77
  z75 := Tryz.sizeOf77
  v75 := Tryz.zeroValue77
  t164 := Tryz.underlying136
  a164 := Tryz.isAgg136
  z164 := Tryz.sizeOf136
  v164 := Tryz.zeroValue136 }
theorem Tryz.bX : Builder.Extra Tryz.prog Tryz.b166_ren := {
  sizeBuilder := by kernel_rfl
  liesBuilder := by kernel_rfl
  t5 := Tryz.underlying5
  a5 := Tryz.isAgg5
  z5 := Tryz.sizeOf5
  v5 := Tryz.zeroValue5
  infoByte := by kernel_rfl
  cellsByte := by kernel_rfl
  sizeByte := by kernel_rfl
  neB5 := by decide }
theorem Tryz.Builder_WriteString (B b : Nat) (bs : List Value) (s : ByteArray) (w : World) (h : Lib.IsBuilder 75 5 B b bs w) (hlen : bs.length + s.size ≤ 140737488355328) (hBw : B ≤ w.heap.size) :
    Calls Tryz.prog 48 #[.pointer (some ⟨b, 0, none⟩), .string s] w fun e w' => e = .returned (.tuple #[.int .i64 s.size, .nilIface]) ∧ (Lib.BuilderAt 75 5 B b (.pointer (some ⟨b, 0, none⟩)) (bs ++ Lib.strCells s) w' ∧ Below B w w') :=
  Any.Builder_WriteString Tryz.b166 Tryz.bX B b bs s w h hlen hBw
end Go.Proofs

/- Items: ItemsText, both sides and the law. -/
namespace Go.Proofs.YtkekpolfdmmgeaaGreatDoor
set_option linter.unusedVariables false
set_option linter.unusedSimpArgs false
set_option linter.unnecessarySimpa false
open Go.RowKit Go.Lib

def lnT (its : List ItemD) (k : Nat) : List UInt8 := itsTxt (its.take k)
theorem lnT_zero (its : List ItemD) : lnT its 0 = [] := rfl
theorem lnT_succ {its : List ItemD} {k : Nat} {it : ItemD} (h : its[k]? = some it) : lnT its (k + 1) = lnT its k ++ ((itT it ++ ⟨#[10]⟩ : ByteArray)).data.toList := by
  unfold lnT itsTxt itT
  rw [take_snoc h, List.map_append, List.flatten_append]
  congr 1
  show _ ++ [] = (tx (itTxt it) ++ tx [10]).data.toList
  rw [List.append_nil, tx_app]
  rfl
theorem lnT_size {its : List ItemD} (h : ∀ it ∈ its, itemB it = true) : ∀ k, k ≤ its.length → (lnT its k).length ≤ 24 * k
  | 0, _ => Nat.le_refl 0
  | k + 1, hk => by
    have h1 : its[k]? = some its[k] := List.getElem?_eq_getElem (by omega)
    have ih := lnT_size h k (by omega)
    have hs := itT_size (h _ (List.mem_of_getElem? h1))
    rw [lnT_succ h1, List.length_append, ← size_eq, ByteArray.size_append]
    have e : (⟨#[10]⟩ : ByteArray).size = 1 := rfl
    omega
theorem lnT_all (its : List ItemD) : lnT its its.length = itsTxt its := by unfold lnT; rw [List.take_length]
def itsV (its : List ItemD) : ByteArray := if itemsB its then tx (itsTxt its) else ⟨#[]⟩
theorem itsV_yes {its : List ItemD} (h : itemsB its = true) : itsV its = tx (itsTxt its) := by unfold itsV; rw [h]; rfl
theorem itsV_no {its : List ItemD} (h : itemsB its = false) : itsV its = ⟨#[]⟩ := by unfold itsV; rw [h]; rfl
theorem tx_lnT {its : List ItemD} {k : Nat} {it : ItemD} (h : its[k]? = some it) : tx (lnT its k) ++ (itT it ++ ⟨#[10]⟩) = tx (lnT its (k + 1)) := by
  rw [lnT_succ h, ← tx_app, tx_of]
theorem isB_kept {T e : TypeId} {B b : Nat} {bs : List Value} {w w' : World} (h : IsBuilder T e B b bs w) (k : Kept w w') : IsBuilder T e B b bs w' := by
  have go : ∀ p, BuilderAt T e B b p bs w → BuilderAt T e B b p bs w' := fun p hp => by
    have hl := hp.lt
    obtain ⟨h1, v, h2, h3, h4⟩ := hp
    exact ⟨h1, v, (k.block b hl).trans h2, own_kept h3 k, h4⟩
  exact h.elim (fun x => .inl (go _ x)) (fun x => .inr (go _ x))
set_option maxRecDepth 100000 in
set_option maxHeartbeats 16000000 in
theorem itLines_any (v0 : Value) (its : List ItemD) (w : World) (h0 : ItemsAt w v0 its) (hb : itemsB its = true) :
    Calls Tryz.prog 80 #[v0] w fun e w' => e = .returned (.string (tx (itsTxt its))) ∧ Kept w w' := by
  obtain ⟨A0, c0, cs0, rfl, hnc0, hcm0, hA0⟩ := h0.out
  have HA0 := Lib.hid hA0
  clear hA0 h0
  unfold maxLen at hcm0
  have HQ := Lib.hid hb
  have hl14 := (itemsB_true hb).1
  clear hb
  go_enter Tryz.func80, Tryz.ntmps80
  go_wp2_with fail
  go_loopw [3, 8] (fun s3 s8 wr => ∃ k : Nat, k ≤ its.length ∧ s8 = .int .i64 k ∧ s3 = .string (tx (lnT its k)) ∧ Kept w wr) (fun _ i _ => its.length - (RowKit.intOf i).toNat)
  case atStart => exact ⟨0, Nat.zero_le _, rfl, rfl, Kept.refl _⟩
  case round =>
    obtain ⟨k, hk, rfl, rfl, hkept⟩ := hrel
    by_cases hlt : k < its.length
    · obtain ⟨b, o, A1, c1, A2, c2, it, rfl, hbb, h2, h3, hit, q0, q1, q2⟩ := items_at (HA0.out.kept hkept) hlt
      have hib := (itemsB_true HQ.out).2 it (List.mem_of_getElem? h2)
      have hsz := itT_size hib
      have hls := lnT_size (itemsB_true HQ.out).2 k hk
      have e1 : (⟨#[10]⟩ : ByteArray).size = 1 := rfl
      have AW := Lib.hid (cat_run (x := itT it) (y := ⟨#[10]⟩) rfl (by omega))
      have AJ := Lib.hid (cat_run (tx_lnT h2) (by rw [tx_size, ByteArray.size_append]; omega))
      have kb := hkept.alloc (.cells #[.slice A1 it.names.length c1, .slice A2 it.marks.length c2, .bool it.late] 64)
      have kb0 := (Kept.refl wr).alloc (.cells #[.slice A1 it.names.length c1, .slice A2 it.marks.length c2, .bool it.late] 64)
      have C := Lib.hid (itText_any _ it _ (hit.kept kb0) hib)
      have B0 := Box.new wr wr.heap.size 64 #[.slice A1 it.names.length c1, .slice A2 it.marks.length c2, .bool it.late] rfl
      obtain ⟨x0, y0⟩ := B0.three
      clear h2 h3 hit e1 hib
      have aw := AW.out
      have aj := AJ.out
      obtain ⟨z, hz⟩ : ∃ z, z = tx (lnT its (k + 1)) := ⟨_, rfl⟩
      rw [← hz] at aj
      have HZ := Lib.hid hz
      clear hz AJ
      generalize itT it ++ ⟨#[10]⟩ = z1 at aw aj AW
      go_wp2_with fail
      refine (C.out).mono ?_
      rintro e w1 ⟨rfl, k1⟩
      go_wp2_with fail
      go_roundw
      case rel => exact ⟨k + 1, by omega, by go_num, (by rw [HZ.out]), kb.trans k1⟩
      case measure => simp [RowKit.intOf]; omega
    · obtain rfl : k = its.length := by omega
      rw [lnT_all]
      go_wp2_with fail
      go_ret
      exact ⟨rfl, hkept⟩
set_option maxRecDepth 100000 in
set_option maxHeartbeats 16000000 in
theorem implItemsText0_any (v0 : Value) (its : List ItemD) (w : World) (h0 : ItemsAt w v0 its) (hb : itemsB its = true) (hsg : HasSigns w) :
    Calls Tryz.prog 78 #[v0] w fun e w' => e = .returned (.string (tx (itsTxt its))) ∧ Kept w w' := by
  obtain ⟨A0, c0, cs0, rfl, hnc0, hcm0, hA0⟩ := h0.out
  have HA0 := Lib.hid hA0
  have HSG := Lib.hid hsg
  clear hA0 h0 hsg
  unfold maxLen at hcm0
  have HQ := Lib.hid hb
  have hl14 := (itemsB_true hb).1
  clear hb
  go_enter Tryz.func78, Tryz.ntmps78
  have HB0 := Lib.hid (fresh_isBuilder 75 5 w)
  have K0 := (Kept.refl w).alloc (.cells #[.pointer none, .slice none 0 0] 75)
  go_wp2_with fail
  go_loopw [8] (fun s8 wr => ∃ k : Nat, k ≤ its.length ∧ s8 = .int .i64 k ∧ IsBuilder 75 5 w.heap.size w.heap.size (Lib.byteCells (lnT its k)) wr ∧ Kept w wr) (fun i _ => its.length - (RowKit.intOf i).toNat)
  case atStart => exact ⟨0, Nat.zero_le _, rfl, HB0.out, K0⟩
  case round =>
    obtain ⟨k, hk, rfl, hbu, hkept⟩ := hrel
    have HBU := Lib.hid hbu
    clear hbu
    by_cases hlt : k < its.length
    · obtain ⟨b, o, A1, c1, A2, c2, it, rfl, hbb, h2, h3, hit, q0, q1, q2⟩ := items_at (HA0.out.kept hkept) hlt
      have hib := (itemsB_true HQ.out).2 it (List.mem_of_getElem? h2)
      have hsz := itT_size hib
      have hls := lnT_size (itemsB_true HQ.out).2 k hk
      have e1 : (⟨#[10]⟩ : ByteArray).size = 1 := rfl
      have AW := Lib.hid (cat_run (x := itT it) (y := ⟨#[10]⟩) rfl (by omega))
      have HSZ : Hid ((itT it ++ ⟨#[10]⟩ : ByteArray).size ≤ 24) := Lib.hid (by rw [ByteArray.size_append]; omega)
      have HLN : Hid (Lib.byteCells (lnT its k) ++ strCells (itT it ++ ⟨#[10]⟩) = Lib.byteCells (lnT its (k + 1))) := Lib.hid (by rw [Lib.strCells_eq, ← Lib.byteCells_append, ← lnT_succ h2])
      have kb := hkept.alloc (.cells #[.slice A1 it.names.length c1, .slice A2 it.marks.length c2, .bool it.late] 64)
      have kb0 := (Kept.refl wr).alloc (.cells #[.slice A1 it.names.length c1, .slice A2 it.marks.length c2, .bool it.late] 64)
      have C := Lib.hid (implItemText0_any _ it _ (hit.kept kb0) hib (HSG.out.kept kb))
      have B0 := Box.new wr wr.heap.size 64 #[.slice A1 it.names.length c1, .slice A2 it.marks.length c2, .bool it.late] rfl
      obtain ⟨x0, y0⟩ := B0.three
      clear h2 h3 hit e1 hib
      have aw := AW.out
      generalize itT it ++ ⟨#[10]⟩ = z1 at aw AW HSZ HLN
      go_wp2_with fail
      refine (C.out).mono ?_
      rintro e w1 ⟨rfl, k1⟩
      have kk := kb.trans k1
      have HC := Lib.hid (Tryz.Builder_WriteString w.heap.size w.heap.size (Lib.byteCells (lnT its k)) z1 w1 (isB_kept HBU.out (kb0.trans k1)) (by rw [Lib.byteCells_length]; have := HSZ.out; omega) kk.size)
      go_wp2_with fail
      refine (HC.out).mono ?_
      rintro e w2 ⟨rfl, bu, bel⟩
      rw [HLN.out] at bu
      have BU := Lib.hid bu
      have k2 : Kept w w2 := Below.trans kk bel
      clear bu bel
      go_wp2_with fail
      go_roundw
      case rel => exact ⟨k + 1, by omega, by go_num, .inr BU.out, k2⟩
      case measure => simp [RowKit.intOf]; omega
    · obtain rfl : k = its.length := by omega
      have HC := Lib.hid (Tryz.Builder_String_any w.heap.size w.heap.size (lnT its its.length) wr HBU.out hkept.size)
      go_wp2_with fail
      refine (HC.out).mono ?_
      rintro e w2 ⟨rfl, bel⟩
      have k2 : Kept w w2 := Below.trans hkept bel
      go_wp2_with fail
      go_ret
      exact ⟨ret_str (by rw [lnT_all]; rfl), k2⟩
set_option maxHeartbeats 1000000 in
theorem specItemsText_any (v : Value) (its : List ItemD) (w : World) (h : ItemsAt w v its) :
    Calls Tryz.prog 24 #[v] w fun e w' => e = .returned (.tuple #[.string (itsV its), .bool (itemsB its)]) ∧ Kept w w' := by
  have HI := Lib.hid h
  clear h
  go_enter Tryz.func24, Tryz.ntmps24
  go_wp2_with fail
  refine (itList_any _ its _ HI.out).mono ?_
  rintro e w1 ⟨rfl, k1⟩
  by_cases hb : itemsB its = true
  · have HB := Lib.hid hb
    rw [hb]
    clear hb
    go_wp2_with fail
    refine (itLines_any _ its _ (HI.out.kept k1) HB.out).mono ?_
    rintro e w2 ⟨rfl, k2⟩
    go_wp2_with fail
    go_ret2
    exact ⟨ret_sb (itsV_yes HB.out).symm HB.out.symm, k1.trans k2⟩
  · simp only [Bool.not_eq_true] at hb
    have HB := Lib.hid hb
    rw [hb]
    clear hb
    go_wp2_with fail
    go_ret2
    exact ⟨ret_sb (itsV_no HB.out).symm HB.out.symm, k1⟩
set_option maxHeartbeats 1000000 in
theorem implItemsText_any (v : Value) (its : List ItemD) (w : World) (h : ItemsAt w v its) (hsg : HasSigns w) :
    Calls Tryz.prog 23 #[v] w fun e w' => e = .returned (.tuple #[.string (itsV its), .bool (itemsB its)]) ∧ Kept w w' := by
  have HI := Lib.hid h
  have HSG := Lib.hid hsg
  clear hsg
  clear h
  go_enter Tryz.func23, Tryz.ntmps23
  go_wp2_with fail
  refine (areItems_any _ its _ HI.out).mono ?_
  rintro e w1 ⟨rfl, k1⟩
  by_cases hb : itemsB its = true
  · have HB := Lib.hid hb
    rw [hb]
    clear hb
    go_wp2_with fail
    refine (implItemsText0_any _ its _ (HI.out.kept k1) HB.out (HSG.out.kept k1)).mono ?_
    rintro e w2 ⟨rfl, k2⟩
    go_wp2_with fail
    go_ret2
    exact ⟨ret_sb (itsV_yes HB.out).symm HB.out.symm, k1.trans k2⟩
  · simp only [Bool.not_eq_true] at hb
    have HB := Lib.hid hb
    rw [hb]
    clear hb
    go_wp2_with fail
    go_ret2
    exact ⟨ret_sb (itsV_no HB.out).symm HB.out.symm, k1⟩
end Go.Proofs.YtkekpolfdmmgeaaGreatDoor

/- CleanItems, MarkLate. -/
namespace Go.Proofs.YtkekpolfdmmgeaaGreatDoor
set_option linter.unusedVariables false
set_option linter.unusedSimpArgs false
open Go.RowKit

theorem ItemAt.two {w : World} {a b : Value} {l : Bool} {it : ItemD} (h : ItemAt w (.agg #[a, b, .bool l]) it) : Strs w a it.names ∧ Ints w b it.marks := by
  obtain ⟨nv, mv, e, h1, h2⟩ := h
  simp only [Value.agg.injEq] at e
  simp at e
  obtain ⟨rfl, rfl, _⟩ := e
  exact ⟨h1, h2⟩
theorem zeroI (w : World) : (zeroValue 3).run Tryz.prog w = .ok (.int .i64 0) w := by kernel_rfl
theorem clearI {w : World} {base g cap : Nat} {zs : List Int} (h : OwnI w base (.slice (some ⟨g, 0, none⟩) zs.length cap) zs) (hn : 0 < zs.length) :
    (∀ ty, (Builtin.clear_ #[24] ty #[.slice (some ⟨g, 0, none⟩) zs.length cap]).run Tryz.prog w = .ok (.tuple #[]) (w.setCells g 0 (List.replicate zs.length (.int .i64 0)))) ∧
    OwnI (w.setCells g 0 (List.replicate zs.length (.int .i64 0))) base (.slice (some ⟨g, 0, none⟩) zs.length cap) (List.replicate zs.length 0) ∧ Only [g] w (w.setCells g 0 (List.replicate zs.length (.int .i64 0))) := by
  have hg := (h.lt g rfl).1
  obtain ⟨cur, B, hnc, hcm, hsz, htk⟩ := own_box h
  have hcl : zs.length ≤ cur.size := by omega
  refine ⟨fun ty => ?_, ?_, only_sets g _ 0 w⟩
  · exact Lib.run_clear_slice w 24 3 ty (.int .i64 0) Tryz.underlying24 zeroI rfl rfl g 0 zs.length cap hn (fun j hj => by rw [Nat.zero_add]; exact B.some (by omega)) (fun j _ => B.free _)
  · have hl : (List.replicate zs.length (0 : Int)).length = zs.length := List.length_replicate
    unfold OwnI
    rw [hl, List.map_replicate]
    refine own_of_box (Box.sets _ 0 _ _ B) hg hnc hcm (by rw [sets_size]; exact hsz) ?_
    rw [sets_toList _ 0 _ (by simp; omega)]
    simp
set_option maxRecDepth 100000 in
set_option maxHeartbeats 4000000 in
theorem itOwn_any (v0 : Value) (its : List ItemD) (w : World) (h0 : ItemsAt w v0 its) (hv : its.all itemB = true) (hl : its.length ≤ 1000) :
    Calls Tryz.prog 93 #[v0] w fun e w' => ∃ v' cs, e = .returned v' ∧ OwnC w' w.heap.size v' its cs ∧ Kept w w' := by
  have H0 := Lib.hid h0
  obtain ⟨A0, c0, cs0, rfl, hnc0, hcm0, hA0⟩ := h0.out; have HA0 := Lib.hid hA0; clear hA0 h0; unfold maxLen at hcm0
  go_enter Tryz.func93, Tryz.ntmps93
  have K0 := Kept.refl w
  have HV := Lib.hid hv
  clear hv
  go_wp2_with fail
  have KE := Kept.refl w
  have HO0 : Hid (OwnC w w.heap.size (.slice none 0 0) (its.take 0) []) := Lib.hid (OwnC.nil0 _ _)
  go_loopw [3, 8] (fun q i wr => ∃ (j : Nat) (cs : List (Value × Value)), j ≤ its.length ∧ i = .int .i64 j ∧ OwnC wr w.heap.size q ((its).take j) cs ∧ Kept w wr) (fun _ i _ => its.length - (intOf i).toNat)
  case atStart => exact ⟨0, [], Nat.zero_le _, rfl, HO0.out, KE⟩
  case round =>
    obtain ⟨j, cs, hj, rfl, ho, hkept⟩ := hrel
    have HO := Lib.hid ho
    clear ho HO0
    have szr := hkept.size
    have Kr := K0.trans hkept
    by_cases hlt : j < its.length
    · obtain ⟨b, o, Aa, ca, Ab, cb, it, rfl, hbb, h2, h3, hit, q0, q1, q2⟩ := items_at (HA0.out.kept Kr) hlt
      obtain ⟨hib, hi1, hi3, him⟩ := all_some HV.out h2
      have him3 : it.marks.length ≤ 3 := by omega
      clear him
      have HIT := Lib.hid hit
      have HSN := Lib.hid (take_snoc h2)
      clear h2 h3 hit
      have htl : ((its).take j).length ≤ 1000 := by rw [List.length_take]; omega
      go_upto_region 5 with (fail)
      obtain ⟨wb1, hwb1⟩ : ∃ w' : World, w' = wr.alloc (.cells #[.slice Aa it.names.length ca, .slice Ab it.marks.length cb, .bool it.late] 64) := ⟨_, rfl⟩
      rw [← hwb1]
      have KBt : Kept wr wb1 := hwb1 ▸ (Kept.refl wr).alloc _
      have Bt : Box wb1 (wr.heap.size) 64 #[.slice Aa it.names.length ca, .slice Ab it.marks.length cb, .bool it.late] := hwb1 ▸ Box.new wr (wr.heap.size) 64 #[.slice Aa it.names.length ca, .slice Ab it.marks.length cb, .bool it.late] rfl
      have swb1 : wb1.heap.size = wr.heap.size + 1 := by rw [hwb1]; simp
      clear hwb1
      have Kwb1 := Kr.trans KBt
      clear q0 q1 q2
      have Kd1_ : Kept wb1 wb1.drew := (Kept.refl _).drew
      replace Bt := Bt.kept Kd1_
      have Kd1 := Kwb1.trans Kd1_
      have KWd : Kept wr wb1.drew := (KBt.trans Kd1_)
      have p1 := HIT.out.two.1
      have p2 := HIT.out.two.2
      have P1s := Lib.hid (p1.kept KWd)
      have P2s := Lib.hid (p2.kept KWd)
      clear p1 p2
      have HOd := Lib.hid (HO.out.kept KWd)
      go_region_held3 (fun w' => (w'.cell? ⟨wr.heap.size, 0, none⟩ = some (.slice Aa it.names.length ca) ∧ w'.cell? ⟨wr.heap.size, 1, none⟩ = some (.slice Ab it.marks.length cb) ∧ w'.cell? ⟨wr.heap.size, 2, none⟩ = some (.bool it.late))) (first | exact Bt.three.1 | exact (Bt.kept (by assumption)).three.1 | exact ((Bt.kept (by assumption)).alloc _).three.1 | (with_reducible exact hS3)) (first | (go_at_call 113; refine (l1OwnS_any _ it.names _ P1s.out (by omega)).mono ?_; rintro e wa ⟨va, rfl, oa, ka⟩; obtain ⟨A1, c1, rfl, _⟩ := own_form oa.1; have OA := Lib.hid oa; clear oa) | (go_at_call 107; refine (l1OwnI_any _ it.marks _ (P2s.out.kept ka) (by omega)).mono ?_; rintro e wb ⟨vb, rfl, ob, kb⟩; obtain ⟨A2, c2, rfl, _⟩ := own_form ob; have OB := Lib.hid ob; clear ob; have kab := ka.trans kb) | (refine step_append_T _ rfl (.tmp 12) (.tmp 22) rfl w.heap.size _ _ _ rfl ((HOd.out.kept kab).kept ((Kept.refl _).alloc _)).2.1 wb.heap.size (.slice A1 it.names.length c1) (.slice A2 it.marks.length c2) (.bool it.late) rfl (Box.new _ _ _ _ rfl) ⟨rfl, rfl, rfl⟩ (by omega) (by have := K0.size; have := kab.size; have := KWd.size; have := hkept.size; simp at *; omega) ?_; intro v3 w3 o3 g3 h3; have HOk := Lib.hid ((HOd.out.kept kab).kept ((Kept.refl wb).alloc (.cells #[.slice A1 it.names.length c1, .slice A2 it.marks.length c2, .bool it.late] 64))); have hS3 := ((Bt.kept (kab.alloc (.cells #[.slice A1 it.names.length c1, .slice A2 it.marks.length c2, .bool it.late] 64))).only (only_of_grown g3) (fun hb => by have := HO.out.fps _ (List.mem_append_left _ hb); omega)).three.1))
      rename_i hheld
      clear hheld hS3
      have sza := ka.size
      have szb := kb.size
      have szd := KWd.size
      have hpush := OwnC.push (it := it) HOk.out ⟨own_base (OA.out.kept (kb.trans ((Kept.refl _).alloc _))).1 (by omega), OA.out.2⟩ (own_base (OB.out.kept ((Kept.refl _).alloc _)) (by omega)) (nodup_fp (m := wa.heap.size) (fun y hy => (own_fp OA.out.1 y hy).2) (fun y hy => (own_fp OB.out y hy).1)) (fun b hb hb' => by
        have h1 := (HO.out.fps b hb').2
        rcases List.mem_append.1 hb with hb | hb
        · have := (own_fp OA.out.1 b hb).1; omega
        · have := (own_fp OB.out b hb).1; omega) o3 g3 h3
      have kg : Kept w w3 := (((hkept.trans KWd).trans kab).alloc _).grew HOk.out.2.1 g3 (Nat.le_refl _)
      have HP := Lib.hid hpush
      clear hpush o3 g3 h3
      go_wp2_with fail
      go_roundw
      case rel => exact ⟨j + 1, _, by omega, by go_num, by rw [HSN.out]; exact HP.out, kg⟩
      case measure => simp [intOf]; omega
    · obtain rfl : j = its.length := by omega
      have HOE : Hid (OwnC wr w.heap.size _ its cs) := Lib.hid (by have := HO.out; rw [List.take_length] at this; exact this)
      go_wp2_with fail
      go_ret
      exact ⟨_, cs, rfl, HOE.out, Kr⟩
set_option maxHeartbeats 4000000 in
theorem cleanItems_any (v0 : Value) (its : List ItemD) (w : World) (h0 : ItemsAt w v0 its) (hv : its.all itemB = true) (hl : its.length ≤ 1000) :
    Calls Tryz.prog 81 #[v0] w fun e w' => ∃ v' cs, e = .returned v' ∧ OwnC w' w.heap.size v' (cleaned its) cs ∧ Kept w w' := by
  have H0 := Lib.hid h0
  obtain ⟨A0, c0, cs0, rfl, hnc0, hcm0, hA0⟩ := h0.out; have HA0 := Lib.hid hA0; clear hA0 h0; unfold maxLen at hcm0
  go_enter Tryz.func81, Tryz.ntmps81
  have K0 := Kept.refl w
  have HV := Lib.hid hv
  clear hv
  go_wp2_with fail
  refine (copyItems_any _ its _ (H0.out.kept K0) HV.out hl).mono ?_
  rintro e w1 ⟨v1, cs, rfl, o1, k1⟩
  have sz1 := k1.size
  have K1 := K0.trans k1
  obtain ⟨Ag, cg, rfl, hng, hcg, hAg⟩ := own_form o1.2.1
  unfold maxLen at hcg
  have hcl := o1.1
  have HCL := Lib.hid hcl
  clear hcl
  have HO1 : Hid (OwnC w1 w.heap.size (.slice Ag its.length cg) ((cleaned its).take 0 ++ its.drop 0) cs) := Lib.hid (by rw [List.take_zero, List.drop_zero, List.nil_append]; exact o1)
  clear o1
  have HAg := Lib.hid hAg
  clear hAg
  go_wp2_with fail
  go_loopw [9] (fun i wr => ∃ k : Nat, k ≤ its.length ∧ i = .int .i64 k ∧ OwnC wr w.heap.size (.slice Ag its.length cg) ((cleaned its).take k ++ its.drop k) cs ∧ Kept w wr) (fun i _ => its.length - (intOf i).toNat)
  case atStart => exact ⟨0, Nat.zero_le _, rfl, HO1.out, K1⟩
  case round =>
    obtain ⟨k, hk, rfl, ho, hkept⟩ := hrel
    clear HO1
    by_cases hlt : k < its.length
    · obtain ⟨g, rfl⟩ := HAg.out (by omega)
      obtain ⟨it, hit⟩ : ∃ it, its[k]? = some it := ⟨_, List.getElem?_eq_getElem hlt⟩
      obtain ⟨⟨nv, mv⟩, hc⟩ : ∃ p, cs[k]? = some p := ⟨_, List.getElem?_eq_getElem (by rw [HCL.out]; exact hlt)⟩
      have hmx : ((cleaned its).take k ++ its.drop k)[k]? = some it := (mixA_get (cleaned_length its) hlt).trans hit
      obtain ⟨⟨q0, q1, q2⟩, f0, f1, f2⟩ := ownC_cells ho hmx hc
      obtain ⟨rn, rm⟩ := ho.2.2.1 k nv mv it hc hmx
      obtain ⟨hib, hi1, hi3, him⟩ := all_some HV.out hit
      obtain ⟨A2, c2, rfl, _, hc2m, hA2⟩ := own_form rm
      obtain ⟨g2, rfl⟩ := hA2 (by omega)
      unfold maxLen at hc2m
      have hg2 := (rm.lt g2 rfl).1
      obtain ⟨hclr, hown2, honly⟩ := clearI rm (by omega)
      have hnd := fpL_inner (List.nodup_append.1 ho.2.2.2).2.1 hc
      have hrn := rn.only honly (fun b hb hb' => by
        rw [List.mem_singleton] at hb'
        subst hb'
        exact (List.nodup_append.1 hnd).2.2 b hb b (by simp [fp_some]) rfl)
      have hst := OwnC.setItem (it' := cleanIt it) ho hmx hc honly (fun b hb => by rw [List.mem_singleton] at hb; subst hb; simp [fp_some]) rfl hrn (by rw [him] at hown2; unfold cleanIt; exact him ▸ hown2)
      rw [mixA_set (cleaned_length its) hlt (cleaned_get hit)] at hst
      have HST := Lib.hid hst
      have kk : Kept w _ := honly.above hkept (fun b hb => by rw [List.mem_singleton] at hb; subst hb; exact hg2)
      have KK := Lib.hid kk
      have hkl : (k : Int) < (its.length : Int) := by omega
      clear ho hmx hit hc q0 q2 f0 f1 f2 hst kk honly hown2 rn rm hnd hrn hib him
      go_wp2_with fail
      go_roundw
      case rel => exact ⟨k + 1, by omega, by go_num, HST.out, KK.out⟩
      case measure => simp [intOf]; omega
    · obtain rfl : k = its.length := by omega
      have HOE : Hid (OwnC wr w.heap.size (.slice Ag its.length cg) (cleaned its) cs) := Lib.hid (by have q := ho; rw [List.take_of_length_le (by rw [cleaned_length]; exact Nat.le_refl _), List.drop_length, List.append_nil] at q; exact q)
      clear ho
      go_wp2_with fail
      go_ret
      exact ⟨_, cs, rfl, HOE.out, hkept⟩
set_option maxHeartbeats 2000000 in
theorem implCleanItems_any (v0 : Value) (its : List ItemD) (w : World) (h0 : ItemsAt w v0 its)  :
    Calls Tryz.prog 27 #[v0] w fun e w' => ∃ v' S, e = .returned (.tuple #[v', .bool (itemsB its)]) ∧ OwnL w' w.heap.size v' (onT (itemsB its) (cleaned its)) S ∧ Kept w w' := by
  have H0 := Lib.hid h0
  obtain ⟨A0, c0, cs0, rfl, hnc0, hcm0, hA0⟩ := h0.out; have HA0 := Lib.hid hA0; clear hA0 h0; unfold maxLen at hcm0
  go_enter Tryz.func27, Tryz.ntmps27
  have K0 := Kept.refl w
  go_wp2_with fail
  refine (areItems_any _ its _ (H0.out.kept K0)).mono ?_
  rintro e w1 ⟨rfl, k1⟩
  have sz1 := k1.size
  have K1 := K0.trans k1
  by_cases hb : itemsB its = true
  case neg =>
    simp only [Bool.not_eq_true] at hb
    rw [hb]
    have HO := Lib.hid hb
    clear hb
    go_wp2_with fail
    go_ret2
    exact ⟨_, _, ret_vb3 HO.out.symm, by rw [HO.out]; exact nilL _ _, K1⟩
  rw [hb]
  have HB := Lib.hid hb
  have hl14 := (itemsB_true hb).1
  have HV : Hid (its.all itemB = true) := Lib.hid (List.all_eq_true.2 (fun it hi => (itemsB_true hb).2 it hi))
  clear hb
  go_wp2_with fail
  refine (cleanItems_any _ its _ (H0.out.kept K1) HV.out (by omega)).mono ?_
  rintro e w2 ⟨v2, cs, rfl, o2, k2⟩
  have sz2 := k2.size
  have K2 := K1.trans k2
  have HO := Lib.hid o2
  clear o2
  go_wp2_with fail
  go_ret2
  exact ⟨_, _, ret_vb3 HB.out.symm, by rw [HB.out]; exact (HO.out.base K1.size).toL, K2⟩
end Go.Proofs.YtkekpolfdmmgeaaGreatDoor

/- CleanItems, MarkLate: the laws. -/
namespace Go.Proofs.YtkekpolfdmmgeaaGreatDoor
set_option linter.unusedVariables false
set_option linter.unusedSimpArgs false
open Go.RowKit

theorem nameB_size {z : ByteArray} (h : nameB z = true) : z.size ≤ 5 := by
  unfold nameB at h
  simp only [Bool.and_eq_true] at h
  have := inB_true h.2
  omega
theorem item_size21 {it : ItemD} (h : itemB it = true) : it.size ≤ 21 := by
  have h1 := itemB_true h
  unfold ItemD.size strsSize
  have h2 := sum_le_mul (it.names.map ByteArray.size) 5 (by
    intro x hx
    obtain ⟨z, hz, rfl⟩ := List.mem_map.1 hx
    exact nameB_size (h1.1 z hz))
  rw [List.length_map] at h2
  omega
theorem items_size {its : List ItemD} (h : its.all itemB = true) : itemsSize its ≤ its.length * 22 := by
  unfold itemsSize
  have h2 := sum_le_mul (its.map ItemD.size) 21 (by
    intro x hx
    obtain ⟨it, hi, rfl⟩ := List.mem_map.1 hx
    exact item_size21 (List.all_eq_true.1 h it hi))
  rw [List.length_map] at h2
  omega
theorem onT_size {b : Bool} {l : List ItemD} {n : Nat} (h : b = true → itemsSize l ≤ n) : itemsSize (onT b l) ≤ n := by cases b with | true => exact h rfl | false => exact Nat.zero_le _
theorem lated_itemB {its : List ItemD} (h : its.all itemB = true) : (lated its).all itemB = true := by
  rw [List.all_eq_true]
  intro x hx
  obtain ⟨k, hk⟩ := List.getElem?_of_mem hx
  have hlt : k < its.length := by have := (List.getElem?_eq_some_iff.1 hk).1; rwa [lated_length] at this
  rw [lated_get (List.getElem?_eq_getElem hlt)] at hk
  injection hk with hk
  subst hk
  exact List.all_eq_true.1 h its[k] (List.getElem_mem hlt)
theorem cleaned_itemB {its : List ItemD} (h : its.all itemB = true) : (cleaned its).all itemB = true := by
  rw [List.all_eq_true]
  intro x hx
  unfold cleaned at hx
  obtain ⟨it, hi, rfl⟩ := List.mem_map.1 hx
  have h1 := List.all_eq_true.1 h it hi
  unfold itemB at h1 ⊢
  simp only [Bool.and_eq_true] at h1 ⊢
  refine ⟨⟨⟨h1.1.1.1, h1.1.1.2⟩, by simp [cleanIt]⟩, ?_⟩
  rw [List.all_eq_true]
  intro m hm
  have : m = 0 := List.eq_of_mem_replicate hm
  subst this
  rfl
theorem all_of {its : List ItemD} (h : itemsB its = true) : its.all itemB = true := List.all_eq_true.2 (fun it hi => (itemsB_true h).2 it hi)
end Go.Proofs.YtkekpolfdmmgeaaGreatDoor

/- Names of a list of items. -/
namespace Go.Proofs.YtkekpolfdmmgeaaGreatDoor
set_option linter.unusedVariables false
set_option linter.unusedSimpArgs false
open Go.RowKit

def allN (its : List ItemD) : List ByteArray := its.flatMap ItemD.names
def niV (its : List ItemD) : List ByteArray := if itemsB its then namesD (allN its) else []
theorem niV_yes {its : List ItemD} (h : itemsB its = true) : niV its = namesD (allN its) := by unfold niV; rw [h]; rfl
theorem niV_no {its : List ItemD} (h : itemsB its = false) : niV its = [] := by unfold niV; rw [h]; rfl
theorem allN_snoc {its : List ItemD} {k : Nat} {it : ItemD} (h : its[k]? = some it) : allN (its.take (k + 1)) = allN (its.take k) ++ it.names := by
  unfold allN
  rw [take_snoc h, List.flatMap_append]
  simp
theorem allN_len : ∀ {its : List ItemD}, (∀ it ∈ its, itemB it = true) → (allN its).length ≤ 3 * its.length
  | [], _ => by simp [allN]
  | it :: t, h => by
    have h1 := allN_len (its := t) (fun x hx => h x (List.mem_cons_of_mem _ hx))
    have h2 := (itemB_true (h it (by simp)))
    have h3 : it.names.length ≤ 3 := by have := h2.2.2.1; omega
    unfold allN at *
    rw [List.flatMap_cons, List.length_append, List.length_cons]
    omega
end Go.Proofs.YtkekpolfdmmgeaaGreatDoor
