/- Contracts of functions that the proof leans on. No condition. -/
import Derived.Test.YtkekpolfdmmgeaaGreatDoorMf9afe74902
/- Lists of items: reading their text, both sides. -/
namespace Go.Proofs.YtkekpolfdmmgeaaGreatDoor
set_option linter.unusedVariables false
set_option linter.unusedSimpArgs false
set_option linter.unnecessarySimpa false
open Go.RowKit Go.Lib

theorem lnOk_split (s : List UInt8) : ∃ L x, splitOn 10 s = L ++ [x] ∧ lns s = L ∧ (lnOk s = true ↔ x = []) := by
  induction s using snocInd with
  | h0 => exact ⟨[], [], rfl, rfl, by simp [lnOk]⟩
  | h1 p c _ =>
    by_cases h : c = 10
    · subst h
      refine ⟨splitOn 10 p, [], splitOn_snoc _ _, by rw [lns_snoc], ?_⟩
      rw [lnOk_snoc]
      simp
    · obtain ⟨L, x, e⟩ := splitOn_last (b := 10) (p := p) h
      refine ⟨L, x ++ [c], e, by unfold lns; rw [e, List.dropLast_concat], ?_⟩
      rw [lnOk_snoc]
      simp [h]
def lnsB (s : ByteArray) : List ByteArray := (lns s.data.toList).map tx
theorem lnsB_split (s : ByteArray) : ∃ x : ByteArray, spB 10 s = lnsB s ++ [x] ∧ (lnOk s.data.toList = true ↔ x = ⟨#[]⟩) := by
  obtain ⟨L, x, e, h1, h2⟩ := lnOk_split s.data.toList
  refine ⟨tx x, by unfold spB lnsB; rw [e, h1, List.map_append]; rfl, ?_⟩
  rw [h2]
  constructor
  · intro h; rw [h]; rfl
  · intro h; exact tx_inj h
theorem lnsB_sz {s z : ByteArray} (h : z ∈ lnsB s) : z.size ≤ s.size := by
  obtain ⟨x, e, _⟩ := lnsB_split s
  exact spB_sz (b := 10) (by rw [e]; exact List.mem_append_left _ h)
theorem lnsB_le (s : ByteArray) : (lnsB s).length ≤ s.size := by
  obtain ⟨x, e, _⟩ := lnsB_split s
  have := spB_le 10 s
  rw [e, List.length_append] at this
  simp at this
  omega
def psB (s : ByteArray) : Bool := psOk s.data.toList
def psL (s : ByteArray) : List ItemD := psV s.data.toList
def itsB (s : ByteArray) : List ItemD := (lnsB s).map fun l => itP l.data.toList
theorem itsB_len (s : ByteArray) : (itsB s).length = (lnsB s).length := by simp [itsB]
theorem itsB_snoc {s z : ByteArray} {k : Nat} (h : (lnsB s)[k]? = some z) : (itsB s).take (k + 1) = (itsB s).take k ++ [itP z.data.toList] := take_snoc (by unfold itsB; rw [List.getElem?_map, h]; rfl)
theorem psB_eq (s : ByteArray) : psB s = (lnOk s.data.toList && (decide ((lnsB s).length ≤ 14) && (lnsB s).all piB)) := by
  unfold psB psOk lnsB
  rw [List.length_map, List.all_map]
  rfl
theorem psL_yes {s : ByteArray} (h : psB s = true) : psL s = itsB s := by
  unfold psB at h
  unfold psL psV itsB lnsB
  rw [if_pos h, List.map_map]
  rfl
theorem psL_no {s : ByteArray} (h : psB s = false) : psL s = [] := by
  unfold psB at h
  unfold psL psV
  rw [h]
  rfl
theorem psB_open {s : ByteArray} (h : lnOk s.data.toList = false) : psB s = false := by rw [psB_eq, h]; rfl
theorem psB_many {s : ByteArray} (h : ¬ (lnsB s).length ≤ 14) : psB s = false := by rw [psB_eq, decide_eq_false h]; simp
theorem psB_bad {s z : ByteArray} {k : Nat} (h : (lnsB s)[k]? = some z) (hz : piB z = false) : psB s = false := by rw [psB_eq, all_not h hz]; simp
theorem psB_full {s : ByteArray} (h1 : lnOk s.data.toList = true) (h2 : (lnsB s).length ≤ 14) (h3 : (lnsB s).all piB = true) : psB s = true := by rw [psB_eq, h1, decide_eq_true h2, h3]; rfl
theorem psL_len (s : ByteArray) : (psL s).length ≤ 14 ∧ itemsB (psL s) = true := by
  cases h : psB s with
  | true =>
    rw [psL_yes h]
    rw [psB_eq] at h
    simp only [Bool.and_eq_true, decide_eq_true_eq] at h
    refine ⟨by rw [itsB_len]; exact h.2.1, ?_⟩
    unfold itemsB itsB
    rw [List.all_map, List.length_map]
    simp only [Bool.and_eq_true]
    exact ⟨h.2.2, by have := h.2.1; simp; omega⟩
  | false => rw [psL_no h]; exact ⟨by decide, rfl⟩
def PsPost (s : ByteArray) (w : World) (e : Ending) (w' : World) : Prop := ∃ v' S, e = .returned (.tuple #[v', .bool (psB s)]) ∧ OwnL w' w.heap.size v' (psL s) S ∧ Kept w w'
theorem PsPost.no {s : ByteArray} {w w' : World} (h : psB s = false) (k : Kept w w') : PsPost s w (.returned (.tuple #[.slice none 0 0, .bool false])) w' :=
  ⟨_, _, by rw [h], by rw [psL_no h]; exact (OwnC.nil0 _ _).toL, k⟩
theorem PsPost.yes {s : ByteArray} {base : Nat} {w w' : World} {v : Value} {cs : List (Value × Value)} (h : psB s = true) (k : Kept w w') (hb : w.heap.size ≤ base) (o : OwnC w' base v (itsB s) cs) : PsPost s w (.returned (.tuple #[v, .bool true])) w' :=
  ⟨_, _, by rw [h], by rw [psL_yes h]; exact (o.base hb).toL, k⟩
def LnPost (s : ByteArray) (w : World) (e : Ending) (w' : World) : Prop := ∃ v', e = .returned (.tuple #[v', .bool (lnOk s.data.toList)]) ∧ (lnOk s.data.toList = true → OwnS w' w.heap.size v' (lnsB s)) ∧ (lnOk s.data.toList = false → v' = .slice none 0 0) ∧ Kept w w'
theorem snoc_ext {s : ByteArray} (h : 0 < s.size) : ∃ p, s.data.toList = p ++ [s[s.size - 1]] ∧ (s.extract 0 (s.size - 1)).data.toList = p := by
  have hne : s.data.toList ≠ [] := by intro e; rw [size_eq, e] at h; simp at h
  have hg := byte_get s (s.size - 1) (by omega)
  have e1 := (List.dropLast_concat_getLast hne).symm
  have hl : s.data.toList.getLast hne = s[s.size - 1] := by
    rw [List.getLast_eq_getElem]
    have := (List.getElem?_eq_some_iff.1 hg).2
    rw [← this]
    congr 1
  refine ⟨s.data.toList.dropLast, by rw [← hl]; exact e1, ?_⟩
  rw [pc_ext, tx_data]
  unfold pc
  rw [List.drop_zero, List.dropLast_eq_take, size_eq]
set_option maxHeartbeats 4000000 in
theorem linesOf_any (s : ByteArray) (w : World) (hs : s.size ≤ 1048576) (hmx : HasMax w) :
    Calls Tryz.prog 67 #[.string s] w fun e w' => LnPost s w e w' := by
  have HMX := Lib.hid hmx
  clear hmx
  by_cases h0 : s.size = 0
  · have hd : s.data.toList = [] := List.eq_nil_of_length_eq_zero (by rw [← size_eq]; exact h0)
    have he : s.toList.isEmpty = true := by rw [toList_data, hd]; rfl
    have HP : Hid (∀ w' : World, Kept w w' → Box w' w.heap.size 9 #[] → LnPost s w (.returned (.tuple #[.slice (some ⟨w.heap.size, 0, none⟩) 0 0, .bool true])) w') := Lib.hid (fun w' k b => ⟨_, by rw [hd]; rfl, fun _ => by unfold lnsB; rw [hd, lns_nil]; exact ⟨own_made _ _ 1 (Nat.le_refl _) b, fun _ h => by cases h⟩, fun h => (by rw [hd] at h; cases h), k⟩)
    clear hd h0
    go_enter Tryz.func67, Tryz.ntmps67
    go_wp2_with fail
    go_ret2
    exact HP.out _ ((Kept.refl w).alloc _) (Box.new w _ _ _ rfl)
  · have hp : 0 < s.size := by omega
    obtain ⟨p, hp1, hp2⟩ := snoc_ext hp
    have he : s.toList.isEmpty = false := by
      rw [toList_data, hp1]
      cases p <;> rfl
    have hln : lnOk s.data.toList = (s[s.size - 1] == 10) := by rw [hp1, lnOk_snoc]
    have hp' : (0 : Int) ≤ (s.size : Int) - 1 := by omega
    have hp3 : (s.size : Int) - 1 < (s.size : Int) := by omega
    have hp4 : (1 : Int) ≤ (s.size : Int) := by omega
    by_cases hc : s[s.size - 1].toNat = 10
    · have hc' : s[s.size - 1] = 10 := UInt8.toNat_inj.1 hc
      have hb : ((s[s.size - 1].toNat : Int) != 10) = false := by simp [hc]
      have hb2 : ((s[s.size - 1].toNat : Int) == 10) = true := by simp [hc]
      obtain ⟨t, ht⟩ : ∃ t, s.extract 0 (s.size - 1) = t := ⟨_, rfl⟩
      rw [ht] at hp2
      have htl : spB 10 t = lnsB s := by
        unfold spB lnsB
        rw [hp2, hp1, hc', lns_snoc]
      have hts : t.size ≤ 1048576 := by
        have e1 := congrArg List.length hp1
        rw [← hp2, List.length_append, ← size_eq, ← size_eq] at e1
        simp at e1
        omega
      have CS : Hid (∀ w0 : World, HasMax w0 → Calls Tryz.prog 91 #[.string t, .string ⟨#[10]⟩] w0 fun e w' => ∃ cap, e = .returned (.slice (some ⟨w0.heap.size, 0, none⟩) (spB 10 t).length cap) ∧ OwnS w' w0.heap.size (.slice (some ⟨w0.heap.size, 0, none⟩) (spB 10 t).length cap) (spB 10 t) ∧ Kept w0 w') := Lib.hid (fun w0 h => split_any t 10 w0 hts h)
      have HP : Hid (∀ (w' : World) (v : Value), Kept w w' → OwnS w' w.heap.size v (spB 10 t) → LnPost s w (.returned (.tuple #[v, .bool true])) w') := Lib.hid (fun w' v k o => by
        have e : lnOk s.data.toList = true := by rw [hln, hc']; rfl
        exact ⟨v, by rw [e], fun _ => htl ▸ o, fun h => (by rw [e] at h; cases h), k⟩)
      clear hc hc' hln hp1 hp2 htl hts h0
      go_enter Tryz.func67, Tryz.ntmps67
      go_wp2_with fail
      refine (CS.out _ HMX.out).mono ?_
      rintro e w1 ⟨cap, rfl, o1, k1⟩
      go_wp2_with fail
      go_ret2
      exact HP.out _ _ k1 o1
    · have hb : ((s[s.size - 1].toNat : Int) != 10) = true := by simp; omega
      have hb2 : ((s[s.size - 1].toNat : Int) == 10) = false := by simp; omega
      have HP : Hid (∀ w' : World, Kept w w' → LnPost s w (.returned (.tuple #[.slice none 0 0, .bool false])) w') := Lib.hid (fun w' k => by
        have e : lnOk s.data.toList = false := by
          rw [hln, beq_eq_false_iff_ne]
          intro e
          exact hc (by rw [e]; rfl)
        exact ⟨_, by rw [e], fun h => (by rw [e] at h; cases h), fun _ => rfl, k⟩)
      clear hc hln hp1 hp2 h0
      go_enter Tryz.func67, Tryz.ntmps67
      go_wp2_with fail
      go_ret2
      exact HP.out _ (Kept.refl w)
set_option maxRecDepth 100000 in
set_option maxHeartbeats 16000000 in
theorem implParseItems_any (s : ByteArray) (w : World) (hs : s.size ≤ 1048576) (hsg : HasSigns w) (hmx : HasMax w) :
    Calls Tryz.prog 26 #[.string s] w fun e w' => PsPost s w e w' := by
  have HSG := Lib.hid hsg
  have CS := Lib.hid (linesOf_any s w hs hmx)
  have HMX := Lib.hid hmx
  clear hsg hmx
  have hle := lnsB_le s
  go_enter Tryz.func26, Tryz.ntmps26
  go_wp2_with fail
  refine (CS.out).mono ?_
  rintro e w1 ⟨v1, rfl, hy1, hn1, k1⟩
  have KW := Lib.hid k1
  have sz1 := k1.size
  have HMX1 := Lib.hid (HMX.out.kept k1)
  have HSG1 := Lib.hid (HSG.out.kept k1)
  clear k1
  cases hln : lnOk s.data.toList with
  | false =>
    have HN : Hid (psB s = false) := Lib.hid (psB_open hln)
    obtain rfl := hn1 hln
    clear hy1 hn1 hln
    go_wp2_with fail
    go_ret2
    exact PsPost.no HN.out KW.out
  | true =>
    have o1 := hy1 hln
    have HLN := Lib.hid hln
    clear hy1 hn1 hln
    obtain ⟨g, cap, rfl, hc1, hc2⟩ : ∃ (A : Option Addr) (cap : Nat), v1 = .slice A (lnsB s).length cap ∧ (lnsB s).length ≤ cap ∧ cap ≤ maxLen := by
      obtain ⟨A, c, e, h1, h2, _⟩ := own_form o1.1
      exact ⟨A, c, e, h1, h2⟩
    unfold maxLen at hc2
    have OL := Lib.hid o1.strs
    clear o1
    by_cases h14 : (lnsB s).length ≤ 14
    case neg =>
      have HN : Hid (psB s = false) := Lib.hid (psB_many h14)
      have h15 : (14 : Int) < ((lnsB s).length : Int) := by omega
      go_wp2_with fail
      go_ret2
      exact PsPost.no HN.out KW.out
    have h15 : ¬ (14 : Int) < ((lnsB s).length : Int) := by omega
    have HL14 := Lib.hid h14
    go_wp2_with fail
    have HQ0 : Hid (OwnC (w1.alloc (.cells #[] 64)) w1.heap.size (.slice (some ⟨w1.heap.size, 0, none⟩) 0 0) ((itsB s).take 0) []) := Lib.hid (OwnC.made _ (Nat.le_refl _) (Box.new _ _ _ _ rfl))
    have KQ0 : Hid (Kept w1 (w1.alloc (.cells #[] 64))) := Lib.hid ((Kept.refl w1).alloc _)
    have BL : Hid (w1.heap.size ≤ w1.heap.size) := Lib.hid (Nat.le_refl _)
    have KB0 : Hid (w.heap.size ≤ w1.heap.size) := Lib.hid sz1
    go_loopw [26, 6] (fun i q wr => ∃ (k : Nat) (cs : List (Value × Value)), k ≤ (lnsB s).length ∧ i = .int .i64 k ∧ OwnC wr w1.heap.size q ((itsB s).take k) cs ∧ ((lnsB s).take k).all piB = true ∧ Kept w1 wr) (fun i _ _ => (lnsB s).length - (RowKit.intOf i).toNat)
    case atStart => exact ⟨0, [], Nat.zero_le _, rfl, HQ0.out, rfl, KQ0.out⟩
    case round =>
      clear HQ0 KQ0
      obtain ⟨k, cs, hk, rfl, oq, hall, hkept⟩ := hrel
      have HAL := Lib.hid hall
      have HO := Lib.hid oq
      have FO := Lib.hid oq.fps
      have szr := hkept.size
      have HKL := Lib.hid (itsB_len s)
      obtain ⟨Aq, cq, eq, hnq, hcq, _⟩ := own_form oq.2.1
      have hkk : ((itsB s).take k).length = k := by rw [List.length_take, HKL.out]; omega
      rw [hkk] at eq
      clear hkk
      clear hall oq hnq hcq
      by_cases hlt : k < (lnsB s).length
      · obtain ⟨b0, i0, z, e0, hb0, hz0, hx0⟩ := strs_at (k := k) (OL.out.kept hkept).1.addr hlt
        subst e0
        have hzs := lnsB_sz (List.mem_of_getElem? hz0)
        have HZ := Lib.hid hz0
        have HSN := Lib.hid (itsB_snoc hz0)
        clear hz0
        go_wp2_with fail
        refine (implParseItem_any z _ (by omega) (HSG1.out.kept hkept) (HMX1.out.kept hkept)).mono ?_
        rintro e w3 ⟨v3, rfl, o3, k3⟩
        have sz3 := k3.size
        cases hpb : piB z with
        | false =>
          have HN := Lib.hid (psB_bad HZ.out hpb)
          obtain ⟨n3, m3, rfl, p3, q3, nd3⟩ := o3
          obtain ⟨An, cn, rfl, _⟩ := own_form p3.1
          obtain ⟨Am, cm, rfl, _⟩ := own_form q3
          clear p3 q3 nd3 hpb
          go_wp2_with fail
          go_ret2
          exact PsPost.no HN.out (KW.out.trans ((hkept.trans k3).alloc _))
        | true =>
          have HPB := Lib.hid hpb
          have HAN := Lib.hid (all_snoc HZ.out HAL.out hpb)
          rw [piV_yes hpb] at o3
          obtain ⟨it, hit⟩ : ∃ it, it = itP z.data.toList := ⟨_, rfl⟩
          rw [← hit] at o3 HSN
          clear hit hpb
          obtain ⟨n3, m3, rfl, p3, q3, nd3⟩ := o3
          obtain ⟨An, cn, rfl, _⟩ := own_form p3.1
          obtain ⟨Am, cm, rfl, _⟩ := own_form q3
          rw [fpA_item] at nd3
          have P3 := Lib.hid p3
          have Q3 := Lib.hid q3
          have ND3 := Lib.hid nd3
          clear p3 q3 nd3
          have htl : ((itsB s).take k).length ≤ 1000 := by rw [List.length_take]; have := HKL.out; omega
          subst eq
          go_upto_region 11 with (fail)
          obtain ⟨wb, hwb⟩ : ∃ x : World, x = w3.alloc (.cells #[.slice An it.names.length cn, .slice Am it.marks.length cm, .bool it.late] 64) := ⟨_, rfl⟩
          rw [← hwb]
          have KB : Kept w3 wb := hwb ▸ (Kept.refl w3).alloc _
          have BB : Box wb w3.heap.size 64 #[.slice An it.names.length cn, .slice Am it.marks.length cm, .bool it.late] := hwb ▸ Box.new w3 _ _ _ rfl
          clear hwb
          have szb := KB.size
          have hbl := BB.lt
          obtain ⟨xb, yb⟩ := BB.three
          have k3b := k3.trans KB
          have kcc : Kept wr (wb.alloc (.cells #[.slice An it.names.length cn, .slice Am it.marks.length cm, .bool it.late] 64)) := k3b.alloc _
          have HOk := Lib.hid (HO.out.kept kcc)
          go_wp2_with (at_builtin; refine wpList_append_T _ rfl _ _ rfl w1.heap.size _ _ _ rfl HOk.out.2.1 wb.heap.size (.slice An it.names.length cn) (.slice Am it.marks.length cm) (.bool it.late) rfl (Box.new _ _ _ _ rfl) ⟨rfl, rfl, rfl⟩ (by omega) (by have := hkept.size; have := BL.out; simp; omega) ?_; intro v4 w4 o4 g4 h4)
          have kd := KB.alloc (.cells #[.slice An it.names.length cn, .slice Am it.marks.length cm, .bool it.late] 64)
          have hpush := OwnC.push (it := it) HOk.out ⟨own_base (P3.out.kept kd).1 (by have := BL.out; omega), P3.out.2⟩ (own_base (own_kept Q3.out kd) (by have := BL.out; omega)) ND3.out (fun b hb hb' => by
            have h1 := (FO.out b hb').2
            rcases List.mem_append.1 hb with hb | hb
            · have := (own_fp P3.out.1 b hb).1; omega
            · have := (own_fp Q3.out b hb).1; omega) o4 g4 h4
          have kg : Kept w1 w4 := (hkept.trans kcc).grew HOk.out.2.1 g4 BL.out
          have HPU := Lib.hid hpush
          clear hpush o4 g4 h4
          go_wp2_with fail
          go_roundw
          case rel => exact ⟨k + 1, _, by omega, by go_num, by rw [HSN.out]; exact HPU.out, HAN.out, kg⟩
          case measure => simp [RowKit.intOf]; omega
      · obtain rfl : k = (lnsB s).length := by omega
        have HOE : Hid (OwnC wr w1.heap.size _ (itsB s) cs) := Lib.hid (by have := HO.out; rw [← HKL.out, List.take_length] at this; exact this)
        have HY := Lib.hid (psB_full HLN.out HL14.out (by have := HAL.out; rw [List.take_length] at this; exact this))
        go_wp2_with fail
        go_ret2
        exact PsPost.yes HY.out (KW.out.trans hkept) KB0.out HOE.out
end Go.Proofs.YtkekpolfdmmgeaaGreatDoor

/- Codes, plain: what the readers of a code's text compute. -/
namespace Go.Proofs.YtkekpolfdmmgeaaGreatDoor
set_option linter.unusedVariables false
set_option linter.unusedSimpArgs false
open Go.Lib

def wdS (l : List UInt8) : List UInt8 := (splitOn 32 l).headD []
def hdS (l : List UInt8) : List Int := (splitOn 32 l).tail.map rd6
def rdI (l : List UInt8) : Option (List Int) := readInts (splitOn 32 l).tail
def mkE (w : List UInt8) (ns : List Int) : ElemD := ⟨tx w, ns.getD 0 0, ns.getD 1 0, ns.getD 2 0⟩
def elS (l : ByteArray) : ElemD := mkE (wdS l.data.toList) (hdS l.data.toList)
def elI (l : ByteArray) : ElemD := mkE (wdS l.data.toList) ((rdI l.data.toList).getD [])
def mkC (es : List ElemD) (lim h : List Int) : CodeD := ⟨es, lim, h.getD 0 0, h.getD 1 0, h.getD 2 0, h.getD 3 0⟩
theorem words_form (l : List UInt8) : splitOn 32 l = wdS l :: (splitOn 32 l).tail := by
  unfold wdS
  cases h : splitOn 32 l with
  | nil => exact absurd h (splitOn_ne _ _)
  | cons a t => rfl
theorem line_S {w : List UInt8} {ns : List Int} (hw : 32 ∉ w) (hn : ∀ n ∈ ns, 0 ≤ n ∧ n < 1000000) : wdS (lineL w ns) = w ∧ hdS (lineL w ns) = ns ∧ rdI (lineL w ns) = some ns := by
  unfold wdS hdS rdI
  rw [line_words hw]
  exact ⟨rfl, rd6s_num hn, readInts_num hn⟩
theorem line_I {l : List UInt8} {ns : List Int} (h : rdI l = some ns) (h0 : ∀ n ∈ ns, 0 ≤ n) : l = lineL (wdS l) ns := by
  refine line_of_words ?_
  conv => lhs; rw [words_form l]
  rw [nums_of_readInts h h0]
theorem of_code {c : CodeD} {s : ByteArray} (h : codeB c = true) (e : cdTxt c = s.data.toList) : lnsB s = (cdLines c).map tx ∧ lnOk s.data.toList = true := by
  have h1 := cd_lines h
  rw [e] at h1
  obtain ⟨L, x, e1, e2, e3⟩ := lnOk_split s.data.toList
  rw [h1] at e1
  obtain ⟨a, b⟩ := List.append_inj' e1 rfl
  injection b with b
  refine ⟨by unfold lnsB; rw [e2, ← a], e3.2 b.symm⟩
theorem small_of {c : CodeD} (h : codeB c = true) : (∀ n ∈ [c.repeats, c.bonus, c.keeps, c.fall], 0 ≤ n ∧ n < 1000000) ∧ (∀ n ∈ c.limits, 0 ≤ n ∧ n < 1000000) ∧ ∀ y ∈ c.elems, (∀ n ∈ [y.family, y.level, y.base], 0 ≤ n ∧ n < 1000000) ∧ 32 ∉ y.name.data.toList := by
  obtain ⟨h1, h2, h3, h4, h5, h6, h7, h8⟩ := code_of h
  refine ⟨fun n hn => ?_, fun n hn => by have := h3 n hn; omega, fun y hy => ?_⟩
  · simp at hn; omega
  · obtain ⟨a, b, c, d⟩ := h8 y hy
    refine ⟨fun n hn => ?_, (name_bytes a).1⟩
    simp at hn; omega
/-- what a good code's lines give either reader -/
theorem code_lines {c : CodeD} {s : ByteArray} (h : codeB c = true) (e : cdTxt c = s.data.toList) :
    ∃ z0 z1 rest, lnsB s = z0 :: z1 :: rest ∧ rest.length = c.elems.length ∧
      (wdS z0.data.toList = codeW ∧ hdS z0.data.toList = [c.repeats, c.bonus, c.keeps, c.fall] ∧ rdI z0.data.toList = some [c.repeats, c.bonus, c.keeps, c.fall]) ∧
      (wdS z1.data.toList = limitsW ∧ hdS z1.data.toList = c.limits ∧ rdI z1.data.toList = some c.limits) ∧
      (∀ z ∈ rest, (hdS z.data.toList).length = 3 ∧ ∃ ns, rdI z.data.toList = some ns ∧ ns.length = 3) ∧ rest.map elS = c.elems ∧ rest.map elI = c.elems := by
  obtain ⟨e1, _⟩ := of_code h e
  obtain ⟨s1, s2, s3⟩ := small_of h
  have hE : ∀ y ∈ c.elems, wdS (elemL y) = y.name.data.toList ∧ hdS (elemL y) = [y.family, y.level, y.base] ∧ rdI (elemL y) = some [y.family, y.level, y.base] := fun y hy => line_S (s3 y hy).2 (s3 y hy).1
  refine ⟨tx (lineL codeW [c.repeats, c.bonus, c.keeps, c.fall]), tx (lineL limitsW c.limits), (c.elems.map elemL).map tx, ?_, by simp, line_S (by decide) s1, line_S (by decide) s2, ?_, ?_, ?_⟩
  · rw [e1]; rfl
  · intro z hz
    rw [List.map_map] at hz
    obtain ⟨y, hy, rfl⟩ := List.mem_map.1 hz
    obtain ⟨a, b, d⟩ := hE y hy
    exact ⟨by show (hdS (elemL y)).length = 3; rw [b]; rfl, _, d, rfl⟩
  · rw [List.map_map, List.map_map]
    conv => rhs; rw [← List.map_id c.elems]
    refine List.map_congr_left fun y hy => ?_
    obtain ⟨a, b, d⟩ := hE y hy
    show mkE (wdS (elemL y)) (hdS (elemL y)) = y
    rw [a, b]
    unfold mkE
    rw [tx_of]
    rfl
  · rw [List.map_map, List.map_map]
    conv => rhs; rw [← List.map_id c.elems]
    refine List.map_congr_left fun y hy => ?_
    obtain ⟨a, b, d⟩ := hE y hy
    show mkE (wdS (elemL y)) ((rdI (elemL y)).getD []) = y
    rw [a, d]
    unfold mkE
    rw [tx_of]
    rfl
theorem ended_lns {s : ByteArray} (h : lnOk s.data.toList = true) : ended (lns s.data.toList) = s.data.toList := by
  obtain ⟨L, x, e1, e2, e3⟩ := lnOk_split s.data.toList
  obtain rfl := e3.1 h
  have hj := splitOn_join 10 s.data.toList
  rw [e1] at hj
  rw [e2]
  cases L with
  | nil =>
    have : Lib.join [([] : List UInt8)] [10] = [] := join_one _ _
    rw [← hj]
    exact this.symm
  | cons a t =>
    rw [ended_join (by simp), ← hj, join_snoc _ _ _ (by simp)]
    simp
theorem list3 {ns : List Int} (h : ns.length = 3) : ns = [ns.getD 0 0, ns.getD 1 0, ns.getD 2 0] := by
  match ns, h with
  | [a, b, c], _ => rfl
theorem list4 {ns : List Int} (h : ns.length = 4) : ns = [ns.getD 0 0, ns.getD 1 0, ns.getD 2 0, ns.getD 3 0] := by
  match ns, h with
  | [a, b, c, d], _ => rfl
/-- what the program reads as a good code has that code's text -/
theorem text_I {s z0 z1 : ByteArray} {rest : List ByteArray} {n0 n1 : List Int} (hok : lnOk s.data.toList = true) (hl : lnsB s = z0 :: z1 :: rest)
    (w0 : wdS z0.data.toList = codeW) (r0 : rdI z0.data.toList = some n0) (l0 : n0.length = 4) (w1 : wdS z1.data.toList = limitsW) (r1 : rdI z1.data.toList = some n1)
    (hr : ∀ z ∈ rest, ∃ ns, rdI z.data.toList = some ns ∧ ns.length = 3) (hc : codeB (mkC (rest.map elI) n1 n0) = true) : cdTxt (mkC (rest.map elI) n1 n0) = s.data.toList := by
  obtain ⟨s1, s2, s3⟩ := small_of hc
  have hn0 : [(mkC (rest.map elI) n1 n0).repeats, (mkC (rest.map elI) n1 n0).bonus, (mkC (rest.map elI) n1 n0).keeps, (mkC (rest.map elI) n1 n0).fall] = n0 := (list4 l0).symm
  have e0 : z0.data.toList = lineL codeW n0 := by
    have := line_I r0 (fun n hn => (s1 n (by rw [hn0]; exact hn)).1)
    rw [w0] at this
    exact this
  have e1 : z1.data.toList = lineL limitsW n1 := by
    have := line_I r1 (fun n hn => (s2 n hn).1)
    rw [w1] at this
    exact this
  have e2 : (rest.map elI).map elemL = rest.map fun z => z.data.toList := by
    rw [List.map_map]
    refine List.map_congr_left fun z hz => ?_
    obtain ⟨ns, h1, h2⟩ := hr z hz
    have h3 := (s3 (elI z) (List.mem_map_of_mem hz)).1
    have e3 : elI z = mkE (wdS z.data.toList) ns := by unfold elI; rw [h1]; rfl
    have e4 : [(elI z).family, (elI z).level, (elI z).base] = ns := by rw [e3]; exact (list3 h2).symm
    have h4 := line_I h1 (fun n hn => (h3 n (by rw [e4]; exact hn)).1)
    show lineL (elI z).name.data.toList [(elI z).family, (elI z).level, (elI z).base] = z.data.toList
    rw [e4, h4, e3]
    rfl
  have e5 : lns s.data.toList = (lnsB s).map fun z => z.data.toList := by
    unfold lnsB
    rw [List.map_map]
    conv => lhs; rw [← List.map_id (lns s.data.toList)]
    rfl
  rw [← ended_lns hok, e5, hl]
  unfold cdTxt cdLines
  rw [hn0]
  show ended (lineL codeW n0 :: lineL limitsW n1 :: (rest.map elI).map elemL) = _
  rw [e2, ← e0, ← e1]
  rfl
theorem IsPC.same {s : List UInt8} {c c' : CodeD} {ok ok' : Bool} (h : IsPC s c ok) (h' : IsPC s c' ok') (hi : ∀ c c' : CodeD, codeB c = true → codeB c' = true → cdTxt c = s → cdTxt c' = s → c = c') : c = c' ∧ ok = ok' := by
  rcases h with ⟨rfl, g, e⟩ | ⟨rfl, rfl, n⟩ <;> rcases h' with ⟨rfl, g', e'⟩ | ⟨rfl, rfl, n'⟩
  · exact ⟨hi _ _ g g' e e', rfl⟩
  · exact absurd e (n' _ g)
  · exact absurd e' (n _ g')
  · exact ⟨rfl, rfl⟩
theorem code_inj {s : ByteArray} {c c' : CodeD} (g : codeB c = true) (g' : codeB c' = true) (e : cdTxt c = s.data.toList) (e' : cdTxt c' = s.data.toList) : c = c' := by
  obtain ⟨z0, z1, rest, hl, _, ⟨_, a1, _⟩, ⟨_, b1, _⟩, _, d1, _⟩ := code_lines g e
  obtain ⟨y0, y1, rest', hl', _, ⟨_, a2, _⟩, ⟨_, b2, _⟩, _, d2, _⟩ := code_lines g' e'
  rw [hl] at hl'
  injection hl' with h0 hl'
  injection hl' with h1 h2
  subst h0 h1 h2
  rw [a1] at a2
  obtain ⟨el, li, r, b, k, f⟩ := c
  obtain ⟨el', li', r', b', k', f'⟩ := c'
  simp only [List.cons.injEq, and_true] at a2
  simp only at b1 b2 d1 d2
  obtain ⟨rfl, rfl, rfl, rfl⟩ := a2
  rw [← d1, ← d2, ← b1, ← b2]
theorem readInts_snoc (l : List (List UInt8)) (x : List UInt8) : readInts (l ++ [x]) = match readInts l with | none => none | some ns => match readInt x with | none => none | some n => some (ns ++ [n]) := by
  induction l with
  | nil =>
    show readInts [x] = _
    unfold readInts
    cases readInt x <;> rfl
  | cons a t ih =>
    rw [List.cons_append]
    unfold readInts
    rw [ih]
    cases readInt a with
    | none => rfl
    | some n =>
      cases readInts t with
      | none => rfl
      | some ns =>
        cases readInt x with
        | none => rfl
        | some m => rfl
theorem readInts_bad : ∀ {l : List (List UInt8)} {k : Nat} {x : List UInt8}, l[k]? = some x → readInt x = none → readInts l = none
  | [], k, x, h, _ => by simp at h
  | a :: t, 0, x, h, hx => by
    simp at h
    subst h
    unfold readInts
    rw [hx]
  | a :: t, k + 1, x, h, hx => by
    rw [List.getElem?_cons_succ] at h
    unfold readInts
    rw [readInts_bad h hx]
    cases readInt a <;> rfl
theorem readInts_len : ∀ {l : List (List UInt8)} {ns : List Int}, readInts l = some ns → ns.length = l.length
  | [], ns, h => by
    have : [] = ns := Option.some.inj h
    subst this
    rfl
  | a :: t, ns, h => by
    unfold readInts at h
    cases ha : readInt a with
    | none => rw [ha] at h; cases h
    | some n =>
      rw [ha] at h
      cases ht : readInts t with
      | none => rw [ht] at h; cases h
      | some m =>
        rw [ht] at h
        have e : n :: m = ns := Option.some.inj h
        subst e
        simp [readInts_len ht]
theorem readNum_lt {l : List UInt8} {a : Nat} (h : readNum 12 l = some a) : a < 1000000000000 := by
  unfold readNum at h
  split at h
  · cases h
  · rename_i hn
    simp only [not_or] at hn
    have h1 := dval_lt' l (by simpa using hn.2.2.2)
    have h2 : 10 ^ l.length ≤ 10 ^ 12 := Nat.pow_le_pow_right (by decide) (by omega)
    have h3 := Option.some.inj h
    omega
theorem readInt_bd {w : List UInt8} {n : Int} (h : readInt w = some n) : -1000000000000 < n ∧ n < 1000000000000 := by
  unfold readInt at h
  cases hr : readNum 12 (trimPrefix w [45]) with
  | none => rw [hr] at h; cases h
  | some u =>
    rw [hr] at h
    have hu : u < 1000000000000 := by
      have hl := dec_of_read hr
      have h1 := readNum_lt hr
      exact h1
    by_cases hp : hasPrefix w [45] = true
    · simp only [hp, if_true] at h
      by_cases h0 : u = 0
      · rw [if_pos h0] at h; cases h
      · rw [if_neg h0] at h
        injection h with h
        omega
    · simp only [Bool.not_eq_true] at hp
      simp only [hp, Bool.false_eq_true, if_false] at h
      injection h with h
      omega
end Go.Proofs.YtkekpolfdmmgeaaGreatDoor

/- Codes: reading the numbers of a line, both sides. -/
namespace Go.Proofs.YtkekpolfdmmgeaaGreatDoor
set_option linter.unusedVariables false
set_option linter.unusedSimpArgs false
open Go.RowKit Go.Lib

def rnV (s : ByteArray) : Int := (readInt s.data.toList).getD 0
def rnB (s : ByteArray) : Bool := (readInt s.data.toList).isSome
theorem rn_no {s : ByteArray} (h : readInt s.data.toList = none) : rnV s = 0 ∧ rnB s = false := by unfold rnV rnB; rw [h]; exact ⟨rfl, rfl⟩
theorem rn_yes {s : ByteArray} {n : Int} (h : readInt s.data.toList = some n) : rnV s = n ∧ rnB s = true := by unfold rnV rnB; rw [h]; exact ⟨rfl, rfl⟩
theorem ret_ibP {a a' : Int} {b b' : Bool} (h : a = a') (h2 : b = b') : Ending.returned (.tuple #[.int .i64 a, .bool b]) = .returned (.tuple #[.int .i64 a', .bool b']) := by rw [h, h2]
set_option maxHeartbeats 2000000 in
theorem integer_any (s : ByteArray) (w : World) (hs : s.size ≤ 1048576) :
    Calls Tryz.prog 129 #[.string s] w fun e w' => e = .returned (.tuple #[.int .i64 (rnV s), .bool (rnB s)]) ∧ w = w' := by
  obtain ⟨r, HR, hrs⟩ : ∃ r : ByteArray, Hid (r.data.toList = trimPrefix s.data.toList [45]) ∧ r.size ≤ 1048576 :=
    ⟨tx (trimPrefix s.data.toList [45]), Lib.hid rfl, by
      rw [tx_size]
      have : (trimPrefix s.data.toList [45]).length ≤ s.data.toList.length := by
        unfold trimPrefix
        split
        · rw [List.length_drop]; omega
        · exact Nat.le_refl _
      rw [← size_eq] at this
      omega⟩
  have CP : Hid (∀ w0 : World, Calls Tryz.prog 150 #[.string s, .string ⟨#[45]⟩] w0 fun e w' => e = .returned (.tuple #[.string r, .bool (hasPrefix s.data.toList [45])]) ∧ w0 = w') := Lib.hid (fun w0 => by
    have e : r = tx (trimPrefix s.data.toList [45]) := by rw [← HR.out, tx_of]
    rw [e]
    exact (Tryz.strings_CutPrefix s ⟨#[45]⟩ w0).mono (fun e w' h => ⟨h.1, h.2.symm⟩))
  have CN : Hid (∀ w0 : World, Calls Tryz.prog 151 #[.string r] w0 fun e w' => e = .returned (.tuple #[.int .i64 (ntV 12 r), .bool (ntB 12 r)]) ∧ w0 = w') := Lib.hid (fun w0 => natural_any r w0 (by unfold maxLen; omega))
  cases hr : readNum 12 r.data.toList with
  | none =>
    obtain ⟨e1, e2⟩ := nt_none hr
    rw [← e1, ← e2] at CN
    have HN : Hid (rnV s = 0 ∧ rnB s = false) := Lib.hid (rn_no (by unfold readInt; rw [← HR.out, hr]))
    clear hr e1 e2 HR
    generalize hasPrefix s.data.toList [45] = neg at CP
    go_enter Tryz.func129, Tryz.ntmps129
    go_wp2_with fail
    refine (CP.out _).mono ?_
    rintro e w1 ⟨rfl, rfl⟩
    go_wp2_with fail
    refine (CN.out _).mono ?_
    rintro e w1 ⟨rfl, rfl⟩
    go_wp2_with fail
    go_ret2
    exact ⟨ret_ibP HN.out.1.symm HN.out.2.symm, rfl⟩
  | some u =>
    obtain ⟨e1, e2⟩ := nt_some hr
    rw [← e1, ← e2] at CN
    have hu := readNum_lt hr
    cases hp : hasPrefix s.data.toList [45] with
    | false =>
      have HN : Hid (rnV s = (u : Int) ∧ rnB s = true) := Lib.hid (rn_yes (by unfold readInt; rw [← HR.out, hr, hp]; rfl))
      rw [hp] at CP
      clear hr e1 e2 HR hp
      go_enter Tryz.func129, Tryz.ntmps129
      go_wp2_with fail
      refine (CP.out _).mono ?_
      rintro e w1 ⟨rfl, rfl⟩
      go_wp2_with fail
      refine (CN.out _).mono ?_
      rintro e w1 ⟨rfl, rfl⟩
      go_wp2_with fail
      go_ret2
      exact ⟨ret_ibP HN.out.1.symm HN.out.2.symm, rfl⟩
    | true =>
      rw [hp] at CP
      by_cases hu0 : u = 0
      · have HN : Hid (rnV s = 0 ∧ rnB s = false) := Lib.hid (rn_no (by unfold readInt; rw [← HR.out, hr, hp]; simp [hu0]))
        have hz : ((u : Int) == 0) = true := by rw [hu0]; rfl
        clear hr e1 e2 HR hp
        go_enter Tryz.func129, Tryz.ntmps129
        go_wp2_with fail
        refine (CP.out _).mono ?_
        rintro e w1 ⟨rfl, rfl⟩
        go_wp2_with fail
        refine (CN.out _).mono ?_
        rintro e w1 ⟨rfl, rfl⟩
        go_wp2_with fail
        go_ret2
        exact ⟨ret_ibP HN.out.1.symm HN.out.2.symm, rfl⟩
      · have HN : Hid (rnV s = -(u : Int) ∧ rnB s = true) := Lib.hid (rn_yes (by unfold readInt; rw [← HR.out, hr, hp]; simp [hu0]))
        have hz : ((u : Int) == 0) = false := beq_eq_false_iff_ne.2 (by omega)
        clear hr e1 e2 HR hp hu0
        go_enter Tryz.func129, Tryz.ntmps129
        go_wp2_with fail
        refine (CP.out _).mono ?_
        rintro e w1 ⟨rfl, rfl⟩
        go_wp2_with fail
        refine (CN.out _).mono ?_
        rintro e w1 ⟨rfl, rfl⟩
        go_wp2_with fail
        go_ret2
        exact ⟨ret_ibP HN.out.1.symm HN.out.2.symm, rfl⟩
def dL (zs : List ByteArray) : List (List UInt8) := zs.map fun z => z.data.toList
theorem dL_snoc {zs : List ByteArray} {k : Nat} {z : ByteArray} (h : zs[k]? = some z) : dL (zs.take (k + 1)) = dL (zs.take k) ++ [z.data.toList] := by
  unfold dL
  rw [take_snoc h, List.map_append]
  rfl
/-- what reading words as numbers leaves -/
def NsPost (o : Option (List Int)) (w : World) (e : Ending) (w' : World) : Prop := ∃ v', e = .returned (.tuple #[v', .bool o.isSome]) ∧ OwnI w' w.heap.size v' (o.getD []) ∧ Kept w w'
set_option maxRecDepth 100000 in
set_option maxHeartbeats 8000000 in
theorem integersIn_any (v : Value) (zs : List ByteArray) (w : World) (h : Strs w v zs) (hz : ∀ z ∈ zs, z.size ≤ 1048576) (hl : zs.length ≤ 1048577) :
    Calls Tryz.prog 108 #[v] w fun e w' => NsPost (readInts (dL zs)) w e w' := by
  obtain ⟨A, c, rfl, hnc, hcm, hA⟩ := h.1.out
  unfold maxLen at hcm
  have HA := Lib.hid hA
  have HZ := Lib.hid hz
  clear hA h hz
  go_enter Tryz.func108, Tryz.ntmps108
  go_wp2_with fail
  go_loopw [4, 12] (fun s4 s12 wr => ∃ (k : Nat) (ns : List Int), k ≤ zs.length ∧ s12 = .int .i64 k ∧ OwnI wr w.heap.size s4 ns ∧ readInts (dL (zs.take k)) = some ns ∧ ns.length = k ∧ Kept w wr) (fun _ i _ => zs.length - (RowKit.intOf i).toNat)
  case atStart => exact ⟨0, [], Nat.zero_le _, rfl, own_made _ _ 1 (Nat.le_refl _) (Box.new _ _ _ _ rfl), rfl, rfl, (Kept.refl _).alloc _⟩
  case round =>
    obtain ⟨k, ns, hk, rfl, ho, hr, hnk, hkept⟩ := hrel
    have HO := Lib.hid ho
    have HR := Lib.hid hr
    have szr := hkept.size
    clear ho hr
    by_cases hlt : k < zs.length
    · obtain ⟨b, o, z, rfl, hbb, hzk, hc⟩ := strs_at (HA.out.kept hkept) hlt
      have C := Lib.hid (integer_any z wr (HZ.out z (List.mem_of_getElem? hzk)))
      have HSN := Lib.hid (dL_snoc hzk)
      have HZK := Lib.hid hzk
      clear hzk
      cases hi : readInt z.data.toList with
      | none =>
        obtain ⟨e1, e2⟩ := rn_no hi
        rw [e1, e2] at C
        have HN : Hid (readInts (dL zs) = none) := Lib.hid (readInts_bad (k := k) (x := z.data.toList) (by unfold dL; rw [List.getElem?_map, HZK.out]; rfl) hi)
        clear hi e1 e2
        go_wp2_with fail
        refine (C.out).mono ?_
        rintro e w1 ⟨rfl, rfl⟩
        go_wp2_with fail
        go_ret2
        exact ⟨_, by rw [HN.out]; rfl, by rw [HN.out]; exact own_nil _ _, hkept⟩
      | some n =>
        obtain ⟨e1, e2⟩ := rn_yes hi
        rw [e1, e2] at C
        have HNX : Hid (readInts (dL (zs.take (k + 1))) = some (ns ++ [n])) := Lib.hid (by rw [HSN.out, readInts_snoc, HR.out, hi])
        clear hi e1 e2
        go_wp2_with fail
        refine (C.out).mono ?_
        rintro e w1 ⟨rfl, rfl⟩
        go_wp2_with (at_builtin; refine wpList_append_I _ rfl _ _ rfl w.heap.size _ ns rfl (HO.out.kept ((Kept.refl _).alloc _)) _ [n] rfl (ints_box1 (Box.new _ _ _ _ rfl)) (by simp only [List.length_cons, List.length_nil]; omega) (by simp; omega) ?_; intro v3 w3 o3 g3)
        have k3 := (hkept.alloc (.cells #[.int .i64 n] 3)).grew (HO.out.kept ((Kept.refl _).alloc _)) g3 (Nat.le_refl _)
        have O3 := Lib.hid o3
        clear o3 g3
        go_wp2_with fail
        go_roundw
        case rel => exact ⟨k + 1, _, by omega, by go_num, O3.out, HNX.out, by simp [hnk], k3⟩
        case measure => simp [RowKit.intOf]; omega
    · obtain rfl : k = zs.length := by omega
      have HN : Hid (readInts (dL zs) = some ns) := Lib.hid (by have := HR.out; rw [List.take_length] at this; exact this)
      go_wp2_with fail
      go_ret2
      exact ⟨_, by rw [HN.out]; rfl, by rw [HN.out]; exact HO.out, hkept⟩
theorem spB_words (s : ByteArray) : ∃ z0 t, spB 32 s = z0 :: t ∧ z0.data.toList = wdS s.data.toList ∧ dL t = (splitOn 32 s.data.toList).tail := by
  have h := words_form s.data.toList
  refine ⟨tx (wdS s.data.toList), ((splitOn 32 s.data.toList).tail).map tx, ?_, rfl, ?_⟩
  · unfold spB
    rw [h]
    rfl
  · unfold dL
    rw [List.map_map]
    conv => rhs; rw [← List.map_id (splitOn 32 s.data.toList).tail]
    rfl
/-- what reading a line leaves -/
def WnPost (s : ByteArray) (n : Int) (w : World) (e : Ending) (w' : World) : Prop := ∃ v', e = .returned (.tuple #[.string (tx (wdS s.data.toList)), v', .bool (match rdI s.data.toList with | none => false | some ns => decide ((ns.length : Int) = n))]) ∧ OwnI w' w.heap.size v' ((rdI s.data.toList).getD []) ∧ Kept w w'
theorem strs_head {w : World} {g n c : Nat} {z0 : ByteArray} {t : List ByteArray} (h : Strs w (.slice (some ⟨g, 0, none⟩) n c) (z0 :: t)) : w.cell? ⟨g, 0, none⟩ = some (.string z0) := by
  obtain ⟨⟨A, c', e, h1, h2, h3, h4⟩, h5⟩ := h
  injection e with e1 e2 e3
  subst e1
  obtain ⟨b', o', e1, hb, hc⟩ := h4 (by simp)
  injection e1 with e1
  injection e1 with e1 e2
  subst e1 e2
  have := hc 0 (.string z0) rfl
  simpa using this
set_option maxRecDepth 100000 in
set_option maxHeartbeats 8000000 in
theorem wordsAndNumbers_any (s : ByteArray) (n : Int) (w : World) (hs : s.size ≤ 1048576) (hm : HasMax w) :
    Calls Tryz.prog 69 #[.string s, .int .i64 n] w fun e w' => WnPost s n w e w' := by
  have CS := Lib.hid (split_any s 32 w hs hm)
  obtain ⟨z0, t, hsp, hz0, hdt⟩ := spB_words s
  have hle := spB_le 32 s
  rw [hsp, List.length_cons] at hle
  have HZT : Hid (∀ z ∈ t, z.size ≤ 1048576) := Lib.hid (fun z hz => by have := spB_sz (b := 32) (t := s) (z := z) (by rw [hsp]; exact List.mem_cons_of_mem _ hz); omega)
  have HZ0 : Hid (tx (wdS s.data.toList) = z0) := Lib.hid (by rw [← hz0, tx_of])
  have HRD : Hid (rdI s.data.toList = readInts (dL t)) := Lib.hid (by unfold rdI; rw [hdt])
  rw [hsp, List.length_cons] at CS
  clear hsp hz0 hdt hm
  obtain ⟨g, hg⟩ : ∃ g, g = w.heap.size := ⟨_, rfl⟩
  go_enter Tryz.func69, Tryz.ntmps69
  go_wp2_with fail
  refine (CS.out).mono ?_
  rintro e w1 ⟨cap, rfl, o1, k1⟩
  rw [← hg] at o1
  rw [← hg]
  clear hg
  obtain ⟨hcap, hcm⟩ : t.length + 1 ≤ cap ∧ cap ≤ maxLen := by obtain ⟨_, _, e, h1, h2, _⟩ := own_form o1.1; cases e; exact ⟨h1, h2⟩
  have S1 := o1.strs
  have hgl := (own_fp o1.1 g (by simp [fp_some])).2
  have hx0 := strs_head S1
  have szk := k1.size
  have S2 := strs_from S1 (by simp) (k := 1) (by omega)
  rw [List.drop_one, List.tail_cons, Nat.zero_add, Nat.add_sub_cancel] at S2
  clear o1 S1
  have C1 : Hid (∀ A : Addr, t.length = 0 → Calls Tryz.prog 108 #[.slice (some A) 0 0] w1 fun e w' => NsPost (readInts (dL t)) w1 e w') := Lib.hid (fun A h0 => by
    obtain rfl : t = [] := List.eq_nil_of_length_eq_zero h0
    exact integersIn_any _ [] w1 ⟨⟨_, 0, rfl, Nat.le_refl _, Nat.zero_le _, (fun h => by cases h), fun h => absurd h (by simp)⟩, fun _ h => by cases h⟩ (fun _ h => by cases h) (by simp))
  have C2 := Lib.hid (integersIn_any _ t w1 S2 HZT.out (by omega))
  clear S2
  unfold maxLen at hcm
  by_cases hc1 : cap = 1
  · obtain rfl := hc1
    have ht0 : t.length = 0 := by omega
    have CC := Lib.hid (fun A => C1.out A ht0)
    clear C1 C2
    rw [ht0]
    go_wp2_with fail
    refine (CC.out _).mono ?_
    rintro e w2 ⟨v2, rfl, o2, k2⟩
    have hx2 := (k2.cell (p := ⟨g, 0, none⟩) hgl).trans hx0
    rw [← HRD.out] at o2
    rw [← HRD.out]
    have K2 := Lib.hid (k1.trans k2)
    have sz2 := k1.size
    have O2 := Lib.hid (own_base o2 sz2)
    obtain ⟨A2, c2, rfl, hn2, hm2, _⟩ := own_form o2
    clear o2 k2 k1
    unfold maxLen at hm2
    cases hr : rdI s.data.toList with
    | none =>
      have HR := Lib.hid hr
      rw [hr] at O2
      clear hr
      go_wp2_with fail
      go_ret3
      exact ⟨.slice A2 0 c2, by rw [HZ0.out, HR.out]; rfl, by rw [HR.out]; exact O2.out, K2.out⟩
    | some ns =>
      have HR := Lib.hid hr
      rw [hr] at O2 hn2
      clear hr
      simp only [Option.getD_some] at hn2
      go_wp2_with fail
      go_ret3
      exact ⟨.slice A2 ns.length c2, by rw [HZ0.out, HR.out]; rfl, by rw [HR.out]; exact O2.out, K2.out⟩
  · have hc2 : ¬ (cap : Int) = 1 := by omega
    clear C1
    go_wp2_with fail
    refine (C2.out).mono ?_
    rintro e w2 ⟨v2, rfl, o2, k2⟩
    have hx2 := (k2.cell (p := ⟨g, 0, none⟩) hgl).trans hx0
    rw [← HRD.out] at o2
    rw [← HRD.out]
    have K2 := Lib.hid (k1.trans k2)
    have sz2 := k1.size
    have O2 := Lib.hid (own_base o2 sz2)
    obtain ⟨A2, c2, rfl, hn2, hm2, _⟩ := own_form o2
    clear o2 k2 k1
    unfold maxLen at hm2
    cases hr : rdI s.data.toList with
    | none =>
      have HR := Lib.hid hr
      rw [hr] at O2
      clear hr
      go_wp2_with fail
      go_ret3
      exact ⟨.slice A2 0 c2, by rw [HZ0.out, HR.out]; rfl, by rw [HR.out]; exact O2.out, K2.out⟩
    | some ns =>
      have HR := Lib.hid hr
      rw [hr] at O2 hn2
      clear hr
      simp only [Option.getD_some] at hn2
      go_wp2_with fail
      go_ret3
      exact ⟨.slice A2 ns.length c2, by rw [HZ0.out, HR.out]; rfl, by rw [HR.out]; exact O2.out, K2.out⟩
end Go.Proofs.YtkekpolfdmmgeaaGreatDoor

/- Codes: reading the numbers of a line, the reference's side. -/
namespace Go.Proofs.YtkekpolfdmmgeaaGreatDoor
set_option linter.unusedVariables false
set_option linter.unusedSimpArgs false
open Go.RowKit Go.Lib

theorem rdV_rd6 (z : ByteArray) : rdV 6 z = rd6 z.data.toList := rfl
theorem hdS_of {s : ByteArray} {t : List ByteArray} (h : dL t = (splitOn 32 s.data.toList).tail) : hdS s.data.toList = t.map (rdV 6) := by
  unfold hdS
  rw [← h]
  unfold dL
  rw [List.map_map]
  rfl
theorem rdV_bd (z : ByteArray) : -1 ≤ rdV 6 z ∧ rdV 6 z < 1000000 := by
  unfold rdV
  cases h : readNum 6 z.data.toList with
  | none => exact ⟨by decide, by decide⟩
  | some n =>
    have h1 := dec_of_read h
    have h2 : n < 1000000 := by
      unfold readNum at h
      split at h
      · cases h
      · rename_i hn
        simp only [not_or] at hn
        have h3 := dval_lt' z.data.toList (by simpa using hn.2.2.2)
        have h4 : 10 ^ z.data.toList.length ≤ 10 ^ 6 := Nat.pow_le_pow_right (by decide) (by omega)
        have h5 := Option.some.inj h
        omega
    show -1 ≤ (n : Int) ∧ (n : Int) < 1000000
    omega
set_option maxRecDepth 100000 in
set_option maxHeartbeats 8000000 in
theorem cdNumbers_any (s : ByteArray) (w : World) (hs : s.size ≤ 1048576) :
    Calls Tryz.prog 71 #[.string s] w fun e w' => ∃ v', e = .returned v' ∧ OwnI w' w.heap.size v' (hdS s.data.toList) ∧ Kept w w' := by
  have CS := Lib.hid (l1Split_any s 32 w hs)
  obtain ⟨z0, t, hsp, hz0, hdt⟩ := spB_words s
  have hle := spB_le 32 s
  rw [hsp, List.length_cons] at hle
  have HZT : Hid (∀ z ∈ t, z.size ≤ 1048576) := Lib.hid (fun z hz => by have := spB_sz (b := 32) (t := s) (z := z) (by rw [hsp]; exact List.mem_cons_of_mem _ hz); omega)
  have HRD := Lib.hid (hdS_of hdt)
  rw [hsp] at CS
  clear hsp hz0 hdt
  go_enter Tryz.func71, Tryz.ntmps71
  go_wp2_with fail
  refine (CS.out).mono ?_
  rintro e w1 ⟨v1, rfl, o1, k1⟩
  rcases ownS_cases o1 with ⟨rfl, hn⟩ | ⟨g, cap, rfl, hcap, hcm⟩
  · exact absurd hn (by simp)
  rw [List.length_cons] at hcap
  have hgl := (own_fp o1.1 g (by simp [fp_some])).2
  have S1 := o1.strs
  rw [List.length_cons] at S1
  have S2 := strs_from S1 (by simp) (k := 1) (by omega)
  rw [List.drop_one, List.tail_cons, Nat.zero_add, Nat.add_sub_cancel] at S2
  have HS := Lib.hid S2
  have K1 := Lib.hid k1
  have szk := k1.size
  rw [List.length_cons]
  clear o1 S1 S2 k1
  unfold maxLen at hcm
  have HN : Hid (t.length = 0 → hdS s.data.toList = []) := Lib.hid (fun h0 => by rw [HRD.out, List.eq_nil_of_length_eq_zero h0]; rfl)
  by_cases hc1 : cap = 1
  · obtain rfl := hc1
    have ht0 : t.length = 0 := by omega
    have HN0 := Lib.hid (HN.out ht0)
    rw [ht0]
    clear HN
    go_wp2_with fail
    go_loopw [3, 10] (fun s3 s10 wr => s10 = .int .i64 0 ∧ s3 = .slice none 0 0 ∧ wr = w1) (fun _ _ _ => 0)
    case atStart => exact ⟨rfl, rfl, rfl⟩
    case round =>
      obtain ⟨rfl, rfl, rfl⟩ := hrel
      go_wp2_with fail
      go_ret
      exact ⟨_, rfl, by rw [HN0.out]; exact own_nil _ _, K1.out⟩
  · have hc2 : ¬ (cap : Int) = 1 := by omega
    clear HN
    go_wp2_with fail
    go_loopw [3, 10] (fun s3 s10 wr => ∃ k : Nat, k ≤ t.length ∧ s10 = .int .i64 k ∧ OwnI wr w1.heap.size s3 ((t.take k).map (rdV 6)) ∧ Kept w1 wr) (fun _ i _ => t.length - (RowKit.intOf i).toNat)
    case atStart => exact ⟨0, Nat.zero_le _, rfl, own_nil _ _, Kept.refl _⟩
    case round =>
      obtain ⟨k, hk, rfl, ho, hkept⟩ := hrel
      have HO := Lib.hid ho
      have szr := hkept.size
      clear ho
      by_cases hlt : k < t.length
      · obtain ⟨b, o, z, e0, hbb, hzk, hc⟩ := strs_at (HS.out.kept hkept).1.addr hlt
        cases e0
        have C := Lib.hid (l1Read_any z wr (by have := HZT.out z (List.mem_of_getElem? hzk); unfold maxLen; omega))
        have HSN : Hid ((t.take (k + 1)).map (rdV 6) = (t.take k).map (rdV 6) ++ [rdV 6 z]) := Lib.hid (by rw [take_snoc hzk, List.map_append]; rfl)
        have hbd := rdV_bd z
        clear hzk
        generalize rdV 6 z = y at C HSN hbd
        have htk : ((t.take k).map (rdV 6)).length ≤ 1048577 := by rw [List.length_map, List.length_take]; omega
        go_wp2_with fail
        refine (C.out).mono ?_
        rintro e w2 ⟨rfl, rfl⟩
        go_wp2_with (at_builtin; refine wpList_append_I _ rfl _ _ rfl w1.heap.size _ ((t.take k).map (rdV 6)) rfl (HO.out.kept ((Kept.refl _).alloc _)) _ [y] rfl (ints_box1 (Box.new _ _ _ _ rfl)) (by simp only [List.length_cons, List.length_nil]; omega) (by simp; omega) ?_; intro v3 w3 o3 g3)
        have k3 := (hkept.alloc (.cells #[.int .i64 y] 3)).grew (HO.out.kept ((Kept.refl _).alloc _)) g3 (Nat.le_refl _)
        rw [← HSN.out] at o3
        have O3 := Lib.hid o3
        clear o3 g3
        go_wp2_with fail
        go_roundw
        case rel => exact ⟨k + 1, by omega, by go_num, O3.out, k3⟩
        case measure => simp [RowKit.intOf]; omega
      · obtain rfl : k = t.length := by omega
        have HF : Hid ((t.take t.length).map (rdV 6) = hdS s.data.toList) := Lib.hid (by rw [HRD.out, List.take_length])
        go_wp2_with fail
        go_ret
        exact ⟨_, rfl, by rw [← HF.out]; exact own_base HO.out szk, K1.out.trans hkept⟩
end Go.Proofs.YtkekpolfdmmgeaaGreatDoor

/- Codes, plain: what each branch of the two readers says of the text. -/
namespace Go.Proofs.YtkekpolfdmmgeaaGreatDoor
set_option linter.unusedVariables false
set_option linter.unusedSimpArgs false

theorem IsPC.no {s : List UInt8} (h : ∀ c, codeB c = true → cdTxt c ≠ s) : IsPC s zeroC false := .inr ⟨rfl, rfl, h⟩
theorem IsPC.yes {s : List UInt8} {c : CodeD} (h : codeB c = true) (e : cdTxt c = s) : IsPC s c true := .inl ⟨rfl, h, e⟩
theorem pc_ok {s : ByteArray} (h : lnOk s.data.toList = false) : IsPC s.data.toList zeroC false :=
  IsPC.no fun c g e => by rw [(of_code g e).2] at h; cases h
theorem pc_len {s : ByteArray} (h : (lnsB s).length < 3 ∨ 26 < (lnsB s).length) : IsPC s.data.toList zeroC false := by
  refine IsPC.no fun c g e => ?_
  obtain ⟨z0, z1, rest, hl, hr, _⟩ := code_lines g e
  have := (code_of g).1
  rw [hl, List.length_cons, List.length_cons] at h
  omega
/-- the same of the pieces between line ends -/
theorem pc_len' {s : ByteArray} (h : (spB 10 s).length < 4 ∨ 27 < (spB 10 s).length) : IsPC s.data.toList zeroC false := by
  obtain ⟨x, e, _⟩ := lnsB_split s
  rw [e, List.length_append, List.length_singleton] at h
  exact pc_len (by omega)
section
variable {s z0 z1 : ByteArray} {rest : List ByteArray} (hl : lnsB s = z0 :: z1 :: rest)
include hl
theorem pc_case (h : ∀ c : CodeD, codeB c = true → cdTxt c = s.data.toList →
      (wdS z0.data.toList = codeW ∧ hdS z0.data.toList = [c.repeats, c.bonus, c.keeps, c.fall] ∧ rdI z0.data.toList = some [c.repeats, c.bonus, c.keeps, c.fall]) →
      (wdS z1.data.toList = limitsW ∧ hdS z1.data.toList = c.limits ∧ rdI z1.data.toList = some c.limits) →
      (∀ z ∈ rest, (hdS z.data.toList).length = 3 ∧ ∃ ns, rdI z.data.toList = some ns ∧ ns.length = 3) → rest.map elS = c.elems → rest.map elI = c.elems → False) : IsPC s.data.toList zeroC false := by
  refine IsPC.no fun c g e => ?_
  obtain ⟨y0, y1, r, hl', _, a, b, d, e1, e2⟩ := code_lines g e
  rw [hl] at hl'
  injection hl' with h0 hl'
  injection hl' with h1 h2
  subst h0 h1 h2
  exact h c g e a b d e1 e2
/-- the reference: the numbers of the first line -/
theorem pcS_rep (h : (hdS z0.data.toList).length ≠ 4) : IsPC s.data.toList zeroC false :=
  pc_case hl fun c g e a b d e1 e2 => h (by rw [a.2.1]; rfl)
theorem pcS_el {z : ByteArray} (hz : z ∈ rest) (h : (hdS z.data.toList).length ≠ 3) : IsPC s.data.toList zeroC false :=
  pc_case hl fun c g e a b d e1 e2 => h (d z hz).1
theorem pcS_is {c : CodeD} (g : codeB c = true) (e : cdTxt c = s.data.toList) : mkC (rest.map elS) (hdS z1.data.toList) (hdS z0.data.toList) = c := by
  obtain ⟨y0, y1, r, hl', _, a, b, d, e1, e2⟩ := code_lines g e
  rw [hl] at hl'
  injection hl' with h0 hl'
  injection hl' with h1 h2
  subst h0 h1 h2
  rw [e1, a.2.1, b.2.1]
  rfl
theorem pcS_bad (h : codeB (mkC (rest.map elS) (hdS z1.data.toList) (hdS z0.data.toList)) = false) : IsPC s.data.toList zeroC false :=
  IsPC.no fun c g e => by rw [pcS_is hl g e, g] at h; cases h
theorem pcS_txt (h : cdTxt (mkC (rest.map elS) (hdS z1.data.toList) (hdS z0.data.toList)) ≠ s.data.toList) : IsPC s.data.toList zeroC false :=
  IsPC.no fun c g e => by rw [pcS_is hl g e] at h; exact h e
/-- the program: the numbers of the first two lines -/
theorem pcI_rep (h : (match rdI z0.data.toList with | none => false | some ns => decide ((ns.length : Int) = 4)) = false) : IsPC s.data.toList zeroC false :=
  pc_case hl fun c g e a b d e1 e2 => by rw [a.2.2] at h; simp at h
theorem pcI_lim (h : (match rdI z1.data.toList with | none => false | some ns => decide ((ns.length : Int) = 5)) = false) : IsPC s.data.toList zeroC false :=
  pc_case hl fun c g e a b d e1 e2 => by rw [b.2.2] at h; simp [(code_of g).2.1] at h
theorem pcI_w0 (h : wdS z0.data.toList ≠ codeW) : IsPC s.data.toList zeroC false :=
  pc_case hl fun c g e a b d e1 e2 => h a.1
theorem pcI_w1 (h : wdS z1.data.toList ≠ limitsW) : IsPC s.data.toList zeroC false :=
  pc_case hl fun c g e a b d e1 e2 => h b.1
theorem pcI_el {z : ByteArray} (hz : z ∈ rest) (h : (match rdI z.data.toList with | none => false | some ns => decide ((ns.length : Int) = 3)) = false) : IsPC s.data.toList zeroC false :=
  pc_case hl fun c g e a b d e1 e2 => by
    obtain ⟨ns, h1, h2⟩ := (d z hz).2
    rw [h1] at h
    simp [h2] at h
theorem pcI_bad {n0 n1 : List Int} (h0 : rdI z0.data.toList = some n0) (h1 : rdI z1.data.toList = some n1) (h : codeB (mkC (rest.map elI) n1 n0) = false) : IsPC s.data.toList zeroC false :=
  pc_case hl fun c g e a b d e1 e2 => by
    rw [a.2.2] at h0
    rw [b.2.2] at h1
    obtain rfl := Option.some.inj h0
    obtain rfl := Option.some.inj h1
    rw [e2] at h
    have : mkC c.elems c.limits [c.repeats, c.bonus, c.keeps, c.fall] = c := rfl
    rw [this, g] at h
    cases h
theorem pcI_yes {n0 n1 : List Int} (hok : lnOk s.data.toList = true) (h0 : rdI z0.data.toList = some n0) (h1 : rdI z1.data.toList = some n1) (l0 : n0.length = 4)
    (w0 : wdS z0.data.toList = codeW) (w1 : wdS z1.data.toList = limitsW) (hr : ∀ z ∈ rest, ∃ ns, rdI z.data.toList = some ns ∧ ns.length = 3) (hc : codeB (mkC (rest.map elI) n1 n0) = true) : IsPC s.data.toList (mkC (rest.map elI) n1 n0) true :=
  IsPC.yes hc (text_I hok hl w0 h0 l0 w1 h1 hr hc)
end
/-- the elements read so far -/
theorem elS_snoc {rest : List ByteArray} {k : Nat} {z : ByteArray} (h : rest[k]? = some z) : (rest.map elS).take (k + 1) = (rest.map elS).take k ++ [elS z] := take_snoc (by rw [List.getElem?_map, h]; rfl)
theorem elI_snoc {rest : List ByteArray} {k : Nat} {z : ByteArray} (h : rest[k]? = some z) : (rest.map elI).take (k + 1) = (rest.map elI).take k ++ [elI z] := take_snoc (by rw [List.getElem?_map, h]; rfl)
theorem elI_of {z : ByteArray} {ns : List Int} (h : rdI z.data.toList = some ns) : elI z = mkE (wdS z.data.toList) ns := by unfold elI; rw [h]; rfl
/-- what reading a code leaves -/
def PcPost (s : ByteArray) (w : World) (e : Ending) (w' : World) : Prop := ∃ v' c ok, e = .returned (.tuple #[v', .bool ok]) ∧ IsPC s.data.toList c ok ∧ OwnK w' w.heap.size v' c ∧ Kept w w'
theorem PcPost.no {s : ByteArray} {w w' : World} (h : IsPC s.data.toList zeroC false) (k : Kept w w') : PcPost s w (.returned (.tuple #[.agg #[.slice none 0 0, .slice none 0 0, .int .i64 0, .int .i64 0, .int .i64 0, .int .i64 0], .bool false])) w' :=
  ⟨_, _, _, rfl, h, zeroC_own _ _, k⟩
end Go.Proofs.YtkekpolfdmmgeaaGreatDoor

/- Codes: the state of the loop that reads a code's elements, one lemma for both readers. -/
namespace Go.Proofs.YtkekpolfdmmgeaaGreatDoor
set_option linter.unusedVariables false
set_option linter.unusedSimpArgs false

/-- the cells of a code -/
def cdCells (ev lv : Value) (c : CodeD) : Array Value := #[ev, lv, .int .i64 c.repeats, .int .i64 c.bonus, .int .i64 c.keeps, .int .i64 c.fall]
/-- the code read so far lies in a box (bb); h: the box of the result; S: blocks that may have turned since w1 -/
structure CdSt (S : List Nat) (h bb B : Nat) (c : CodeD) (w1 wr : World) (k : Nat) (ev lv : Value) : Prop where
  hbox : Box wr h 26 #[.slice none 0 0, .slice none 0 0, .int .i64 0, .int .i64 0, .int .i64 0, .int .i64 0]
  bbox : Box wr bb 26 #[ev, lv, .int .i64 c.repeats, .int .i64 c.bonus, .int .i64 c.keeps, .int .i64 c.fall]
  elems : OwnE wr B ev (c.elems.take k)
  lims : OwnI wr B lv c.limits
  apart : ∀ b ∈ fp ev, b ∉ fp lv
  only : Only S w1 wr
  inS : bb ∈ S
  ne : h ≠ bb
  where_ : ∀ b ∈ fp ev, (b ∈ S ∨ w1.heap.size ≤ b) ∧ b ≠ bb ∧ b ≠ h
  wl : ∀ b ∈ fp lv, b < w1.heap.size ∧ b ≠ bb ∧ b ≠ h
  hB : B ≤ w1.heap.size
theorem CdSt.mid {S : List Nat} {h bb B : Nat} {c : CodeD} {w1 wr w3 w4 : World} {k : Nat} {ev lv : Value} (H : CdSt S h bb B c w1 wr k ev lv) (k3 : Kept wr w3) (on4 : Only (fp ev) w3 w4) :
    Box w4 bb 26 #[ev, lv, .int .i64 c.repeats, .int .i64 c.bonus, .int .i64 c.keeps, .int .i64 c.fall] :=
  (H.bbox.kept k3).only on4 (fun hb => (H.where_ bb hb).2.1 rfl)
theorem CdSt.step {S : List Nat} {h bb B : Nat} {c : CodeD} {w1 wr w3 w4 : World} {k : Nat} {ev lv v4 : Value} (H : CdSt S h bb B c w1 wr k ev lv) (k3 : Kept wr w3)
    (on4 : Only (fp ev) w3 w4) (o4 : OwnE w4 B v4 (c.elems.take (k + 1))) (f4 : ∀ b ∈ fp v4, b ∈ fp ev ∨ b = w3.heap.size) :
    CdSt S h bb B c w1 (w4.setCell ⟨bb, 0, none⟩ v4) (k + 1) v4 lv := by
  have hbl := H.bbox.lt
  have hhl := H.hbox.lt
  have hsr := H.only.size
  have hs3 := k3.size
  have w4b : ∀ b ∈ fp v4, (b ∈ S ∨ w1.heap.size ≤ b) ∧ b ≠ bb ∧ b ≠ h ∧ b ∉ fp lv := fun b hb => by
    rcases f4 b hb with q | q
    · have := H.where_ b q
      exact ⟨this.1, this.2.1, this.2.2, H.apart b q⟩
    · refine ⟨.inr (by omega), by omega, by omega, fun hx => ?_⟩
      have := H.wl b hx
      omega
  have on5 : Only [bb] w4 (w4.setCell ⟨bb, 0, none⟩ v4) := (Only.refl [bb] w4).setCell (by simp) _
  have hb1 : ∀ b ∈ [bb], b ∈ S ∨ w1.heap.size ≤ b := fun b hb => by rw [List.mem_singleton] at hb; subst hb; exact .inl H.inS
  have nb : ∀ {l : Nat} {x : Nat}, l ≠ x → l ∉ [x] := fun h hm => by rw [List.mem_singleton] at hm; exact h hm
  refine ⟨?_, (H.mid k3 on4).set 0 v4, ?_, ?_, fun b hb => (w4b b hb).2.2.2, ?_, H.inS, H.ne, fun b hb => ⟨(w4b b hb).1, (w4b b hb).2.1, (w4b b hb).2.2.1⟩, H.wl, H.hB⟩
  · exact ((H.hbox.kept k3).only on4 (fun hb => (H.where_ h hb).2.2 rfl)).only on5 (nb H.ne)
  · exact o4.only on5 (fun b hb => nb (w4b b hb).2.1)
  · exact ((H.lims.kept k3).only on4 (fun b hb hb' => H.apart b hb' hb)).only on5 (fun b hb => nb (H.wl b hb).2.1)
  · exact ((H.only.step k3).over on4 (fun b hb => (H.where_ b hb).1)).over on5 hb1
/-- the code read whole -/
theorem CdSt.whole {S : List Nat} {h bb B : Nat} {c : CodeD} {w1 wr : World} {k : Nat} {ev lv : Value} (H : CdSt S h bb B c w1 wr k ev lv) (hk : c.elems.length ≤ k) :
    OwnK wr B (.agg #[ev, lv, .int .i64 c.repeats, .int .i64 c.bonus, .int .i64 c.keeps, .int .i64 c.fall]) c := by
  have e1 : c.elems.take k = c.elems := List.take_of_length_le hk
  refine ⟨ev, lv, rfl, ?_, H.lims, ?_⟩
  · have := H.elems; rw [e1] at this; exact this
  · rw [fpA_code, List.nodup_append]
    exact ⟨nodup_one _, nodup_one _, fun x hx y hy e => H.apart x hx (e ▸ hy)⟩
theorem CdSt.fin {S : List Nat} {h bb B : Nat} {c : CodeD} {w1 wr w3 w4 : World} {k : Nat} {ev lv : Value} (H : CdSt S h bb B c w1 wr k ev lv) (hk : c.elems.length ≤ k) (k3 : Kept wr w3) (q : Only [h] w3 w4) :
    OwnK w4 B (.agg #[ev, lv, .int .i64 c.repeats, .int .i64 c.bonus, .int .i64 c.keeps, .int .i64 c.fall]) c := by
  refine ((H.whole hk).kept k3).only q (fun b hb hm => ?_)
  rw [List.mem_singleton] at hm
  rw [fpA_code] at hb
  rcases List.mem_append.1 hb with hb | hb
  · exact (H.where_ b hb).2.2 hm
  · exact (H.wl b hb).2.2 hm
theorem PcPost.yes {s : ByteArray} {w w' : World} {v : Value} {c : CodeD} (h : IsPC s.data.toList c true) (o : OwnK w' w.heap.size v c) (k : Kept w w') : PcPost s w (.returned (.tuple #[v, .bool true])) w' :=
  ⟨_, _, _, rfl, h, o, k⟩
end Go.Proofs.YtkekpolfdmmgeaaGreatDoor
