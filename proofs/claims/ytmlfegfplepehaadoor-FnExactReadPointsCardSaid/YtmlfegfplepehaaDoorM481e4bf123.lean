/- Contracts of functions that the proof leans on. No condition. -/
import Derived.Test.YtmlfegfplepehaaDoorM4dee58c2fd
import Derived.StillTailTactics
import Derived.Deep.RegionHeld3
import Derived.Deep.DeepCutAuto
import Derived.Shelf.Sort.Plain
import Derived.Shelf.Slices.CompactS
import Derived.Test.YtmlfegfplepehaaDoorShelf
/- Items in memory. -/
namespace Go.Proofs.YtmlfegfplepehaaDoor
set_option linter.unusedVariables false
set_option linter.unusedSimpArgs false
open Go.RowKit

structure ItemD where
  names : List ByteArray
  marks : List Int
  late : Bool
def ItemAt (w : World) (v : Value) (it : ItemD) : Prop := ∃ nv mv, v = .agg #[nv, mv, .bool it.late] ∧ Strs w nv it.names ∧ Ints w mv it.marks
theorem fpA_item (a b : Value) (c : Bool) : fpA (.agg #[a, b, .bool c]) = fp a ++ fp b := by
  simp [fpA, fp, Value.ownBlock]
def OwnT (w : World) (base : Nat) (v : Value) (it : ItemD) : Prop :=
  ∃ nv mv, v = .agg #[nv, mv, .bool it.late] ∧ OwnS w base nv it.names ∧ OwnI w base mv it.marks ∧ (fpA v).Nodup
theorem ItemAt.kept {w w' : World} {v : Value} {it : ItemD} (h : ItemAt w v it) (hk : Kept w w') : ItemAt w' v it := by
  obtain ⟨nv, mv, e, h1, h2⟩ := h
  exact ⟨nv, mv, e, h1.kept hk, h2.kept hk⟩
theorem OwnT.item {w : World} {base : Nat} {v : Value} {it : ItemD} (h : OwnT w base v it) : ItemAt w v it := by
  obtain ⟨nv, mv, e, h1, h2, _⟩ := h
  exact ⟨nv, mv, e, h1.strs, h2.ints⟩
theorem info_item : (Tryd.prog.info? 31).map (fun i => (i.zero, i.size, i.bytes)) = some (some (.agg #[.slice none 0 0, .slice none 0 0, .bool false]), 3, 56) := by kernel_rfl
set_option maxHeartbeats 400000 in
theorem toItem_any (v : Value) (it : ItemD) (w : World) (h : ItemAt w v it) (hn : it.names.length ≤ 1048576) (hm : it.marks.length ≤ 1048576) :
    Calls Tryd.prog 16 #[v] w fun e w' => ∃ v', e = .returned v' ∧ OwnT w' w.heap.size v' it ∧ Kept w w' := by
  obtain ⟨nv, mv, rfl, h1, h2⟩ := h
  have H1 := Lib.hid h1
  have H2 := Lib.hid h2
  clear h1 h2
  go_enter Tryd.func16, Tryd.ntmps16
  go_wp2_with fail
  refine (toStringS_any _ _ _ (H1.out.kept (((((Kept.refl w).alloc _).alloc _).alloc _))) hn).mono ?_
  rintro e w1 ⟨v1, rfl, o1, k1⟩
  obtain ⟨A1, c1, rfl, _, _, _⟩ := own_form o1.1
  have B0 := (((Box.new w w.heap.size 28 #[nv, mv, .bool it.late] rfl).alloc _).alloc _).kept k1
  have B1 := ((Box.new (w.alloc (.cells #[nv, mv, .bool it.late] 28)) (w.heap.size + 1) 31 #[.slice none 0 0, .slice none 0 0, .bool false] (by simp)).alloc _).kept k1
  have B2 := (Box.new ((w.alloc (.cells #[nv, mv, .bool it.late] 28)).alloc (.cells #[.slice none 0 0, .slice none 0 0, .bool false] 31)) (w.heap.size + 1 + 1) 31 #[.slice none 0 0, .slice none 0 0, .bool false] (by simp)).kept k1
  have K1 : Kept w w1 := ((((Kept.refl w).alloc _).alloc _).alloc _).trans k1
  have hz1 : w.heap.size + 1 + 1 < w1.heap.size := B2.lt
  have O1 := Lib.hid o1
  obtain ⟨c0, f0⟩ := B0.three
  obtain ⟨c1', f1⟩ := B1.three
  obtain ⟨c2', f2⟩ := B2.three
  clear o1 k1
  go_wp2_with fail
  clear c0 f0 c1' f1 c2' f2
  refine (toIntS_any _ _ _ (H2.out.kept (K1.setCell (by simp; omega) _)) hm).mono ?_
  rintro e w2 ⟨v2, rfl, o2, k2⟩
  obtain ⟨A2, c2, rfl, _, _, _⟩ := own_form o2
  have K2 : Kept w w2 := (K1.setCell (by simp; omega) _).trans k2
  replace B0 := (B0.far ⟨w.heap.size + 1 + 1, 0, none⟩ (by dsimp only; omega) _).kept k2
  replace B1 := (B1.far ⟨w.heap.size + 1 + 1, 0, none⟩ (by dsimp only; omega) _).kept k2
  replace B2 := (B2.set 0 _).kept k2
  have O2 := Lib.hid o2
  obtain ⟨c0, f0⟩ := B0.three
  obtain ⟨c1', f1⟩ := B1.three
  obtain ⟨c2', f2⟩ := B2.three
  clear o2
  go_wp2_with fail
  refine bodyPost_ret (v := .agg #[.slice A1 it.names.length c1, .slice A2 it.marks.length c2, .bool it.late]) (by simp [results, Tryd.results16, go_sem, c0, c1', c2', f0, f1, f2]) rfl ⟨_, rfl, ⟨_, _, rfl, ?_, ?_, ?_⟩, ?_⟩
  · refine (fun q : Only [w.heap.size + 1, w.heap.size + 1 + 1] _ _ => ⟨own_far (S := [w.heap.size + 1, w.heap.size + 1 + 1]) O1.out.1 q (by simp <;> omega) (by simp <;> omega), O1.out.2⟩) ?_
    repeat (refine Only.setCell ?_ (by simp) _)
    exact Only.trans (Only.setCell (Only.refl _ _) (by simp) _) (k2.only _)
  · refine own_far (S := [w.heap.size + 1, w.heap.size + 1 + 1]) O2.out ?_ (by have := K1.size; simp <;> omega) (by have := K1.size; simp <;> omega)
    repeat (refine Only.setCell ?_ (by simp) _)
    exact Only.refl _ _
  · rw [fpA_item]
    exact nodup_fp (m := w1.heap.size) (fun x hx => (own_fp O1.out.1 x hx).2) (fun x hx => by have := (own_fp O2.out x hx).1; simpa using this)
  · repeat (refine Kept.setCell ?_ (by dsimp only; omega) _)
    exact K2

/-- the three cells of an item -/
def row3 (p : (Value × Value) × ItemD) : List Value := [p.1.1, p.1.2, .bool p.2.late]
def ItemsA (w : World) (A : Option Addr) (its : List ItemD) (cs : List (Value × Value)) : Prop :=
  cs.length = its.length ∧ SeqA w A its.length ((cs.zip its).flatMap row3) ∧ ∀ (k : Nat) (nv mv : Value) (it : ItemD), cs[k]? = some (nv, mv) → its[k]? = some it → Strs w nv it.names ∧ Ints w mv it.marks
def ItemsAt (w : World) (v : Value) (its : List ItemD) : Prop :=
  ∃ cs : List (Value × Value), cs.length = its.length ∧ Seq w v its.length ((cs.zip its).flatMap row3) ∧ ∀ (k : Nat) (nv mv : Value) (it : ItemD), cs[k]? = some (nv, mv) → its[k]? = some it → Strs w nv it.names ∧ Ints w mv it.marks
theorem ItemsAt.kept {w w' : World} {v : Value} {its : List ItemD} (h : ItemsAt w v its) (hk : Kept w w') : ItemsAt w' v its := by
  obtain ⟨cs, e, h1, h2⟩ := h
  exact ⟨cs, e, h1.kept hk, fun k nv mv it q1 q2 => ⟨(h2 k nv mv it q1 q2).1.kept hk, (h2 k nv mv it q1 q2).2.kept hk⟩⟩
theorem ItemsA.kept {w w' : World} {A : Option Addr} {its : List ItemD} {cs : List (Value × Value)} (h : ItemsA w A its cs) (hk : Kept w w') : ItemsA w' A its cs :=
  ⟨h.1, h.2.1.kept hk, fun k nv mv it q1 q2 => ⟨(h.2.2 k nv mv it q1 q2).1.kept hk, (h.2.2 k nv mv it q1 q2).2.kept hk⟩⟩
theorem ItemsAt.out {w : World} {v : Value} {its : List ItemD} (h : ItemsAt w v its) : ∃ A c cs, v = .slice A its.length c ∧ its.length ≤ c ∧ c ≤ maxLen ∧ ItemsA w A its cs := by
  obtain ⟨cs, e, h1, h2⟩ := h
  obtain ⟨A, c, rfl, hnc, hcm, hsa⟩ := h1.out
  exact ⟨A, c, cs, rfl, hnc, hcm, e, hsa, h2⟩
/-- an item of a list, its three cells -/
theorem items_at {w : World} {A : Option Addr} {its : List ItemD} {cs : List (Value × Value)} (hA : ItemsA w A its cs) {k : Nat} (hk : k < its.length) :
    ∃ b o A1 c1 A2 c2 it, A = some ⟨b, o, none⟩ ∧ b < w.heap.size ∧ its[k]? = some it ∧ cs[k]? = some (.slice A1 it.names.length c1, .slice A2 it.marks.length c2) ∧ ItemAt w (.agg #[.slice A1 it.names.length c1, .slice A2 it.marks.length c2, .bool it.late]) it ∧
      w.cell? ⟨b, o + k * 3, none⟩ = some (.slice A1 it.names.length c1) ∧ w.cell? ⟨b, o + k * 3 + 1, none⟩ = some (.slice A2 it.marks.length c2) ∧ w.cell? ⟨b, o + k * 3 + 2, none⟩ = some (.bool it.late) := by
  obtain ⟨hl, h, hc⟩ := hA
  obtain ⟨b, o, e, hb, hcell⟩ := h (by omega)
  have h1 : its[k]? = some its[k] := List.getElem?_eq_getElem hk
  obtain ⟨nv, mv, h2⟩ : ∃ nv mv, cs[k]? = some (nv, mv) := ⟨_, _, List.getElem?_eq_getElem (by omega)⟩
  have h3 := hc k nv mv its[k] h2 h1
  have hz : (cs.zip its)[k]? = some ((nv, mv), its[k]) := by rw [List.getElem?_zip_eq_some]; exact ⟨h2, h1⟩
  have hf := flat_get row3 3 (fun _ => rfl) (cs.zip its) k
  have q0 := hcell (k * 3) nv (by have := hf 0 (by omega); rw [Nat.add_zero, hz] at this; exact this)
  have q1 := hcell (k * 3 + 1) mv (by have := hf 1 (by omega); rw [hz] at this; exact this)
  have q2 := hcell (k * 3 + 2) (.bool its[k].late) (by have := hf 2 (by omega); rw [hz] at this; exact this)
  rw [← Nat.add_assoc] at q1 q2
  have hit : ItemAt w (.agg #[nv, mv, .bool its[k].late]) its[k] := ⟨_, _, rfl, h3.1, h3.2⟩
  obtain ⟨A1, c1, rfl, _⟩ := h3.1.1.out
  obtain ⟨A2, c2, rfl, _⟩ := h3.2.out
  exact ⟨b, o, A1, c1, A2, c2, its[k], e, hb, h1, h2, hit, q0, q1, q2⟩


/-! ### sizes -/
def strsSize (zs : List ByteArray) : Nat := zs.length + (zs.map ByteArray.size).sum
def ItemD.size (it : ItemD) : Nat := strsSize it.names + it.marks.length
def itemsSize (its : List ItemD) : Nat := its.length + (its.map ItemD.size).sum
theorem szStringS_any (v : Value) (zs : List ByteArray) (left : Int) (w : World) (h : Strs w v zs) (h0 : 0 ≤ left) (h1 : left ≤ 1048576) :
    Calls Tryd.prog 49 #[v, .int .i64 left] w fun e w' => e = .returned (.int .i64 (lessOr left (strsSize zs))) ∧ w = w' := by
  obtain ⟨A, c, rfl, hnc, hcm, hl⟩ := h.1.out
  unfold maxLen at hcm
  have HL := Lib.hid hl
  have HS := Lib.hid h.2
  clear hl h
  by_cases hb : (zs.length : Int) ≤ left
  · go_enter Tryd.func49, Tryd.ntmps49
    go_wp2
    go_loop [1, 5] (fun q i => ∃ k : Nat, k ≤ zs.length ∧ i = .int .i64 k ∧ q = .int .i64 (left - zs.length - ((zs.take k).map ByteArray.size).sum) ∧ 0 ≤ left - zs.length - (((zs.take k).map ByteArray.size).sum : Nat)) (fun _ i => zs.length - (intOf i).toNat)
    case atStart => exact ⟨0, Nat.zero_le _, rfl, by simp, by simp; omega⟩
    case round =>
      obtain ⟨k, hk, rfl, rfl, hge⟩ := hrel
      by_cases hlt : k < zs.length
      · obtain ⟨b, o, z, rfl, hb', hz, hc⟩ := strs_at HL.out hlt
        have hzs := HS.out z (List.mem_of_getElem? hz)
        unfold maxLen at hzs
        have HN := Lib.hid (sum_snoc ByteArray.size hz)
        have HT := Lib.hid (sum_take _ ByteArray.size zs (k + 1))
        clear hz
        generalize ((zs.take k).map ByteArray.size).sum = sk at *
        by_cases hl2 : (z.size : Int) ≤ left - zs.length - sk
        · go_wp2
          go_round
          case rel => exact ⟨k + 1, by omega, by go_num, by rw [HN.out]; congr 1; omega, by rw [HN.out]; omega⟩
          case measure => simp [intOf]; omega
        · go_wp2
          go_ret
          refine ⟨ret_int ?_, rfl⟩
          have q1 := HN.out
          have q2 := HT.out
          unfold lessOr strsSize
          rw [if_neg (by omega)]
      · obtain rfl : k = zs.length := by omega
        go_wp2
        go_ret
        refine ⟨ret_int ?_, rfl⟩
        try simp only [List.take_length] at hge ⊢
        unfold lessOr strsSize
        rw [if_pos (by omega)]
        omega
  · go_enter Tryd.func49, Tryd.ntmps49
    go_wp2
    go_ret
    refine ⟨ret_int ?_, rfl⟩
    unfold lessOr strsSize
    rw [if_neg (by omega)]
theorem szItem_any (v : Value) (it : ItemD) (left : Int) (w : World) (h : ItemAt w v it) (h0 : 0 ≤ left) (h1 : left ≤ 1048576) :
    Calls Tryd.prog 14 #[v, .int .i64 left] w fun e w' => e = .returned (.int .i64 (lessOr left it.size)) ∧ Kept w w' := by
  obtain ⟨nv, mv, rfl, q1, q2⟩ := h
  have H1 := Lib.hid q1
  have H2 := Lib.hid q2
  clear q1 q2
  obtain ⟨b1, b2⟩ := lessOr_bd (n := strsSize it.names) h0
  by_cases hneg : lessOr left (strsSize it.names) < 0
  · have HF := Lib.hid (lessOr_neg (m := it.marks.length) hneg h0)
    go_enter Tryd.func14, Tryd.ntmps14
    go_wp2_with (go_at_call 49; refine (szStringS_any _ _ _ _ (H1.out.kept ((Kept.refl _).alloc _)) h0 h1).mono ?_; rintro e w' ⟨rfl, rfl⟩)
    go_ret
    exact ⟨ret_int HF.out.symm, (Kept.refl _).alloc _⟩
  · have HF := Lib.hid (lessOr_add (m := it.marks.length) (Int.not_lt.1 hneg))
    obtain ⟨b3, b4⟩ := lessOr_bd (n := it.marks.length) (Int.not_lt.1 hneg)
    have hpos : 0 ≤ lessOr left (strsSize it.names) := by omega
    have hfin : lessOr (lessOr left (strsSize it.names)) it.marks.length < 0 → lessOr (lessOr left (strsSize it.names)) it.marks.length = -1 := by omega
    have HN := Lib.hid hfin
    clear hfin
    go_enter Tryd.func14, Tryd.ntmps14
    go_wp2_with (first | (go_at_call 49; refine (szStringS_any _ _ _ _ (H1.out.kept ((Kept.refl _).alloc _)) h0 h1).mono ?_; rintro e w' ⟨rfl, rfl⟩) | (go_at_call 50; refine (szIntS_any _ _ _ _ (H2.out.kept ((Kept.refl _).alloc _)) hpos (by omega)).mono ?_; rintro e w' ⟨rfl, rfl⟩))
    all_goals
      go_ret
      refine ⟨ret_int ?_, (Kept.refl _).alloc _⟩
      unfold ItemD.size
      rw [← HF.out]
      try (rw [HN.out (by assumption)])
theorem item_size_le {its : List ItemD} {k : Nat} {it : ItemD} (h : its[k]? = some it) : it.size ≤ itemsSize its := by
  have := mem_le_sum (its.map ItemD.size) it.size (List.mem_map_of_mem (List.mem_of_getElem? h))
  unfold itemsSize
  omega
theorem item_parts (it : ItemD) : it.names.length ≤ it.size ∧ it.marks.length ≤ it.size := by
  unfold ItemD.size strsSize
  omega
set_option maxHeartbeats 400000 in
theorem szItemS_any (v : Value) (its : List ItemD) (left : Int) (w : World) (h : ItemsAt w v its) (h0 : 0 ≤ left) (h1 : left ≤ 1048576) :
    Calls Tryd.prog 19 #[v, .int .i64 left] w fun e w' => e = .returned (.int .i64 (lessOr left (itemsSize its))) ∧ Kept w w' := by
  obtain ⟨A, c, cs, rfl, hnc, hcm, hA⟩ := h.out
  unfold maxLen at hcm
  have HA := Lib.hid hA
  clear hA h
  by_cases hb : (its.length : Int) ≤ left
  · go_enter Tryd.func19, Tryd.ntmps19
    go_wp2_with fail
    go_loopw [1, 5] (fun q i wr => ∃ k : Nat, k ≤ its.length ∧ i = .int .i64 k ∧ q = .int .i64 (left - its.length - ((its.take k).map ItemD.size).sum) ∧ 0 ≤ left - its.length - (((its.take k).map ItemD.size).sum : Nat) ∧ Kept w wr) (fun _ i _ => its.length - (intOf i).toNat)
    case atStart => exact ⟨0, Nat.zero_le _, rfl, by simp, by simp; omega, Kept.refl _⟩
    case round =>
      obtain ⟨k, hk, rfl, rfl, hge, hkept⟩ := hrel
      by_cases hlt : k < its.length
      · obtain ⟨b, o, A1, c1, A2, c2, it, rfl, hb', h2, h3, hit, q0, q1, q2⟩ := items_at (HA.out.kept hkept) hlt
        have HN := Lib.hid (sum_snoc ItemD.size h2)
        have HT := Lib.hid (sum_take _ ItemD.size its (k + 1))
        have HI := Lib.hid hit
        clear h2 h3 hit
        generalize ((its.take k).map ItemD.size).sum = sk at *
        by_cases hl2 : (it.size : Int) ≤ left - its.length - sk
        · have HE : Hid (lessOr (left - its.length - sk) it.size = left - its.length - sk - it.size) := by unfold lessOr; exact if_pos hl2
          go_wp2_with fail
          refine (szItem_any _ it _ _ HI.out hge (by omega)).mono ?_
          rintro e w1 ⟨rfl, k1⟩
          rw [HE.out]
          go_wp2_with fail
          go_roundw
          case rel => exact ⟨k + 1, by omega, by go_num, by rw [HN.out]; congr 1; omega, by rw [HN.out]; omega, hkept.trans k1⟩
          case measure => simp [intOf]; omega
        · have HE : Hid (lessOr (left - its.length - sk) it.size = -1) := by unfold lessOr; exact if_neg hl2
          go_wp2_with fail
          refine (szItem_any _ it _ _ HI.out hge (by omega)).mono ?_
          rintro e w1 ⟨rfl, k1⟩
          rw [HE.out]
          go_wp2_with fail
          go_ret
          refine ⟨ret_int ?_, hkept.trans k1⟩
          have q1 := HN.out
          have q2 := HT.out
          unfold lessOr itemsSize
          rw [if_neg (by omega)]
      · obtain rfl : k = its.length := by omega
        go_wp2_with fail
        go_ret
        refine ⟨ret_int ?_, hkept⟩
        try simp only [List.take_length] at hge ⊢
        unfold lessOr itemsSize
        rw [if_pos (by omega)]
        omega
  · go_enter Tryd.func19, Tryd.ntmps19
    go_wp2_with fail
    go_ret
    refine ⟨ret_int ?_, Kept.refl _⟩
    unfold lessOr itemsSize
    rw [if_neg (by omega)]
set_option maxHeartbeats 400000 in
theorem eqItem_any (v1 v2 : Value) (a : ItemD) (w : World) (h1 : ItemAt w v1 a) (h2 : ItemAt w v2 a) :
    Calls Tryd.prog 18 #[v1, v2] w fun e w' => e = .returned (.bool true) ∧ Kept w w' := by
  obtain ⟨nv, mv, rfl, q1, q2⟩ := h1
  obtain ⟨nv', mv', rfl, q3, q4⟩ := h2
  have H1 := Lib.hid q1
  have H2 := Lib.hid q2
  have H3 := Lib.hid q3
  have H4 := Lib.hid q4
  clear q1 q2 q3 q4
  have K0 : Kept w ((w.alloc (.cells #[nv, mv, .bool a.late] 31)).alloc (.cells #[nv', mv', .bool a.late] 31)) := ((Kept.refl w).alloc _).alloc _
  go_enter Tryd.func18, Tryd.ntmps18
  go_wp2_with fail
  refine (eqStringS_any _ _ a.names a.names _ (H1.out.kept K0) (H3.out.kept K0)).mono ?_
  rintro e w1 ⟨rfl, k1⟩
  have B0 := ((Box.new w w.heap.size 31 #[nv, mv, .bool a.late] rfl).alloc (.cells #[nv', mv', .bool a.late] 31)).kept k1
  have B1 := (Box.new (w.alloc (.cells #[nv, mv, .bool a.late] 31)) (w.heap.size + 1) 31 #[nv', mv', .bool a.late] (by simp)).kept k1
  obtain ⟨c0, f0⟩ := B0.three
  obtain ⟨c1, f1⟩ := B1.three
  have K1 := K0.trans k1
  clear k1 f0 f1
  have hd : decide (a.names = a.names) = true := by simp
  rw [hd]
  clear hd
  go_wp2_with fail
  clear c0 c1
  refine (eqIntS_any _ _ a.marks a.marks _ (H2.out.kept K1) (H4.out.kept K1)).mono ?_
  rintro e w2 ⟨rfl, k2⟩
  obtain ⟨c0, f0⟩ := (B0.kept k2).three
  obtain ⟨c1, f1⟩ := (B1.kept k2).three
  have K2 := K1.trans k2
  have hd : decide (a.marks = a.marks) = true := by simp
  rw [hd]
  clear hd f0 f1
  go_wp2_with fail
  go_ret
  exact ⟨rfl, K2⟩
/-! ### lists of items that the call owns -/
theorem OwnS.far {w w' : World} {base base' : Nat} {v : Value} {zs : List ByteArray} {S : List Nat} (h : OwnS w base v zs) (ho : Only S w w') (hS : ∀ b ∈ S, b < base) (hb : base' ≤ base) : OwnS w' base' v zs := ⟨own_far h.1 ho hS hb, h.2⟩
def fpL (cs : List (Value × Value)) : List Nat := cs.flatMap fun p => fp p.1 ++ fp p.2
theorem fpL_snoc (cs : List (Value × Value)) (a b : Value) : fpL (cs ++ [(a, b)]) = fpL cs ++ (fp a ++ fp b) := by simp [fpL]
def OwnL (w : World) (base : Nat) (v : Value) (its : List ItemD) (S : List Nat) : Prop :=
  ∃ cs : List (Value × Value), cs.length = its.length ∧ w.ownsRow base 31 3 v its.length ((cs.zip its).flatMap row3) ∧
    (∀ (k : Nat) (nv mv : Value) (it : ItemD), cs[k]? = some (nv, mv) → its[k]? = some it → OwnS w base nv it.names ∧ OwnI w base mv it.marks) ∧ S = fp v ++ fpL cs ∧ S.Nodup ∧ ∀ b ∈ S, base ≤ b ∧ b < w.heap.size
theorem OwnL.items {w : World} {base : Nat} {v : Value} {its : List ItemD} {S : List Nat} (h : OwnL w base v its S) : ItemsAt w v its := by
  obtain ⟨cs, h1, h2, h3, _⟩ := h
  exact ⟨cs, h1, Seq.of_own h2, fun k nv mv it q1 q2 => ⟨(h3 k nv mv it q1 q2).1.strs, (h3 k nv mv it q1 q2).2.ints⟩⟩
theorem mem_fpL {cs : List (Value × Value)} {k : Nat} {nv mv : Value} (h : cs[k]? = some (nv, mv)) {b : Nat} (hb : b ∈ fp nv ∨ b ∈ fp mv) : b ∈ fpL cs := by
  unfold fpL
  rw [List.mem_flatMap]
  exact ⟨(nv, mv), List.mem_of_getElem? h, by simpa using hb⟩
theorem OwnL.only {w w' : World} {base : Nat} {v : Value} {its : List ItemD} {S T : List Nat} (h : OwnL w base v its S) (ho : Only T w w') (hd : ∀ b ∈ S, b ∉ T) : OwnL w' base v its S := by
  obtain ⟨cs, h1, h2, h3, rfl, h5, h6⟩ := h
  refine ⟨cs, h1, own_only h2 ho (fun b hb => hd b (List.mem_append_left _ hb)), fun k nv mv it q1 q2 => ⟨(h3 k nv mv it q1 q2).1.only ho (fun b hb => hd b (List.mem_append_right _ (mem_fpL q1 (.inl hb)))), (h3 k nv mv it q1 q2).2.only ho (fun b hb => hd b (List.mem_append_right _ (mem_fpL q1 (.inr hb))))⟩, rfl, h5, fun b hb => ⟨(h6 b hb).1, Nat.lt_of_lt_of_le (h6 b hb).2 ho.size⟩⟩
theorem OwnL.kept {w w' : World} {base : Nat} {v : Value} {its : List ItemD} {S : List Nat} (h : OwnL w base v its S) (hk : Kept w w') : OwnL w' base v its S := h.only (hk.only []) (fun _ _ => List.not_mem_nil)
theorem set3_take {xs ys : List Value} {k n : Nat} {a b c : Value} (hl : xs.length = n * 3) (hk : k < n) (ht : xs.take (k * 3) = ys) :
    (((xs.set (k * 3) a).set (k * 3 + 1) b).set (k * 3 + 2) c).take ((k + 1) * 3) = ys ++ [a, b, c] := by
  have h1 : k * 3 + 2 < xs.length := by omega
  rw [show (k + 1) * 3 = k * 3 + 2 + 1 from by omega]
  rw [take_snoc (x := c) (by rw [List.getElem?_set_self (by simp; omega)]), List.take_set_of_le (Nat.le_refl _)]
  rw [take_snoc (x := b) (by rw [List.getElem?_set_self (by simp; omega)]), List.take_set_of_le (Nat.le_refl _)]
  rw [take_snoc (x := a) (by rw [List.getElem?_set_self (by omega)]), List.take_set_of_le (Nat.le_refl _), ht]
  simp
theorem zip_snoc {cs : List (Value × Value)} {its : List ItemD} {p : Value × Value} {it : ItemD} (h : its[cs.length]? = some it) : (cs ++ [p]).zip its = cs.zip its ++ [(p, it)] := by
  induction cs generalizing its with
  | nil =>
    cases its with
    | nil => simp at h
    | cons x l => simp at h; simp [h]
  | cons q cs ih =>
    cases its with
    | nil => simp at h
    | cons x l =>
      simp at h
      simp [ih h]
theorem getElem?_snoc {α : Type} {l : List α} {x y : α} {k : Nat} (h : (l ++ [x])[k]? = some y) : (l[k]? = some y) ∨ (k = l.length ∧ x = y) := by
  rcases Nat.lt_trichotomy k l.length with h1 | h1 | h1
  · rw [List.getElem?_append_left h1] at h
    exact .inl h
  · subst h1
    simp at h
    exact .inr ⟨rfl, h⟩
  · rw [List.getElem?_eq_none (by simp; omega)] at h
    cases h
set_option maxHeartbeats 1000000 in
theorem toItemS_any (v : Value) (its : List ItemD) (w : World) (h : ItemsAt w v its) (hn : itemsSize its ≤ 1048576) :
    Calls Tryd.prog 21 #[v] w fun e w' => ∃ v' S, e = .returned v' ∧ OwnL w' w.heap.size v' its S ∧ Kept w w' := by
  obtain ⟨A, c, cs, rfl, hnc, hcm, hA⟩ := h.out
  unfold maxLen at hcm
  have HA := Lib.hid hA
  clear hA h
  have hlen : its.length ≤ 1048576 := by unfold itemsSize at hn; omega
  obtain ⟨i0, hi, hz0, hz1, hz2⟩ := info_parts info_item
  go_enter Tryd.func21, Tryd.ntmps21
  go_wp2_with (at_make; refine wpList_make_full _ rfl _ _ 38 rfl w.heap.size 31 i0 _ 3 Tryd.underlying38 hi hz0 hz1 _ _ _ _ its.length rfl rfl rfl rfl (by rw [hz2]; omega) (by unfold maxLen; omega) (Nat.le_refl _) ?_; intro w1 hown hgrow)
  have hk1 : Kept w w1 := (Below.refl _ _).grown hgrow (Nat.le_refl _) (by intro k hk; cases hk)
  have hsz1 : w.heap.size < w1.heap.size := (hown.lt w.heap.size rfl).2
  clear hgrow hi hz0 hz1 hz2
  go_loopw [4] (fun i wr => ∃ (k : Nat) (xs : List Value) (vs : List (Value × Value)), k ≤ its.length ∧ i = .int .i64 k ∧ wr.ownsRow w.heap.size 31 3 (.slice (some ⟨w.heap.size, 0, none⟩) its.length its.length) its.length xs ∧ vs.length = k ∧ xs.take (k * 3) = (vs.zip its).flatMap row3 ∧
    (∀ (j : Nat) (nv mv : Value) (it : ItemD), vs[j]? = some (nv, mv) → its[j]? = some it → OwnS wr (w.heap.size + 1) nv it.names ∧ OwnI wr (w.heap.size + 1) mv it.marks) ∧ (fpL vs).Nodup ∧ (∀ b ∈ fpL vs, w.heap.size + 1 ≤ b ∧ b < wr.heap.size) ∧ Kept w wr) (fun i _ => its.length - (intOf i).toNat)
  case atStart => exact ⟨0, _, [], Nat.zero_le _, rfl, hown, rfl, by simp, by simp, by simp [fpL], by simp [fpL], hk1⟩
  case round =>
    clear hown hk1
    obtain ⟨k, xs, vs, hk, rfl, ho, hvl, ht, hvs, hnd, hlt', hkept⟩ := hrel
    by_cases hlt : k < its.length
    · obtain ⟨b, o, A1, c1, A2, c2, it, rfl, hb, h2, h3, hit, q0, q1, q2⟩ := items_at (HA.out.kept hkept) hlt
      have hsize := item_size_le h2
      have hparts := item_parts it
      have H2 := Lib.hid h2
      have HI := Lib.hid hit
      have HO := Lib.hid ho
      have HV := Lib.hid hvs
      have HVL := Lib.hid hvl
      have HT := Lib.hid ht
      have HND := Lib.hid hnd
      have HLT := Lib.hid hlt'
      clear h2 h3 hit ho hvs hvl ht hnd hlt'
      go_wp2_with fail
      refine (toItem_any _ it _ HI.out (by omega) (by omega)).mono ?_
      rintro e w2 ⟨v2, rfl, ⟨nv, mv, rfl, o1, o2, nd⟩, k2⟩
      obtain ⟨B1, d1, rfl, _, _, _⟩ := own_form o1.1
      obtain ⟨B2, d2, rfl, _, _, _⟩ := own_form o2
      have ho2 := own_kept HO.out k2
      obtain ⟨u0, _, x0, y0⟩ := own_at ho2 (j := k * 3) (by omega)
      obtain ⟨u1, _, x1, y1⟩ := own_at ho2 (j := k * 3 + 1) (by omega)
      obtain ⟨u2', _, x2, y2⟩ := own_at ho2 (j := k * 3 + 2) (by omega)
      have O1 := Lib.hid o1
      have O2 := Lib.hid o2
      have ND := Lib.hid nd
      have HO2 := Lib.hid ho2
      clear o1 o2 nd ho2 q0 q1 q2
      go_wp2_with fail
      have K3 : Only [w.heap.size] w2 (((w2.setCell ⟨w.heap.size, k * 3, none⟩ (.slice B1 it.names.length d1)).setCell ⟨w.heap.size, k * 3 + 1, none⟩ (.slice B2 it.marks.length d2)).setCell ⟨w.heap.size, k * 3 + 2, none⟩ (.bool it.late)) := by
        repeat (refine Only.setCell ?_ (by simp) _)
        exact Only.refl _ _
      have hwr : w.heap.size + 1 ≤ wr.heap.size := (HO.out.lt w.heap.size rfl).2
      have hlenx : xs.length = its.length * 3 := HO.out.1
      go_roundw
      case rel =>
        refine ⟨k + 1, _, vs ++ [(.slice B1 it.names.length d1, .slice B2 it.marks.length d2)], by omega, by go_num, (((HO2.out.stored (k * 3) _).1.stored (k * 3 + 1) _).1.stored (k * 3 + 2) _).1, by simp [HVL.out], ?_, ?_, ?_, ?_, ?_⟩
        · rw [set3_take hlenx hlt HT.out, zip_snoc (by rw [HVL.out]; exact H2.out)]
          simp [row3]
        · intro j nv mv it' q1 q2
          rcases getElem?_snoc q1 with q | ⟨q, qe⟩
          · obtain ⟨r1, r2⟩ := HV.out j nv mv it' q q2
            exact ⟨(r1.kept k2).far K3 (by simp) (Nat.le_refl _), (r2.kept k2).far K3 (by simp) (Nat.le_refl _)⟩
          · rw [q, HVL.out, H2.out] at q2
            injection q2 with q2
            subst q2
            simp only [Prod.mk.injEq] at qe
            obtain ⟨rfl, rfl⟩ := qe
            exact ⟨O1.out.far K3 (by simp; omega) hwr, O2.out.far K3 (by simp; omega) hwr⟩
        · rw [fpL_snoc]
          have nd := ND.out
          rw [fpA_item] at nd
          rw [List.nodup_append]
          refine ⟨HND.out, nd, fun x hx y hy e => ?_⟩
          have h1 := (HLT.out x hx).2
          rcases List.mem_append.1 hy with h | h
          · have := (own_fp O1.out.1 y h).1; omega
          · have := (own_fp O2.out y h).1; omega
        · intro x hx
          rw [fpL_snoc] at hx
          have hs3 := K3.size
          have hs2 := k2.size
          rcases List.mem_append.1 hx with h | h
          · have := HLT.out x h; omega
          · rcases List.mem_append.1 h with h | h
            · have := own_fp O1.out.1 x h; omega
            · have := own_fp O2.out x h; omega
        · exact K3.above (hkept.trans k2) (by simp)
      case measure => simp [intOf]; omega
    · obtain rfl : k = its.length := by omega
      have hlenx : xs.length = its.length * 3 := ho.1
      have hx : xs = (vs.zip its).flatMap row3 := by rw [← ht, List.take_of_length_le (by omega)]
      have HO := Lib.hid ho
      have HX := Lib.hid hx
      have HV := Lib.hid hvs
      have HVL := Lib.hid hvl
      have HND := Lib.hid hnd
      have HLT := Lib.hid hlt'
      clear ho ht hvs hvl hnd hlt' hx hlenx
      go_wp2_with fail
      go_ret
      refine ⟨_, fp (.slice (some ⟨w.heap.size, 0, none⟩) its.length its.length) ++ fpL vs, rfl, ⟨vs, HVL.out, by rw [← HX.out]; exact HO.out, ?_, rfl, ?_, ?_⟩, hkept⟩
      · intro j nv mv it q1 q2
        obtain ⟨r1, r2⟩ := HV.out j nv mv it q1 q2
        exact ⟨⟨own_base r1.1 (by omega), r1.2⟩, own_base r2 (by omega)⟩
      · rw [List.nodup_append]
        refine ⟨nodup_one _, HND.out, fun x hx y hy e => ?_⟩
        have := (HLT.out y hy).1
        rw [fp_some, List.mem_singleton] at hx
        dsimp only at hx
        omega
      · intro x hx
        rcases List.mem_append.1 hx with h | h
        · have := own_fp HO.out x h; omega
        · have := HLT.out x h; omega
end Go.Proofs.YtmlfegfplepehaaDoor

/- Lists of items compared; which items are valid. -/
namespace Go.Proofs.YtmlfegfplepehaaDoor
set_option linter.unusedVariables false
set_option linter.unusedSimpArgs false
open Go.RowKit

set_option maxRecDepth 100000 in
set_option maxHeartbeats 1000000 in
theorem eqItemS_any (v1 v2 : Value) (its : List ItemD) (w : World) (h1 : ItemsAt w v1 its) (h2 : ItemsAt w v2 its) :
    Calls Tryd.prog 23 #[v1, v2] w fun e w' => e = .returned (.bool true) ∧ Kept w w' := by
  obtain ⟨A, c, cs, rfl, hnc, hcm, hA⟩ := h1.out
  obtain ⟨A', c', cs', rfl, hnc', hcm', hA'⟩ := h2.out
  unfold maxLen at hcm hcm'
  have HA := Lib.hid hA
  have HA' := Lib.hid hA'
  clear hA h1 hA' h2
  have hne : ((its.length : Int) != (its.length : Int)) = false := by simp
  go_enter Tryd.func23, Tryd.ntmps23
  go_wp2_with fail
  go_loopw [5] (fun i wr => ∃ k : Nat, k ≤ its.length ∧ i = .int .i64 k ∧ Kept w wr) (fun i _ => its.length - (intOf i).toNat)
  case atStart => exact ⟨0, Nat.zero_le _, rfl, Kept.refl _⟩
  case round =>
    obtain ⟨k, hk, rfl, hkept⟩ := hrel
    by_cases hlt : k < its.length
    · obtain ⟨b, o, A1, c1, A2, c2, it, rfl, hb, h2, h3, hit, q0, q1, q2⟩ := items_at (HA.out.kept hkept) hlt
      obtain ⟨b', o', A1', c1', A2', c2', it', rfl, hb', h2', h3', hit', q0', q1', q2'⟩ := items_at (HA'.out.kept hkept) hlt
      rw [h2] at h2'
      injection h2' with h2'
      subst h2'
      have HI := Lib.hid hit
      have HI' := Lib.hid hit'
      have hlt' : (k : Int) < (its.length : Int) := by omega
      clear h2 h3 h3' hit hit'
      go_wp2_with fail
      go_still_tail 8, (by kernel_rfl)
      go_wp2_with fail
      refine (eqItem_any _ _ it _ (HI.out.kept (Kept.refl wr).drew) (HI'.out.kept (Kept.refl wr).drew)).mono ?_
      rintro e w1 ⟨rfl, k1⟩
      go_wp2_with fail
      go_roundw
      case rel => exact ⟨k + 1, by omega, by go_num, hkept.drew.trans k1⟩
      case measure => simp [intOf]; omega
    · go_wp2_with fail
      go_ret
      exact ⟨rfl, hkept⟩
/-! ### which items are valid -/
def itemB (it : ItemD) : Bool := it.names.all nameB && inB it.names.length 1 3 && (it.marks.length == it.names.length) && it.marks.all (inB · 0 3)
def itemsB (its : List ItemD) : Bool := its.all itemB && decide (its.length ≤ 14)
set_option maxHeartbeats 1000000 in
theorem isItem_any (v : Value) (it : ItemD) (w : World) (h : ItemAt w v it) :
    Calls Tryd.prog 55 #[v] w fun e w' => e = .returned (.bool (itemB it)) ∧ Kept w w' := by
  obtain ⟨nv, mv, rfl, q1, q2⟩ := h
  obtain ⟨A, c, rfl, hnc, hcm, hl⟩ := q1.1.out
  obtain ⟨A2, c2, rfl, hnc2, hcm2, _⟩ := q2.out
  unfold maxLen at hcm hcm2
  have HL := Lib.hid hl
  have HS := Lib.hid q1.2
  have H2 := Lib.hid q2
  clear q1 q2 hl
  go_enter Tryd.func55, Tryd.ntmps55
  go_wp2_with fail
  go_loop [8] (fun i => ∃ k : Nat, k ≤ it.names.length ∧ i = .int .i64 k ∧ (it.names.take k).all nameB = true) (fun i => it.names.length - (intOf i).toNat)
  case atStart => exact ⟨0, Nat.zero_le _, rfl, rfl⟩
  case round =>
    obtain ⟨k, hk, rfl, ha⟩ := hrel
    have HA := Lib.hid ha
    clear ha
    by_cases hlt : k < it.names.length
    · obtain ⟨b, o, z, rfl, hb, hz, hc⟩ := strs_at (HL.out.kept ((Kept.refl w).alloc (.cells #[.slice A it.names.length c, .slice A2 it.marks.length c2, .bool it.late] 31))) hlt
      have hzs := HS.out z (List.mem_of_getElem? hz)
      have HZ := Lib.hid hz
      clear hz
      by_cases hn : nameB z = true
      · go_wp2_with (go_at_call 101; refine (isName_any _ _ hzs).mono ?_; rintro e w' ⟨rfl, rfl⟩)
        go_round
        case rel => exact ⟨k + 1, by omega, by go_num, all_snoc HZ.out HA.out hn⟩
        case measure => simp [intOf]; omega
      · simp only [Bool.not_eq_true] at hn
        go_wp2_with (go_at_call 101; refine (isName_any _ _ hzs).mono ?_; rintro e w' ⟨rfl, rfl⟩)
        go_ret
        exact ⟨ret_bool (by unfold itemB; rw [all_not HZ.out hn]; rfl), (Kept.refl _).alloc _⟩
    · have hall := all_full (p := nameB) (by omega) HA.out
      have HALL := Lib.hid hall
      clear hall
      by_cases h3 : inB it.names.length 1 3 = true <;> by_cases h4 : it.marks.length = it.names.length
      all_goals
        try simp only [Bool.not_eq_true] at h3
        have H4 := Lib.hid h4
        first
          | (have h5 : ((it.marks.length : Int) == (it.names.length : Int)) = true := by simp [h4])
          | (have h5 : ((it.marks.length : Int) == (it.names.length : Int)) = false := beq_eq_false_iff_ne.2 (by omega))
        clear h4
        go_wp2_with (first | (go_at_call 90; refine (within_any _ _ _ _).mono ?_; rintro e w' ⟨rfl, rfl⟩) | (go_at_call 96; refine (allWithin_any _ _ _ _ _ (H2.out.kept ((Kept.refl w).alloc _))).mono ?_; rintro e w' ⟨rfl, rfl⟩))
        go_ret
        exact ⟨ret_bool (by unfold itemB; rw [HALL.out, h3]; simp [H4.out]), (Kept.refl _).alloc _⟩
set_option maxHeartbeats 1000000 in
theorem itGood_any (v : Value) (it : ItemD) (w : World) (h : ItemAt w v it) :
    Calls Tryd.prog 51 #[v] w fun e w' => e = .returned (.bool (itemB it)) ∧ Kept w w' := by
  obtain ⟨nv, mv, rfl, q1, q2⟩ := h
  obtain ⟨A, c, rfl, hnc, hcm, hl⟩ := q1.1.out
  obtain ⟨A2, c2, rfl, hnc2, hcm2, _⟩ := q2.out
  unfold maxLen at hcm hcm2
  have HL := Lib.hid hl
  have HS := Lib.hid q1.2
  have H2 := Lib.hid q2
  clear q1 q2 hl
  go_enter Tryd.func51, Tryd.ntmps51
  go_wp2_with fail
  go_loop [8] (fun i => ∃ k : Nat, k ≤ it.names.length ∧ i = .int .i64 k ∧ (it.names.take k).all nameB = true) (fun i => it.names.length - (intOf i).toNat)
  case atStart => exact ⟨0, Nat.zero_le _, rfl, rfl⟩
  case round =>
    obtain ⟨k, hk, rfl, ha⟩ := hrel
    have HA := Lib.hid ha
    clear ha
    by_cases hlt : k < it.names.length
    · obtain ⟨b, o, z, rfl, hb, hz, hc⟩ := strs_at (HL.out.kept ((Kept.refl w).alloc (.cells #[.slice A it.names.length c, .slice A2 it.marks.length c2, .bool it.late] 31))) hlt
      have hzs := HS.out z (List.mem_of_getElem? hz)
      have HZ := Lib.hid hz
      clear hz
      by_cases hn : nameB z = true
      · go_wp2_with (go_at_call 98; refine (itName_any _ _ hzs).mono ?_; rintro e w' ⟨rfl, rfl⟩)
        go_round
        case rel => exact ⟨k + 1, by omega, by go_num, all_snoc HZ.out HA.out hn⟩
        case measure => simp [intOf]; omega
      · simp only [Bool.not_eq_true] at hn
        go_wp2_with (go_at_call 98; refine (itName_any _ _ hzs).mono ?_; rintro e w' ⟨rfl, rfl⟩)
        go_ret
        exact ⟨ret_bool (by unfold itemB; rw [all_not HZ.out hn]; rfl), (Kept.refl _).alloc _⟩
    · have hall := all_full (p := nameB) (by omega) HA.out
      have HALL := Lib.hid hall
      clear hall
      by_cases h3 : inB it.names.length 1 3 = true <;> by_cases h4 : it.marks.length = it.names.length
      all_goals
        try simp only [Bool.not_eq_true] at h3
        have H4 := Lib.hid h4
        first
          | (have h5 : ((it.marks.length : Int) == (it.names.length : Int)) = true := by simp [h4])
          | (have h5 : ((it.marks.length : Int) == (it.names.length : Int)) = false := beq_eq_false_iff_ne.2 (by omega))
        clear h4
        go_wp2_with (first | (go_at_call 94; refine (l1In_any _ _ _ _).mono ?_; rintro e w' ⟨rfl, rfl⟩) | (go_at_call 99; refine (l1All_any _ _ _ _ _ (H2.out.kept ((Kept.refl w).alloc _))).mono ?_; rintro e w' ⟨rfl, rfl⟩))
        go_ret
        exact ⟨ret_bool (by unfold itemB; rw [HALL.out, h3]; simp [H4.out]), (Kept.refl _).alloc _⟩
set_option maxHeartbeats 1000000 in
theorem areItems_any (v : Value) (its : List ItemD) (w : World) (h : ItemsAt w v its) :
    Calls Tryd.prog 61 #[v] w fun e w' => e = .returned (.bool (itemsB its)) ∧ Kept w w' := by
  obtain ⟨A, c, cs, rfl, hnc, hcm, hA⟩ := h.out
  unfold maxLen at hcm
  have HA := Lib.hid hA
  clear hA h
  go_enter Tryd.func61, Tryd.ntmps61
  go_wp2_with fail
  go_loopw [7] (fun i wr => ∃ k : Nat, k ≤ its.length ∧ i = .int .i64 k ∧ (its.take k).all itemB = true ∧ Kept w wr) (fun i _ => its.length - (intOf i).toNat)
  case atStart => exact ⟨0, Nat.zero_le _, rfl, rfl, Kept.refl _⟩
  case round =>
    obtain ⟨k, hk, rfl, ha, hkept⟩ := hrel
    have HB := Lib.hid ha
    clear ha
    by_cases hlt : k < its.length
    · obtain ⟨b, o, A1, c1, A2, c2, it, rfl, hb, h2, h3, hit, q0, q1, q2⟩ := items_at (HA.out.kept hkept) hlt
      have HI := Lib.hid hit
      have HZ := Lib.hid h2
      clear h2 h3 hit
      by_cases hn : itemB it = true
      · go_wp2_with (go_at_call 55; refine (isItem_any _ it _ (HI.out.kept ((Kept.refl wr).alloc _))).mono ?_; rintro e w1 ⟨rfl, k1⟩)
        go_roundw
        case rel => exact ⟨k + 1, by omega, by go_num, all_snoc HZ.out HB.out hn, (hkept.alloc _).trans k1⟩
        case measure => simp [intOf]; omega
      · simp only [Bool.not_eq_true] at hn
        go_wp2_with (go_at_call 55; refine (isItem_any _ it _ (HI.out.kept ((Kept.refl wr).alloc _))).mono ?_; rintro e w1 ⟨rfl, k1⟩)
        go_ret
        exact ⟨ret_bool (by unfold itemsB; rw [all_not HZ.out hn]; rfl), (hkept.alloc _).trans k1⟩
    · have HALL := Lib.hid (all_full (p := itemB) (by omega) HB.out)
      go_wp2_with fail
      go_ret
      exact ⟨ret_bool (by unfold itemsB; rw [HALL.out, Bool.true_and]; exact decide_eq_decide.2 (by omega)), hkept⟩
set_option maxHeartbeats 1000000 in
theorem itList_any (v : Value) (its : List ItemD) (w : World) (h : ItemsAt w v its) :
    Calls Tryd.prog 59 #[v] w fun e w' => e = .returned (.bool (itemsB its)) ∧ Kept w w' := by
  obtain ⟨A, c, cs, rfl, hnc, hcm, hA⟩ := h.out
  unfold maxLen at hcm
  have HA := Lib.hid hA
  clear hA h
  go_enter Tryd.func59, Tryd.ntmps59
  go_wp2_with fail
  go_loopw [7] (fun i wr => ∃ k : Nat, k ≤ its.length ∧ i = .int .i64 k ∧ (its.take k).all itemB = true ∧ Kept w wr) (fun i _ => its.length - (intOf i).toNat)
  case atStart => exact ⟨0, Nat.zero_le _, rfl, rfl, Kept.refl _⟩
  case round =>
    obtain ⟨k, hk, rfl, ha, hkept⟩ := hrel
    have HB := Lib.hid ha
    clear ha
    by_cases hlt : k < its.length
    · obtain ⟨b, o, A1, c1, A2, c2, it, rfl, hb, h2, h3, hit, q0, q1, q2⟩ := items_at (HA.out.kept hkept) hlt
      have HI := Lib.hid hit
      have HZ := Lib.hid h2
      clear h2 h3 hit
      by_cases hn : itemB it = true
      · go_wp2_with (go_at_call 51; refine (itGood_any _ it _ (HI.out.kept ((Kept.refl wr).alloc _))).mono ?_; rintro e w1 ⟨rfl, k1⟩)
        go_roundw
        case rel => exact ⟨k + 1, by omega, by go_num, all_snoc HZ.out HB.out hn, (hkept.alloc _).trans k1⟩
        case measure => simp [intOf]; omega
      · simp only [Bool.not_eq_true] at hn
        go_wp2_with (go_at_call 51; refine (itGood_any _ it _ (HI.out.kept ((Kept.refl wr).alloc _))).mono ?_; rintro e w1 ⟨rfl, k1⟩)
        go_ret
        exact ⟨ret_bool (by unfold itemsB; rw [all_not HZ.out hn]; rfl), (hkept.alloc _).trans k1⟩
    · have HALL := Lib.hid (all_full (p := itemB) (by omega) HB.out)
      go_wp2_with fail
      go_ret
      exact ⟨ret_bool (by unfold itemsB; rw [HALL.out, Bool.true_and]; exact decide_eq_decide.2 (by omega)), hkept⟩
end Go.Proofs.YtmlfegfplepehaaDoor

/- How often a name occurs in a list. -/
namespace Go.Proofs.YtmlfegfplepehaaDoor
set_option linter.unusedVariables false
set_option linter.unusedSimpArgs false
open Go.RowKit

def cnt (s : ByteArray) (l : List ByteArray) : Nat := (l.filter fun x => decide (x = s)).length
def cntC (s : ByteArray) (it : ItemD) : Nat := if 1 < it.names.length then cnt s it.names else 0
def times (its : List ItemD) (s : ByteArray) : Nat := (its.map fun it => cnt s it.names).sum
def timesC (its : List ItemD) (s : ByteArray) : Nat := (its.map (cntC s)).sum
theorem cnt_snoc {s z : ByteArray} {l : List ByteArray} {k : Nat} (h : l[k]? = some z) : cnt s (l.take (k + 1)) = cnt s (l.take k) + if z = s then 1 else 0 := by
  unfold cnt
  rw [take_snoc h, List.filter_append]
  by_cases hz : z = s <;> simp [List.filter_cons, hz]
theorem cnt_le (s : ByteArray) (l : List ByteArray) : cnt s l ≤ l.length := List.length_filter_le _ _
theorem itemsB_true {its : List ItemD} (h : itemsB its = true) : its.length ≤ 14 ∧ ∀ it ∈ its, itemB it = true := by
  unfold itemsB at h
  rw [Bool.and_eq_true] at h
  exact ⟨by simpa using h.2, fun it hi => List.all_eq_true.1 h.1 it hi⟩
theorem itemB_true {it : ItemD} (h : itemB it = true) : (∀ z ∈ it.names, nameB z = true) ∧ 1 ≤ it.names.length ∧ it.names.length ≤ 3 ∧ it.marks.length = it.names.length ∧ ∀ m ∈ it.marks, 0 ≤ m ∧ m ≤ 3 := by
  unfold itemB at h
  simp only [Bool.and_eq_true] at h
  obtain ⟨⟨⟨h1, h2⟩, h3⟩, h4⟩ := h
  have h5 := inB_true h2
  exact ⟨fun z hz => List.all_eq_true.1 h1 z hz, by omega, by omega, by simpa using h3, fun m hm => inB_true (List.all_eq_true.1 h4 m hm)⟩
theorem sum_le_mul (l : List Nat) (B : Nat) (h : ∀ x ∈ l, x ≤ B) : l.sum ≤ l.length * B := by
  induction l with
  | nil => simp
  | cons y l ih =>
    have h1 := h y (by simp)
    have h2 := ih (fun x hx => h x (by simp [hx]))
    rw [List.sum_cons, List.length_cons, Nat.succ_mul]
    omega
theorem times_bd {its : List ItemD} (hb : itemsB its = true) (s : ByteArray) (k : Nat) : ((its.take k).map fun it => cnt s it.names).sum ≤ 42 ∧ ((its.take k).map (cntC s)).sum ≤ 42 := by
  obtain ⟨h1, h2⟩ := itemsB_true hb
  have hl : (its.take k).length ≤ 14 := by rw [List.length_take]; omega
  have hc : ∀ it ∈ its.take k, cnt s it.names ≤ 3 := fun it hi => Nat.le_trans (cnt_le s _) (itemB_true (h2 it (List.mem_of_mem_take hi))).2.2.1
  constructor
  · have := sum_le_mul ((its.take k).map fun it => cnt s it.names) 3 (by
      intro x hx
      obtain ⟨it, hi, rfl⟩ := List.mem_map.1 hx
      exact hc it hi)
    rw [List.length_map] at this
    omega
  · have := sum_le_mul ((its.take k).map (cntC s)) 3 (by
      intro x hx
      obtain ⟨it, hi, rfl⟩ := List.mem_map.1 hx
      unfold cntC
      split
      · exact hc it hi
      · omega)
    rw [List.length_map] at this
    omega
def tmV (its : List ItemD) (s : ByteArray) : Int := if itemsB its && nameB s then (times its s : Int) else 0
def tmC (its : List ItemD) (s : ByteArray) : Int := if itemsB its && nameB s then (timesC its s : Int) else 0
end Go.Proofs.YtmlfegfplepehaaDoor

/- Items: slices.Sort and slices.Compact at rows of strings; NamesIn, both sides. -/
namespace Go.Proofs.YtmlfegfplepehaaDoor
set_option linter.unusedVariables false
set_option linter.unusedSimpArgs false
open Go.RowKit Go.Lib Go.Sort

theorem ownS_cases {w : World} {base : Nat} {v : Value} {zs : List ByteArray} (h : OwnS w base v zs) : (v = .slice none 0 0 ∧ zs = []) ∨ ∃ g cap, v = .slice (some ⟨g, 0, none⟩) zs.length cap ∧ zs.length ≤ cap ∧ cap ≤ maxLen := by
  rcases h.1.2 with ⟨e1, e2⟩ | ⟨g, cap, cur, e1, _, _, e4, e5, _⟩
  · exact .inl ⟨e1, List.eq_nil_of_length_eq_zero e2⟩
  · exact .inr ⟨g, cap, e1, e4, e5⟩
theorem own_shrink {w : World} {base g cap n m : Nat} {e : TypeId} {xs : List Value} (h : w.ownsRow base e 1 (.slice (some ⟨g, 0, none⟩) n cap) n xs) (hm : m ≤ n) : w.ownsRow base e 1 (.slice (some ⟨g, 0, none⟩) m cap) m (xs.take m) := by
  obtain ⟨hl, h2⟩ := h
  rcases h2 with ⟨e1, _⟩ | ⟨g', cap', cur, e1, hb, hg, hnc, hcm, hcs, ht⟩
  · cases e1
  · injection e1 with e1 e2 e3
    injection e1 with e1
    injection e1 with e1
    subst e1 e3
    refine ⟨by rw [List.length_take, hl]; omega, .inr ⟨g, cap, cur, rfl, hb, hg, by omega, hcm, hcs, ?_⟩⟩
    rw [← ht, List.take_take]
    congr 1
    omega
theorem enc_bl (zs : List ByteArray) : (zs.map bl).map encStr = zs.map Value.string := by
  rw [List.map_map]
  exact List.map_congr_left fun z _ => congrArg Value.string (bs_bl z)
theorem enc_bs (ls : List LB) : ls.map encStr = (ls.map bs).map Value.string := by
  rw [List.map_map]
  rfl
theorem names_len {zs : List LB} : (compact zs).length ≤ zs.length := by
  unfold compact compactUpTo
  rw [List.length_map]
  exact Nat.le_trans (List.length_filter_le _ _) (by simp)
def allN (its : List ItemD) : List ByteArray := its.flatMap ItemD.names
def niV (its : List ItemD) : List ByteArray := if itemsB its then namesD (allN its) else []
theorem niV_yes {its : List ItemD} (h : itemsB its = true) : niV its = namesD (allN its) := by unfold niV; rw [h]; rfl
theorem niV_no {its : List ItemD} (h : itemsB its = false) : niV its = [] := by unfold niV; rw [h]; rfl
theorem allN_snoc {its : List ItemD} {k : Nat} {it : ItemD} (h : its[k]? = some it) : allN (its.take (k + 1)) = allN (its.take k) ++ it.names := by
  unfold allN
  rw [take_snoc h, List.flatMap_append]
  simp
theorem allN_len : ∀ {its : List ItemD}, (∀ it ∈ its, itemB it = true) → (allN its).length ≤ 3 * its.length
  | [], _ => by simp [allN]
  | it :: t, h => by
    have h1 := allN_len (its := t) (fun x hx => h x (List.mem_cons_of_mem _ hx))
    have h2 := (itemB_true (h it (by simp)))
    have h3 : it.names.length ≤ 3 := by have := h2.2.2.1; omega
    unfold allN at *
    rw [List.flatMap_cons, List.length_append, List.length_cons]
    omega
theorem ret_vbN {v : Value} {b b' : Bool} (h : b = b') : Ending.returned (.tuple #[v, .bool b]) = .returned (.tuple #[v, .bool b']) := by rw [h]
theorem nilS (w : World) (base : Nat) : OwnS w base (.slice none 0 0) [] := ⟨⟨by simp, .inl ⟨rfl, rfl⟩⟩, fun _ h => by cases h⟩
theorem OwnS.base {w : World} {base base' : Nat} {v : Value} {zs : List ByteArray} (h : OwnS w base v zs) (hb : base' ≤ base) : OwnS w base' v zs := ⟨own_base h.1 hb, h.2⟩
theorem Only.above' {g : Nat} {a0 a b : World} (h : Only [g] a b) (k : Kept a0 a) (hg : a0.heap.size ≤ g) : Kept a0 b :=
  h.above k (fun x hx => by rw [List.mem_singleton] at hx; subst hx; exact hg)
set_option maxRecDepth 100000 in
theorem wpList_append_SL (w : World) {ops : Array Oper} {rest : List Oper} {o : Oper} {a : Act} {Q : Exit → Act → World → Prop} (hgd : o.guard = none) (s x : Operand)
    (ho : o.op = .call { callee := .builtin .append, args := #[s, x], argTypes := #[25, 25] })
    (base : Nat) (v : Value) (zs : List ByteArray) (hs : a.eval s = v) (hown : OwnS w base v zs) (u : Value) (ys : List ByteArray) (hx : a.eval x = u) (hr : Strs w u ys)
    (hl : zs.length + ys.length ≤ 16777216) (hbase : base ≤ w.heap.size)
    (h : ∀ v' w', OwnS w' base v' (zs ++ ys) → w.grownBy w' v.ownBlock → (v.ownBlock ≠ none → v'.ownBlock ≠ none) → wpList Tryd.prog ops Q rest (a.put o.dst v') w') : wpList Tryd.prog ops Q (o :: rest) a w := by
  refine wpList_plain hgd fun K hK => ?_
  obtain ⟨i0, hi, hz0, hz1, hz2⟩ := info_parts info_str
  obtain ⟨v', w', hrun, h2, h3, h4⟩ := run_append_locG (P := Tryd.prog) w base 25 o.type 9 i0 _ 1 16 Tryd.underlying25 hi hz0 hz1 hz2 rfl (by omega) v zs.length _ hown.1 u ys.length (ys.map Value.string) hr.1 (by simp) (fun y hy => by obtain ⟨_, _, rfl⟩ := List.mem_map.1 hy; rfl) (by unfold maxLen; omega) (by omega) hbase
  unfold Oper.wp execOp
  simp only [ho, resolve, invoke, builtin, Sem.run_bind, Sem.run_pure, Result.andThen_ok, List.map_toArray, List.map_cons, List.map_nil, hs, hx, hrun]
  refine hK _ _ (h v' w' ?_ h3 (fun hv => ?_))
  · refine ⟨by rw [List.length_append, List.map_append]; exact h2, fun e he => ?_⟩
    rcases List.mem_append.1 he with he | he
    · exact hown.2 e he
    · exact hr.2 e he
  · rcases h4 with h4 | h4
    · rw [h4]; exact hv
    · rw [h4]; simp
end Go.Proofs.YtmlfegfplepehaaDoor

/- Texts: numerals read, a text split: the reference's and the program's. -/
namespace Go.Proofs.YtmlfegfplepehaaDoor
set_option linter.unusedVariables false
set_option linter.unusedSimpArgs false
set_option linter.unnecessarySimpa false
open Go.RowKit Go.Lib

theorem dval_lt' (l : List UInt8) (h : l.all isDg = true) : dval l < 10 ^ l.length := by
  induction l using snocInd with
  | h0 => decide
  | h1 l b ih =>
    rw [List.all_append] at h
    simp at h
    have hb := (isDg_iff b).1 h.2
    have := ih (by simpa using h.1)
    rw [dval_snoc, List.length_append, List.length_singleton, Nat.pow_succ]
    omega
theorem dval_take {s : ByteArray} {k m : Nat} (hk : k ≤ m) (hm : m ≤ 12) (h : (s.data.toList.take k).all isDg = true) : dval (s.data.toList.take k) < 1000000000000 := by
  have h1 := dval_lt' _ h
  have h2 : (s.data.toList.take k).length ≤ 12 := by rw [List.length_take]; omega
  exact Nat.lt_of_lt_of_le h1 (Nat.pow_le_pow_right (by decide) h2)
def ntB (k : Nat) (s : ByteArray) : Bool := (readNum k s.data.toList).isSome
def ntV (k : Nat) (s : ByteArray) : Int := ((readNum k s.data.toList).getD 0 : Nat)
theorem nt_none {k : Nat} {s : ByteArray} (h : readNum k s.data.toList = none) : (0 : Int) = ntV k s ∧ false = ntB k s := by unfold ntV ntB; rw [h]; exact ⟨rfl, rfl⟩
theorem nt_some {k : Nat} {s : ByteArray} {n : Nat} (h : readNum k s.data.toList = some n) : (n : Int) = ntV k s ∧ true = ntB k s := by unfold ntV ntB; rw [h]; exact ⟨rfl, rfl⟩
theorem rn_big {k : Nat} {l : List UInt8} (h : l.length = 0 ∨ k < l.length) : readNum k l = none := by
  unfold readNum
  rw [if_pos]
  rcases h with h | h
  · exact .inl h
  · exact .inr (.inl h)
theorem rn_zero {k : Nat} {l : List UInt8} (h : 1 < l.length) (h0 : l[0]? = some 48) : readNum k l = none := by
  unfold readNum
  rw [if_pos]
  exact .inr (.inr (.inl ⟨h, by rw [List.head?_eq_getElem?, h0]⟩))
theorem rn_bad {k j : Nat} {l : List UInt8} {b : UInt8} (h : l[j]? = some b) (hb : isDg b = false) : readNum k l = none := by
  unfold readNum
  rw [if_pos]
  refine .inr (.inr (.inr ?_))
  rw [Bool.eq_false_iff]
  intro ha
  have := List.all_eq_true.1 ha b (List.mem_of_getElem? h)
  rw [hb] at this
  cases this
theorem rn_ok {k : Nat} {l : List UInt8} (h1 : 0 < l.length) (h2 : l.length ≤ k) (h3 : 1 < l.length → l[0]? ≠ some 48) (h4 : l.all isDg = true) : readNum k l = some (dval l) := by
  unfold readNum
  rw [if_neg]
  rintro (h | h | ⟨a, b⟩ | h)
  · omega
  · omega
  · rw [List.head?_eq_getElem?] at b; exact h3 a b
  · rw [h4] at h; cases h
theorem dg_of {b : UInt8} (h1 : 48 ≤ b.toNat) (h2 : b.toNat ≤ 57) : isDg b = true := (isDg_iff b).2 ⟨h1, h2⟩
theorem dg_not {b : UInt8} (h : b.toNat < 48 ∨ 57 < b.toNat) : isDg b = false := by
  rw [Bool.eq_false_iff]
  intro hb
  have := (isDg_iff b).1 hb
  omega
theorem dv_snoc {l : List UInt8} {k : Nat} {b : UInt8} (h : l[k]? = some b) : dval (l.take (k + 1)) = 10 * dval (l.take k) + (b.toNat - 48) := by
  rw [take_snoc h, dval_snoc]
theorem ret_ib {a a' : Int} {b b' : Bool} (h : a = a' ∧ b = b') : Ending.returned (.tuple #[.int .i64 a, .bool b]) = .returned (.tuple #[.int .i64 a', .bool b']) := by rw [h.1, h.2]
theorem ret_i {a a' : Int} (h : a = a') : Ending.returned (.int .i64 a) = .returned (.int .i64 a') := by rw [h]
theorem byte3 (c : Nat) : c < 48 ∨ 57 < c ∨ (48 ≤ c ∧ c ≤ 57) := by omega
theorem ne_zero {s : ByteArray} (h : s ≠ ⟨#[]⟩) : 0 < s.size := by
  rcases Nat.eq_zero_or_pos s.size with h0 | h0
  · exact absurd (ByteArray.ext (Array.eq_empty_of_size_eq_zero h0)) h
  · exact h0
/-- what a reading of at most k digits gives: the number, or -1 -/
def rdV (k : Nat) (s : ByteArray) : Int := match readNum k s.data.toList with | none => -1 | some n => (n : Int)
theorem rd_none {k : Nat} {s : ByteArray} (h : readNum k s.data.toList = none) : (-1 : Int) = rdV k s := by unfold rdV; rw [h]
theorem rd_some {k : Nat} {s : ByteArray} {n : Nat} (h : readNum k s.data.toList = some n) : (n : Int) = rdV k s := by unfold rdV; rw [h]
set_option maxHeartbeats 4000000 in
theorem natural_any (s : ByteArray) (w : World) (hs : s.size ≤ maxLen) :
    Calls Tryd.prog 66 #[.string s] w fun e w' => e = .returned (.tuple #[.int .i64 (ntV 12 s), .bool (ntB 12 s)]) ∧ w = w' := by
  unfold maxLen at hs
  have hlen : s.data.toList.length = s.size := by rw [size_eq]
  have HL := Lib.hid hlen
  clear hlen
  by_cases h0 : s = ⟨#[]⟩
  · subst h0
    go_enter Tryd.func66, Tryd.ntmps66
    go_wp2
    go_ret2
    exact ⟨ret_ib <| nt_none (rn_big (.inl rfl)), rfl⟩
  have hp := ne_zero h0
  have he : s.toList.isEmpty = false := by
    rw [toList_data]
    cases hq : s.data.toList with
    | nil => have := HL.out; rw [hq] at this; simp at this; omega
    | cons _ _ => rfl
  by_cases hk : 12 < s.size
  · go_enter Tryd.func66, Tryd.ntmps66
    go_wp2
    go_ret2
    exact ⟨ret_ib <| nt_none (rn_big (.inr (by rw [HL.out]; exact hk))), rfl⟩
  have HZ0 := Lib.hid (byte_get s 0 hp)
  by_cases h1 : 1 < s.size ∧ s[0].toNat = 48
  · obtain ⟨h1, h2⟩ := h1
    have hq : ((s[0].toNat : Int) == 48) = true := (by rw [beq_iff_eq]; omega)
    go_enter Tryd.func66, Tryd.ntmps66
    go_wp2
    go_ret2
    exact ⟨ret_ib <| nt_none (rn_zero (by rw [HL.out]; exact h1) (by rw [HZ0.out]; exact congrArg some (UInt8.toNat_inj.1 h2))), rfl⟩
  have H3 : Hid (1 < s.data.toList.length → s.data.toList[0]? ≠ some 48) := Lib.hid (fun a b => h1 ⟨by rw [← HL.out]; exact a, by rw [HZ0.out] at b; rw [Option.some.inj b]; rfl⟩)
  have hcase : (s.size < 2 ∧ s[0].toNat < 48) ∨ (s.size < 2 ∧ s[0].toNat = 48) ∨ (s.size < 2 ∧ 48 < s[0].toNat) ∨ (1 < s.size ∧ s[0].toNat < 48) ∨ (1 < s.size ∧ 48 < s[0].toNat) := by omega
  clear h1
  rcases hcase with ⟨h1, h2⟩ | ⟨h1, h2⟩ | ⟨h1, h2⟩ | ⟨h1, h2⟩ | ⟨h1, h2⟩
  all_goals
    first
      | have hq : ((s[0].toNat : Int) == 48) = false := (by rw [beq_eq_false_iff_ne]; omega)
      | have hq : ((s[0].toNat : Int) == 48) = true := (by rw [beq_iff_eq]; omega)
    go_enter Tryd.func66, Tryd.ntmps66
    go_wp2
    go_loop [4, 5] (fun n i => ∃ k : Nat, k ≤ s.size ∧ i = .int .i64 k ∧ n = .int .i64 (dval (s.data.toList.take k) : Nat) ∧ (s.data.toList.take k).all isDg = true) (fun _ i => s.size - (RowKit.intOf i).toNat)
    case atStart => exact ⟨0, Nat.zero_le _, rfl, rfl, rfl⟩
    case round =>
      obtain ⟨k, hk2, rfl, rfl, ha⟩ := hrel
      have hv := dval_take hk2 (by omega) ha
      have HA := Lib.hid ha
      clear ha
      by_cases hlt : k < s.size
      · have HZ := Lib.hid (byte_get s k hlt)
        have HD := Lib.hid (dv_snoc HZ.out)
        have hlt' : (k : Int) < (s.size : Int) := by omega
        rcases byte3 s[k].toNat with hc | hc | hc
        · generalize dval (s.data.toList.take k) = v at *
          go_wp2
          go_ret2
          exact ⟨ret_ib <| nt_none (rn_bad HZ.out (dg_not (.inl hc))), rfl⟩
        · generalize dval (s.data.toList.take k) = v at *
          go_wp2
          go_ret2
          exact ⟨ret_ib <| nt_none (rn_bad HZ.out (dg_not (.inr hc))), rfl⟩
        · generalize dval (s.data.toList.take k) = v at *
          go_wp2
          go_round
          case rel => exact ⟨k + 1, by omega, by go_num, by rw [HD.out]; go_num, all_snoc HZ.out HA.out (dg_of hc.1 hc.2)⟩
          case measure => simp [RowKit.intOf]; omega
      · obtain rfl : k = s.size := by omega
        have e : s.data.toList.take s.size = s.data.toList := List.take_of_length_le (by rw [HL.out]; exact Nat.le_refl _)
        rw [e] at HA hv ⊢
        have HE := Lib.hid (rn_ok (k := 12) (by rw [HL.out]; omega) (by rw [HL.out]; omega) H3.out HA.out)
        generalize dval s.data.toList = v at *
        go_wp2
        go_ret2
        exact ⟨ret_ib <| nt_some HE.out, rfl⟩
set_option maxHeartbeats 4000000 in
theorem l1Read_any (s : ByteArray) (w : World) (hs : s.size ≤ maxLen) :
    Calls Tryd.prog 103 #[.string s] w fun e w' => e = .returned (.int .i64 (rdV 6 s)) ∧ w = w' := by
  unfold maxLen at hs
  have hlen : s.data.toList.length = s.size := by rw [size_eq]
  have HL := Lib.hid hlen
  clear hlen
  by_cases h0 : s = ⟨#[]⟩
  · subst h0
    have HI : Hid (inB 0 1 6 = false) := Lib.hid rfl
    go_enter Tryd.func103, Tryd.ntmps103
    go_wp2_with (go_at_call 94; refine (l1In_any _ _ _ _).mono ?_; rintro e w' ⟨rfl, rfl⟩; rw [HI.out])
    go_ret
    exact ⟨ret_i <| rd_none (rn_big (.inl rfl)), rfl⟩
  have hp := ne_zero h0
  have he : s.toList.isEmpty = false := by
    rw [toList_data]
    cases hq : s.data.toList with
    | nil => have := HL.out; rw [hq] at this; simp at this; omega
    | cons _ _ => rfl
  by_cases hk : 6 < s.size
  · have HI : Hid (inB (s.size : Int) 1 6 = false) := Lib.hid (by unfold inB; simp; omega)
    go_enter Tryd.func103, Tryd.ntmps103
    go_wp2_with (go_at_call 94; refine (l1In_any _ _ _ _).mono ?_; rintro e w' ⟨rfl, rfl⟩; rw [HI.out])
    go_ret
    exact ⟨ret_i <| rd_none (rn_big (.inr (by rw [HL.out]; exact hk))), rfl⟩
  have HI : Hid (inB (s.size : Int) 1 6 = true) := Lib.hid (by unfold inB; simp; omega)
  have HZ0 := Lib.hid (byte_get s 0 hp)
  by_cases h1 : 1 < s.size ∧ s[0].toNat = 48
  · obtain ⟨h1, h2⟩ := h1
    have hq : ((s[0].toNat : Int) == 48) = true := (by rw [beq_iff_eq]; omega)
    go_enter Tryd.func103, Tryd.ntmps103
    go_wp2_with (go_at_call 94; refine (l1In_any _ _ _ _).mono ?_; rintro e w' ⟨rfl, rfl⟩; rw [HI.out])
    go_ret
    exact ⟨ret_i <| rd_none (rn_zero (by rw [HL.out]; exact h1) (by rw [HZ0.out]; exact congrArg some (UInt8.toNat_inj.1 h2))), rfl⟩
  have H3 : Hid (1 < s.data.toList.length → s.data.toList[0]? ≠ some 48) := Lib.hid (fun a b => h1 ⟨by rw [← HL.out]; exact a, by rw [HZ0.out] at b; rw [Option.some.inj b]; rfl⟩)
  have hcase : (s.size < 2 ∧ s[0].toNat < 48) ∨ (s.size < 2 ∧ s[0].toNat = 48) ∨ (s.size < 2 ∧ 48 < s[0].toNat) ∨ (1 < s.size ∧ s[0].toNat < 48) ∨ (1 < s.size ∧ 48 < s[0].toNat) := by omega
  clear h1
  rcases hcase with ⟨h1, h2⟩ | ⟨h1, h2⟩ | ⟨h1, h2⟩ | ⟨h1, h2⟩ | ⟨h1, h2⟩
  all_goals
    first
      | have hq : ((s[0].toNat : Int) == 48) = false := (by rw [beq_eq_false_iff_ne]; omega)
      | have hq : ((s[0].toNat : Int) == 48) = true := (by rw [beq_iff_eq]; omega)
    go_enter Tryd.func103, Tryd.ntmps103
    go_wp2_with (go_at_call 94; refine (l1In_any _ _ _ _).mono ?_; rintro e w' ⟨rfl, rfl⟩; rw [HI.out])
    go_loop [3, 4] (fun n i => ∃ k : Nat, k ≤ s.size ∧ i = .int .i64 k ∧ n = .int .i64 (dval (s.data.toList.take k) : Nat) ∧ (s.data.toList.take k).all isDg = true) (fun _ i => s.size - (RowKit.intOf i).toNat)
    case atStart => exact ⟨0, Nat.zero_le _, rfl, rfl, rfl⟩
    case round =>
      obtain ⟨k, hk2, rfl, rfl, ha⟩ := hrel
      have hv := dval_take hk2 (by omega) ha
      have HA := Lib.hid ha
      clear ha
      by_cases hlt : k < s.size
      · have HZ := Lib.hid (byte_get s k hlt)
        have HD := Lib.hid (dv_snoc HZ.out)
        have hlt' : (k : Int) < (s.size : Int) := by omega
        rcases byte3 s[k].toNat with hc | hc | hc
        · generalize dval (s.data.toList.take k) = v at *
          go_wp2
          go_ret
          exact ⟨ret_i <| rd_none (rn_bad HZ.out (dg_not (.inl hc))), rfl⟩
        · generalize dval (s.data.toList.take k) = v at *
          go_wp2
          go_ret
          exact ⟨ret_i <| rd_none (rn_bad HZ.out (dg_not (.inr hc))), rfl⟩
        · generalize dval (s.data.toList.take k) = v at *
          go_wp2
          go_round
          case rel => exact ⟨k + 1, by omega, by go_num, by rw [HD.out]; go_num, all_snoc HZ.out HA.out (dg_of hc.1 hc.2)⟩
          case measure => simp [RowKit.intOf]; omega
      · obtain rfl : k = s.size := by omega
        have e : s.data.toList.take s.size = s.data.toList := List.take_of_length_le (by rw [HL.out]; exact Nat.le_refl _)
        rw [e] at HA hv ⊢
        have HE := Lib.hid (rn_ok (k := 6) (by rw [HL.out]; omega) (by rw [HL.out]; omega) H3.out HA.out)
        generalize dval s.data.toList = v at *
        go_wp2
        go_ret
        exact ⟨ret_i <| rd_some HE.out, rfl⟩
end Go.Proofs.YtmlfegfplepehaaDoor
