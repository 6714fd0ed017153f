/- Contracts of functions that the proof leans on. No condition. -/
import Derived.Test.YtfonfekejbmamaaDoorM3941a5a249
import Derived.StillTailTactics
import Derived.Deep.RegionHeld3
import Derived.Deep.DeepCutAuto
/- Strings in slices; items and lists of items in memory. -/
namespace Go.Proofs.YtfonfekejbmamaaDoor
set_option linter.unusedVariables false
set_option linter.unusedSimpArgs false
open Go.RowKit

def Strs (w : World) (v : Value) (zs : List ByteArray) : Prop := Seq w v zs.length (zs.map Value.string) ∧ ∀ z ∈ zs, z.size ≤ maxLen
def OwnS (w : World) (base : Nat) (v : Value) (zs : List ByteArray) : Prop := w.ownsRow base 9 1 v zs.length (zs.map Value.string) ∧ ∀ z ∈ zs, z.size ≤ maxLen
theorem Strs.kept {w w' : World} {v : Value} {zs : List ByteArray} (h : Strs w v zs) (hk : Kept w w') : Strs w' v zs := ⟨Seq.kept h.1 hk, h.2⟩
theorem OwnS.strs {w : World} {base : Nat} {v : Value} {zs : List ByteArray} (h : OwnS w base v zs) : Strs w v zs := ⟨Seq.of_own h.1, h.2⟩
theorem OwnS.kept {w w' : World} {base : Nat} {v : Value} {zs : List ByteArray} (h : OwnS w base v zs) (hk : Kept w w') : OwnS w' base v zs := ⟨own_kept h.1 hk, h.2⟩
theorem OwnS.only {w w' : World} {base : Nat} {v : Value} {zs : List ByteArray} {S : List Nat} (h : OwnS w base v zs) (ho : Only S w w') (hd : ∀ b ∈ fp v, b ∉ S) : OwnS w' base v zs := ⟨own_only h.1 ho hd, h.2⟩
theorem strs_at {w : World} {A : Option Addr} {zs : List ByteArray} (h : SeqA w A zs.length (zs.map Value.string)) {k : Nat} (hk : k < zs.length) :
    ∃ b o z, A = some ⟨b, o, none⟩ ∧ b < w.heap.size ∧ zs[k]? = some z ∧ w.cell? ⟨b, o + k, none⟩ = some (.string z) := by
  have hz : zs[k]? = some zs[k] := List.getElem?_eq_getElem hk
  obtain ⟨b, o, e, hb, hc⟩ := h.at_ (j := k) (u := .string zs[k]) (by omega) (by rw [List.getElem?_map, hz]; rfl)
  exact ⟨b, o, _, e, hb, hz, hc⟩
theorem info_str : (Tryd.prog.info? 9).map (fun i => (i.zero, i.size, i.bytes)) = some (some (.string ByteArray.empty), 1, 16) := by kernel_rfl
theorem eqStringS_any (v1 v2 : Value) (zs ys : List ByteArray) (w : World) (h1 : Strs w v1 zs) (h2 : Strs w v2 ys) :
    Calls Tryd.prog 33 #[v1, v2] w fun e w' => e = .returned (.bool (decide (zs = ys))) ∧ Kept w w' := by
  obtain ⟨A, c, rfl, hnc, hcm, hl⟩ := h1.1.out
  obtain ⟨A2, c2, rfl, hnc2, hcm2, hl2⟩ := h2.1.out
  unfold maxLen at hcm hcm2
  have HL := Lib.hid hl
  have HL2 := Lib.hid hl2
  clear hl h1 hl2 h2
  by_cases hlen : zs.length = ys.length
  · have hne : ((zs.length : Int) != (ys.length : Int)) = false := by simp [hlen]
    have HN := Lib.hid hlen
    clear hlen
    go_enter Tryd.func33, Tryd.ntmps33
    go_wp2
    go_loopw [5] (fun i wr => ∃ k : Nat, k ≤ zs.length ∧ i = .int .i64 k ∧ zs.take k = ys.take k ∧ Kept w wr) (fun i _ => zs.length - (intOf i).toNat)
    case atStart => exact ⟨0, Nat.zero_le _, rfl, rfl, Kept.refl _⟩
    case round =>
      obtain ⟨k, hk, rfl, ht, hkept⟩ := hrel
      have HT := Lib.hid ht
      clear ht
      by_cases hlt : k < zs.length
      · have hlt2 : k < ys.length := by rw [← HN.out]; exact hlt
        obtain ⟨b, o, z, rfl, hb, hz, hc⟩ := strs_at (HL.out.kept hkept) hlt
        obtain ⟨b2, o2, z2, rfl, hb2, hz2, hc2⟩ := strs_at (HL2.out.kept hkept) hlt2
        have HZ := Lib.hid hz
        have HZ2 := Lib.hid hz2
        clear hz hz2
        go_wp2
        go_quiet (fail)
        go_wp2
        · have hzz : (!z.toList == z2.toList) = true := by assumption
          go_ret
          refine ⟨?_, hkept.drewN _⟩
          have : ¬ zs = ys := fun e => by
            have e1 := HZ.out
            rw [e, HZ2.out] at e1
            simp at e1
            simp [e1] at hzz
          simp [this]
        · have hzz : (!z.toList == z2.toList) = false := by assumption
          go_roundw
          case rel =>
            refine ⟨k + 1, by omega, by go_num, ?_, hkept.drewN _⟩
            have : z = z2 := str_ext (by simpa using hzz)
            subst this
            rw [take_snoc HZ.out, take_snoc HZ2.out, HT.out]
          case measure => simp [intOf]; omega
      · obtain rfl : k = zs.length := by omega
        go_wp2
        go_ret
        have e := take_full rfl HN.out.symm HT.out
        exact ⟨by simp [e], hkept⟩
  · have hne : ((zs.length : Int) != (ys.length : Int)) = true := by simp; omega
    have hz : ¬ zs = ys := fun e => hlen (by rw [e])
    have HZ := Lib.hid hz
    clear hz
    go_enter Tryd.func33, Tryd.ntmps33
    go_wp2
    go_ret
    exact ⟨by simp [HZ.out], Kept.refl _⟩
end Go.Proofs.YtfonfekejbmamaaDoor

/- Items in memory. -/
namespace Go.Proofs.YtfonfekejbmamaaDoor
set_option linter.unusedVariables false
set_option linter.unusedSimpArgs false
open Go.RowKit

structure ItemD where
  names : List ByteArray
  marks : List Int
  late : Bool
def ItemAt (w : World) (v : Value) (it : ItemD) : Prop := ∃ nv mv, v = .agg #[nv, mv, .bool it.late] ∧ Strs w nv it.names ∧ Ints w mv it.marks
theorem fpA_item (a b : Value) (c : Bool) : fpA (.agg #[a, b, .bool c]) = fp a ++ fp b := by
  simp [fpA, fp, Value.ownBlock]
def OwnT (w : World) (base : Nat) (v : Value) (it : ItemD) : Prop :=
  ∃ nv mv, v = .agg #[nv, mv, .bool it.late] ∧ OwnS w base nv it.names ∧ OwnI w base mv it.marks ∧ (fpA v).Nodup
theorem ItemAt.kept {w w' : World} {v : Value} {it : ItemD} (h : ItemAt w v it) (hk : Kept w w') : ItemAt w' v it := by
  obtain ⟨nv, mv, e, h1, h2⟩ := h
  exact ⟨nv, mv, e, h1.kept hk, h2.kept hk⟩
theorem OwnT.item {w : World} {base : Nat} {v : Value} {it : ItemD} (h : OwnT w base v it) : ItemAt w v it := by
  obtain ⟨nv, mv, e, h1, h2, _⟩ := h
  exact ⟨nv, mv, e, h1.strs, h2.ints⟩
theorem info_item : (Tryd.prog.info? 25).map (fun i => (i.zero, i.size, i.bytes)) = some (some (.agg #[.slice none 0 0, .slice none 0 0, .bool false]), 3, 56) := by kernel_rfl

/-- the three cells of an item -/
def row3 (p : (Value × Value) × ItemD) : List Value := [p.1.1, p.1.2, .bool p.2.late]
def ItemsA (w : World) (A : Option Addr) (its : List ItemD) (cs : List (Value × Value)) : Prop :=
  cs.length = its.length ∧ SeqA w A its.length ((cs.zip its).flatMap row3) ∧ ∀ (k : Nat) (nv mv : Value) (it : ItemD), cs[k]? = some (nv, mv) → its[k]? = some it → Strs w nv it.names ∧ Ints w mv it.marks
def ItemsAt (w : World) (v : Value) (its : List ItemD) : Prop :=
  ∃ cs : List (Value × Value), cs.length = its.length ∧ Seq w v its.length ((cs.zip its).flatMap row3) ∧ ∀ (k : Nat) (nv mv : Value) (it : ItemD), cs[k]? = some (nv, mv) → its[k]? = some it → Strs w nv it.names ∧ Ints w mv it.marks
theorem ItemsAt.kept {w w' : World} {v : Value} {its : List ItemD} (h : ItemsAt w v its) (hk : Kept w w') : ItemsAt w' v its := by
  obtain ⟨cs, e, h1, h2⟩ := h
  exact ⟨cs, e, h1.kept hk, fun k nv mv it q1 q2 => ⟨(h2 k nv mv it q1 q2).1.kept hk, (h2 k nv mv it q1 q2).2.kept hk⟩⟩
theorem ItemsA.kept {w w' : World} {A : Option Addr} {its : List ItemD} {cs : List (Value × Value)} (h : ItemsA w A its cs) (hk : Kept w w') : ItemsA w' A its cs :=
  ⟨h.1, h.2.1.kept hk, fun k nv mv it q1 q2 => ⟨(h.2.2 k nv mv it q1 q2).1.kept hk, (h.2.2 k nv mv it q1 q2).2.kept hk⟩⟩
theorem ItemsAt.out {w : World} {v : Value} {its : List ItemD} (h : ItemsAt w v its) : ∃ A c cs, v = .slice A its.length c ∧ its.length ≤ c ∧ c ≤ maxLen ∧ ItemsA w A its cs := by
  obtain ⟨cs, e, h1, h2⟩ := h
  obtain ⟨A, c, rfl, hnc, hcm, hsa⟩ := h1.out
  exact ⟨A, c, cs, rfl, hnc, hcm, e, hsa, h2⟩
/-- an item of a list, its three cells -/
theorem items_at {w : World} {A : Option Addr} {its : List ItemD} {cs : List (Value × Value)} (hA : ItemsA w A its cs) {k : Nat} (hk : k < its.length) :
    ∃ b o A1 c1 A2 c2 it, A = some ⟨b, o, none⟩ ∧ b < w.heap.size ∧ its[k]? = some it ∧ cs[k]? = some (.slice A1 it.names.length c1, .slice A2 it.marks.length c2) ∧ ItemAt w (.agg #[.slice A1 it.names.length c1, .slice A2 it.marks.length c2, .bool it.late]) it ∧
      w.cell? ⟨b, o + k * 3, none⟩ = some (.slice A1 it.names.length c1) ∧ w.cell? ⟨b, o + k * 3 + 1, none⟩ = some (.slice A2 it.marks.length c2) ∧ w.cell? ⟨b, o + k * 3 + 2, none⟩ = some (.bool it.late) := by
  obtain ⟨hl, h, hc⟩ := hA
  obtain ⟨b, o, e, hb, hcell⟩ := h (by omega)
  have h1 : its[k]? = some its[k] := List.getElem?_eq_getElem hk
  obtain ⟨nv, mv, h2⟩ : ∃ nv mv, cs[k]? = some (nv, mv) := ⟨_, _, List.getElem?_eq_getElem (by omega)⟩
  have h3 := hc k nv mv its[k] h2 h1
  have hz : (cs.zip its)[k]? = some ((nv, mv), its[k]) := by rw [List.getElem?_zip_eq_some]; exact ⟨h2, h1⟩
  have hf := flat_get row3 3 (fun _ => rfl) (cs.zip its) k
  have q0 := hcell (k * 3) nv (by have := hf 0 (by omega); rw [Nat.add_zero, hz] at this; exact this)
  have q1 := hcell (k * 3 + 1) mv (by have := hf 1 (by omega); rw [hz] at this; exact this)
  have q2 := hcell (k * 3 + 2) (.bool its[k].late) (by have := hf 2 (by omega); rw [hz] at this; exact this)
  rw [← Nat.add_assoc] at q1 q2
  have hit : ItemAt w (.agg #[nv, mv, .bool its[k].late]) its[k] := ⟨_, _, rfl, h3.1, h3.2⟩
  obtain ⟨A1, c1, rfl, _⟩ := h3.1.1.out
  obtain ⟨A2, c2, rfl, _⟩ := h3.2.out
  exact ⟨b, o, A1, c1, A2, c2, its[k], e, hb, h1, h2, hit, q0, q1, q2⟩


/-! ### sizes -/
def strsSize (zs : List ByteArray) : Nat := zs.length + (zs.map ByteArray.size).sum
def ItemD.size (it : ItemD) : Nat := strsSize it.names + it.marks.length
def itemsSize (its : List ItemD) : Nat := its.length + (its.map ItemD.size).sum
theorem item_size_le {its : List ItemD} {k : Nat} {it : ItemD} (h : its[k]? = some it) : it.size ≤ itemsSize its := by
  have := mem_le_sum (its.map ItemD.size) it.size (List.mem_map_of_mem (List.mem_of_getElem? h))
  unfold itemsSize
  omega
theorem item_parts (it : ItemD) : it.names.length ≤ it.size ∧ it.marks.length ≤ it.size := by
  unfold ItemD.size strsSize
  omega
set_option maxHeartbeats 400000 in
theorem eqItem_any (v1 v2 : Value) (a : ItemD) (w : World) (h1 : ItemAt w v1 a) (h2 : ItemAt w v2 a) :
    Calls Tryd.prog 10 #[v1, v2] w fun e w' => e = .returned (.bool true) ∧ Kept w w' := by
  obtain ⟨nv, mv, rfl, q1, q2⟩ := h1
  obtain ⟨nv', mv', rfl, q3, q4⟩ := h2
  have H1 := Lib.hid q1
  have H2 := Lib.hid q2
  have H3 := Lib.hid q3
  have H4 := Lib.hid q4
  clear q1 q2 q3 q4
  have K0 : Kept w ((w.alloc (.cells #[nv, mv, .bool a.late] 25)).alloc (.cells #[nv', mv', .bool a.late] 25)) := ((Kept.refl w).alloc _).alloc _
  go_enter Tryd.func10, Tryd.ntmps10
  go_wp2_with fail
  refine (eqStringS_any _ _ a.names a.names _ (H1.out.kept K0) (H3.out.kept K0)).mono ?_
  rintro e w1 ⟨rfl, k1⟩
  have B0 := ((Box.new w w.heap.size 25 #[nv, mv, .bool a.late] rfl).alloc (.cells #[nv', mv', .bool a.late] 25)).kept k1
  have B1 := (Box.new (w.alloc (.cells #[nv, mv, .bool a.late] 25)) (w.heap.size + 1) 25 #[nv', mv', .bool a.late] (by simp)).kept k1
  obtain ⟨c0, f0⟩ := B0.three
  obtain ⟨c1, f1⟩ := B1.three
  have K1 := K0.trans k1
  clear k1 f0 f1
  have hd : decide (a.names = a.names) = true := by simp
  rw [hd]
  clear hd
  go_wp2_with fail
  clear c0 c1
  refine (eqIntS_any _ _ a.marks a.marks _ (H2.out.kept K1) (H4.out.kept K1)).mono ?_
  rintro e w2 ⟨rfl, k2⟩
  obtain ⟨c0, f0⟩ := (B0.kept k2).three
  obtain ⟨c1, f1⟩ := (B1.kept k2).three
  have K2 := K1.trans k2
  have hd : decide (a.marks = a.marks) = true := by simp
  rw [hd]
  clear hd f0 f1
  go_wp2_with fail
  go_ret
  exact ⟨rfl, K2⟩
/-! ### lists of items that the call owns -/
theorem OwnS.far {w w' : World} {base base' : Nat} {v : Value} {zs : List ByteArray} {S : List Nat} (h : OwnS w base v zs) (ho : Only S w w') (hS : ∀ b ∈ S, b < base) (hb : base' ≤ base) : OwnS w' base' v zs := ⟨own_far h.1 ho hS hb, h.2⟩
def fpL (cs : List (Value × Value)) : List Nat := cs.flatMap fun p => fp p.1 ++ fp p.2
theorem fpL_snoc (cs : List (Value × Value)) (a b : Value) : fpL (cs ++ [(a, b)]) = fpL cs ++ (fp a ++ fp b) := by simp [fpL]
def OwnL (w : World) (base : Nat) (v : Value) (its : List ItemD) (S : List Nat) : Prop :=
  ∃ cs : List (Value × Value), cs.length = its.length ∧ w.ownsRow base 25 3 v its.length ((cs.zip its).flatMap row3) ∧
    (∀ (k : Nat) (nv mv : Value) (it : ItemD), cs[k]? = some (nv, mv) → its[k]? = some it → OwnS w base nv it.names ∧ OwnI w base mv it.marks) ∧ S = fp v ++ fpL cs ∧ S.Nodup ∧ ∀ b ∈ S, base ≤ b ∧ b < w.heap.size
theorem OwnL.items {w : World} {base : Nat} {v : Value} {its : List ItemD} {S : List Nat} (h : OwnL w base v its S) : ItemsAt w v its := by
  obtain ⟨cs, h1, h2, h3, _⟩ := h
  exact ⟨cs, h1, Seq.of_own h2, fun k nv mv it q1 q2 => ⟨(h3 k nv mv it q1 q2).1.strs, (h3 k nv mv it q1 q2).2.ints⟩⟩
theorem mem_fpL {cs : List (Value × Value)} {k : Nat} {nv mv : Value} (h : cs[k]? = some (nv, mv)) {b : Nat} (hb : b ∈ fp nv ∨ b ∈ fp mv) : b ∈ fpL cs := by
  unfold fpL
  rw [List.mem_flatMap]
  exact ⟨(nv, mv), List.mem_of_getElem? h, by simpa using hb⟩
theorem OwnL.only {w w' : World} {base : Nat} {v : Value} {its : List ItemD} {S T : List Nat} (h : OwnL w base v its S) (ho : Only T w w') (hd : ∀ b ∈ S, b ∉ T) : OwnL w' base v its S := by
  obtain ⟨cs, h1, h2, h3, rfl, h5, h6⟩ := h
  refine ⟨cs, h1, own_only h2 ho (fun b hb => hd b (List.mem_append_left _ hb)), fun k nv mv it q1 q2 => ⟨(h3 k nv mv it q1 q2).1.only ho (fun b hb => hd b (List.mem_append_right _ (mem_fpL q1 (.inl hb)))), (h3 k nv mv it q1 q2).2.only ho (fun b hb => hd b (List.mem_append_right _ (mem_fpL q1 (.inr hb))))⟩, rfl, h5, fun b hb => ⟨(h6 b hb).1, Nat.lt_of_lt_of_le (h6 b hb).2 ho.size⟩⟩
theorem OwnL.kept {w w' : World} {base : Nat} {v : Value} {its : List ItemD} {S : List Nat} (h : OwnL w base v its S) (hk : Kept w w') : OwnL w' base v its S := h.only (hk.only []) (fun _ _ => List.not_mem_nil)
theorem set3_take {xs ys : List Value} {k n : Nat} {a b c : Value} (hl : xs.length = n * 3) (hk : k < n) (ht : xs.take (k * 3) = ys) :
    (((xs.set (k * 3) a).set (k * 3 + 1) b).set (k * 3 + 2) c).take ((k + 1) * 3) = ys ++ [a, b, c] := by
  have h1 : k * 3 + 2 < xs.length := by omega
  rw [show (k + 1) * 3 = k * 3 + 2 + 1 from by omega]
  rw [take_snoc (x := c) (by rw [List.getElem?_set_self (by simp; omega)]), List.take_set_of_le (Nat.le_refl _)]
  rw [take_snoc (x := b) (by rw [List.getElem?_set_self (by simp; omega)]), List.take_set_of_le (Nat.le_refl _)]
  rw [take_snoc (x := a) (by rw [List.getElem?_set_self (by omega)]), List.take_set_of_le (Nat.le_refl _), ht]
  simp
theorem zip_snoc {cs : List (Value × Value)} {its : List ItemD} {p : Value × Value} {it : ItemD} (h : its[cs.length]? = some it) : (cs ++ [p]).zip its = cs.zip its ++ [(p, it)] := by
  induction cs generalizing its with
  | nil =>
    cases its with
    | nil => simp at h
    | cons x l => simp at h; simp [h]
  | cons q cs ih =>
    cases its with
    | nil => simp at h
    | cons x l =>
      simp at h
      simp [ih h]
theorem getElem?_snoc {α : Type} {l : List α} {x y : α} {k : Nat} (h : (l ++ [x])[k]? = some y) : (l[k]? = some y) ∨ (k = l.length ∧ x = y) := by
  rcases Nat.lt_trichotomy k l.length with h1 | h1 | h1
  · rw [List.getElem?_append_left h1] at h
    exact .inl h
  · subst h1
    simp at h
    exact .inr ⟨rfl, h⟩
  · rw [List.getElem?_eq_none (by simp; omega)] at h
    cases h
end Go.Proofs.YtfonfekejbmamaaDoor

/- Lists of items compared; which items are valid. -/
namespace Go.Proofs.YtfonfekejbmamaaDoor
set_option linter.unusedVariables false
set_option linter.unusedSimpArgs false
open Go.RowKit

set_option maxRecDepth 100000 in
set_option maxHeartbeats 1000000 in
theorem eqItemS_any (v1 v2 : Value) (its : List ItemD) (w : World) (h1 : ItemsAt w v1 its) (h2 : ItemsAt w v2 its) :
    Calls Tryd.prog 22 #[v1, v2] w fun e w' => e = .returned (.bool true) ∧ Kept w w' := by
  obtain ⟨A, c, cs, rfl, hnc, hcm, hA⟩ := h1.out
  obtain ⟨A', c', cs', rfl, hnc', hcm', hA'⟩ := h2.out
  unfold maxLen at hcm hcm'
  have HA := Lib.hid hA
  have HA' := Lib.hid hA'
  clear hA h1 hA' h2
  have hne : ((its.length : Int) != (its.length : Int)) = false := by simp
  go_enter Tryd.func22, Tryd.ntmps22
  go_wp2_with fail
  go_loopw [5] (fun i wr => ∃ k : Nat, k ≤ its.length ∧ i = .int .i64 k ∧ Kept w wr) (fun i _ => its.length - (intOf i).toNat)
  case atStart => exact ⟨0, Nat.zero_le _, rfl, Kept.refl _⟩
  case round =>
    obtain ⟨k, hk, rfl, hkept⟩ := hrel
    by_cases hlt : k < its.length
    · obtain ⟨b, o, A1, c1, A2, c2, it, rfl, hb, h2, h3, hit, q0, q1, q2⟩ := items_at (HA.out.kept hkept) hlt
      obtain ⟨b', o', A1', c1', A2', c2', it', rfl, hb', h2', h3', hit', q0', q1', q2'⟩ := items_at (HA'.out.kept hkept) hlt
      rw [h2] at h2'
      injection h2' with h2'
      subst h2'
      have HI := Lib.hid hit
      have HI' := Lib.hid hit'
      have hlt' : (k : Int) < (its.length : Int) := by omega
      clear h2 h3 h3' hit hit'
      go_wp2_with fail
      go_still_tail 8, (by kernel_rfl)
      go_wp2_with fail
      refine (eqItem_any _ _ it _ (HI.out.kept (Kept.refl wr).drew) (HI'.out.kept (Kept.refl wr).drew)).mono ?_
      rintro e w1 ⟨rfl, k1⟩
      go_wp2_with fail
      go_roundw
      case rel => exact ⟨k + 1, by omega, by go_num, hkept.drew.trans k1⟩
      case measure => simp [intOf]; omega
    · go_wp2_with fail
      go_ret
      exact ⟨rfl, hkept⟩
/-! ### which items are valid -/
def itemB (it : ItemD) : Bool := it.names.all nameB && inB it.names.length 1 3 && (it.marks.length == it.names.length) && it.marks.all (inB · 0 3)
def itemsB (its : List ItemD) : Bool := its.all itemB && decide (its.length ≤ 14)
set_option maxHeartbeats 1000000 in
theorem isItem_any (v : Value) (it : ItemD) (w : World) (h : ItemAt w v it) :
    Calls Tryd.prog 32 #[v] w fun e w' => e = .returned (.bool (itemB it)) ∧ Kept w w' := by
  obtain ⟨nv, mv, rfl, q1, q2⟩ := h
  obtain ⟨A, c, rfl, hnc, hcm, hl⟩ := q1.1.out
  obtain ⟨A2, c2, rfl, hnc2, hcm2, _⟩ := q2.out
  unfold maxLen at hcm hcm2
  have HL := Lib.hid hl
  have HS := Lib.hid q1.2
  have H2 := Lib.hid q2
  clear q1 q2 hl
  go_enter Tryd.func32, Tryd.ntmps32
  go_wp2_with fail
  go_loop [8] (fun i => ∃ k : Nat, k ≤ it.names.length ∧ i = .int .i64 k ∧ (it.names.take k).all nameB = true) (fun i => it.names.length - (intOf i).toNat)
  case atStart => exact ⟨0, Nat.zero_le _, rfl, rfl⟩
  case round =>
    obtain ⟨k, hk, rfl, ha⟩ := hrel
    have HA := Lib.hid ha
    clear ha
    by_cases hlt : k < it.names.length
    · obtain ⟨b, o, z, rfl, hb, hz, hc⟩ := strs_at (HL.out.kept ((Kept.refl w).alloc (.cells #[.slice A it.names.length c, .slice A2 it.marks.length c2, .bool it.late] 25))) hlt
      have hzs := HS.out z (List.mem_of_getElem? hz)
      have HZ := Lib.hid hz
      clear hz
      by_cases hn : nameB z = true
      · go_wp2_with (go_at_call 65; refine (isName_any _ _ hzs).mono ?_; rintro e w' ⟨rfl, rfl⟩)
        go_round
        case rel => exact ⟨k + 1, by omega, by go_num, all_snoc HZ.out HA.out hn⟩
        case measure => simp [intOf]; omega
      · simp only [Bool.not_eq_true] at hn
        go_wp2_with (go_at_call 65; refine (isName_any _ _ hzs).mono ?_; rintro e w' ⟨rfl, rfl⟩)
        go_ret
        exact ⟨ret_bool (by unfold itemB; rw [all_not HZ.out hn]; rfl), (Kept.refl _).alloc _⟩
    · have hall := all_full (p := nameB) (by omega) HA.out
      have HALL := Lib.hid hall
      clear hall
      by_cases h3 : inB it.names.length 1 3 = true <;> by_cases h4 : it.marks.length = it.names.length
      all_goals
        try simp only [Bool.not_eq_true] at h3
        have H4 := Lib.hid h4
        first
          | (have h5 : ((it.marks.length : Int) == (it.names.length : Int)) = true := by simp [h4])
          | (have h5 : ((it.marks.length : Int) == (it.names.length : Int)) = false := beq_eq_false_iff_ne.2 (by omega))
        clear h4
        go_wp2_with (first | (go_at_call 56; refine (within_any _ _ _ _).mono ?_; rintro e w' ⟨rfl, rfl⟩) | (go_at_call 66; refine (allWithin_any _ _ _ _ _ (H2.out.kept ((Kept.refl w).alloc _))).mono ?_; rintro e w' ⟨rfl, rfl⟩))
        go_ret
        exact ⟨ret_bool (by unfold itemB; rw [HALL.out, h3]; simp [H4.out]), (Kept.refl _).alloc _⟩
set_option maxHeartbeats 1000000 in
theorem itGood_any (v : Value) (it : ItemD) (w : World) (h : ItemAt w v it) :
    Calls Tryd.prog 61 #[v] w fun e w' => e = .returned (.bool (itemB it)) ∧ Kept w w' := by
  obtain ⟨nv, mv, rfl, q1, q2⟩ := h
  obtain ⟨A, c, rfl, hnc, hcm, hl⟩ := q1.1.out
  obtain ⟨A2, c2, rfl, hnc2, hcm2, _⟩ := q2.out
  unfold maxLen at hcm hcm2
  have HL := Lib.hid hl
  have HS := Lib.hid q1.2
  have H2 := Lib.hid q2
  clear q1 q2 hl
  go_enter Tryd.func61, Tryd.ntmps61
  go_wp2_with fail
  go_loop [8] (fun i => ∃ k : Nat, k ≤ it.names.length ∧ i = .int .i64 k ∧ (it.names.take k).all nameB = true) (fun i => it.names.length - (intOf i).toNat)
  case atStart => exact ⟨0, Nat.zero_le _, rfl, rfl⟩
  case round =>
    obtain ⟨k, hk, rfl, ha⟩ := hrel
    have HA := Lib.hid ha
    clear ha
    by_cases hlt : k < it.names.length
    · obtain ⟨b, o, z, rfl, hb, hz, hc⟩ := strs_at (HL.out.kept ((Kept.refl w).alloc (.cells #[.slice A it.names.length c, .slice A2 it.marks.length c2, .bool it.late] 25))) hlt
      have hzs := HS.out z (List.mem_of_getElem? hz)
      have HZ := Lib.hid hz
      clear hz
      by_cases hn : nameB z = true
      · go_wp2_with (go_at_call 83; refine (itName_any _ _ hzs).mono ?_; rintro e w' ⟨rfl, rfl⟩)
        go_round
        case rel => exact ⟨k + 1, by omega, by go_num, all_snoc HZ.out HA.out hn⟩
        case measure => simp [intOf]; omega
      · simp only [Bool.not_eq_true] at hn
        go_wp2_with (go_at_call 83; refine (itName_any _ _ hzs).mono ?_; rintro e w' ⟨rfl, rfl⟩)
        go_ret
        exact ⟨ret_bool (by unfold itemB; rw [all_not HZ.out hn]; rfl), (Kept.refl _).alloc _⟩
    · have hall := all_full (p := nameB) (by omega) HA.out
      have HALL := Lib.hid hall
      clear hall
      by_cases h3 : inB it.names.length 1 3 = true <;> by_cases h4 : it.marks.length = it.names.length
      all_goals
        try simp only [Bool.not_eq_true] at h3
        have H4 := Lib.hid h4
        first
          | (have h5 : ((it.marks.length : Int) == (it.names.length : Int)) = true := by simp [h4])
          | (have h5 : ((it.marks.length : Int) == (it.names.length : Int)) = false := beq_eq_false_iff_ne.2 (by omega))
        clear h4
        go_wp2_with (first | (go_at_call 71; refine (l1In_any _ _ _ _).mono ?_; rintro e w' ⟨rfl, rfl⟩) | (go_at_call 72; refine (l1All_any _ _ _ _ _ (H2.out.kept ((Kept.refl w).alloc _))).mono ?_; rintro e w' ⟨rfl, rfl⟩))
        go_ret
        exact ⟨ret_bool (by unfold itemB; rw [HALL.out, h3]; simp [H4.out]), (Kept.refl _).alloc _⟩
end Go.Proofs.YtfonfekejbmamaaDoor

/- Texts, plain: the text of an item and of a list of items, and parsing them. -/
namespace Go.Proofs.YtfonfekejbmamaaDoor
set_option linter.unusedVariables false
set_option linter.unusedSimpArgs false
set_option linter.unnecessarySimpa false
open Go.Lib

def signL (m : Int) : List UInt8 := if m = 1 then [60] else if m = 2 then [101] else if m = 3 then [42] else []
def wordI (p : ByteArray × Int) : List UInt8 := p.1.data.toList ++ signL p.2
def itW (it : ItemD) : List (List UInt8) := (it.names.zip it.marks).map wordI
def lateL (b : Bool) : List UInt8 := if b then [32, 120] else []
def itTxt (it : ItemD) : List UInt8 := join (itW it) [43] ++ lateL it.late
def endM (w : List UInt8) : Int := match w.getLast? with
  | some b => if b = 60 then 1 else if b = 101 then 2 else if b = 42 then 3 else 0
  | none => 0
def cutM (w : List UInt8) : List UInt8 := if endM w = 0 then w else w.dropLast
def nameM (w : List UInt8) : ByteArray := ⟨(cutM w).toArray⟩
def itP (s : List UInt8) : ItemD := ⟨(splitOn 43 (trimSuffix s [32, 120])).map nameM, (splitOn 43 (trimSuffix s [32, 120])).map endM, hasSuffix s [32, 120]⟩
theorem endM_snoc (w : List UInt8) (b : UInt8) : endM (w ++ [b]) = if b = 60 then 1 else if b = 101 then 2 else if b = 42 then 3 else 0 := by
  unfold endM
  simp
theorem endM_nil : endM [] = 0 := rfl
theorem wordI_P (w : List UInt8) : wordI (nameM w, endM w) = w := by
  unfold wordI nameM cutM
  induction w using snocInd with
  | h0 => rfl
  | h1 w b _ =>
    simp only [endM_snoc]
    by_cases h1 : b = 60
    · subst h1; simp [signL]
    · by_cases h2 : b = 101
      · subst h2; simp [signL]
      · by_cases h3 : b = 42
        · subst h3; simp [signL]
        · simp [h1, h2, h3, signL]
theorem suffix_back (s p : List UInt8) : trimSuffix s p ++ (if hasSuffix s p then p else []) = s := by
  unfold trimSuffix hasSuffix
  split
  · rename_i h
    have hs := List.isSuffixOf_iff_suffix.1 h
    obtain ⟨t, rfl⟩ := hs
    simp
  · simp
theorem zip_maps {α β γ : Type} (f : α → β) (g : α → γ) : ∀ L : List α, (L.map f).zip (L.map g) = L.map fun x => (f x, g x)
  | [] => rfl
  | x :: L => by simp [zip_maps f g L]
/-- The text of what is parsed. -/
theorem itTxt_P (s : List UInt8) : itTxt (itP s) = s := by
  unfold itTxt itW itP
  simp only [zip_maps, List.map_map]
  have e : (wordI ∘ fun x => (nameM x, endM x)) = id := by funext w; exact wordI_P w
  rw [e, List.map_id, splitOn_join]
  exact suffix_back s [32, 120]

theorem nmB_cases {c : UInt8} (h : nmB c = true) : c ≠ 60 ∧ c ≠ 101 ∧ c ≠ 42 ∧ c ≠ 43 ∧ c ≠ 120 ∧ c ≠ 10 ∧ c ≠ 32 := by
  have hk : ∀ k : UInt8, nmB k = false → c ≠ k := fun k hk e => by rw [e, hk] at h; cases h
  exact ⟨hk _ (by decide), hk _ (by decide), hk _ (by decide), hk _ (by decide), hk _ (by decide), hk _ (by decide), hk _ (by decide)⟩
theorem name_of {s : ByteArray} (h : nameB s = true) : (∀ c ∈ s.data.toList, nmB c = true) ∧ s.data.toList ≠ [] := by
  unfold nameB at h
  simp only [Bool.and_eq_true] at h
  refine ⟨fun c hc => List.all_eq_true.1 h.1 c hc, fun e => ?_⟩
  have h2 := h.2
  unfold inB at h2
  rw [size_eq, e] at h2
  simp at h2
theorem sign_of {m : Int} (h : inB m 0 3 = true) : m = 0 ∨ m = 1 ∨ m = 2 ∨ m = 3 := by
  unfold inB at h
  simp at h
  omega
/-- A word of a valid item: it is cut into what it was made of; none of its bytes is a '+', a line's end; it does not end with an 'x'. -/
theorem word_back {s : ByteArray} {m : Int} (h : nameB s = true) (hm : inB m 0 3 = true) : nameM (wordI (s, m)) = s ∧ endM (wordI (s, m)) = m ∧ (∀ c ∈ wordI (s, m), c ≠ 43 ∧ c ≠ 10 ∧ c ≠ 32) ∧ ∃ w c, wordI (s, m) = w ++ [c] ∧ c ≠ 120 := by
  obtain ⟨ha, hne⟩ := name_of h
  obtain ⟨w, c, hw⟩ : ∃ w c, s.data.toList = w ++ [c] := ⟨_, _, (List.dropLast_concat_getLast hne).symm⟩
  have hc := nmB_cases (ha c (by rw [hw]; simp))
  have hall : ∀ x ∈ s.data.toList, x ≠ 43 ∧ x ≠ 10 ∧ x ≠ 32 := fun x hx => by have := nmB_cases (ha x hx); exact ⟨this.2.2.2.1, this.2.2.2.2.2.1, this.2.2.2.2.2.2⟩
  have hs : (⟨s.data.toList.toArray⟩ : ByteArray) = s := mk_data s
  unfold nameM cutM wordI
  rcases sign_of hm with rfl | rfl | rfl | rfl
  · have e : endM (s.data.toList ++ signL 0) = 0 := by
      simp only [signL]
      simp only [show ¬ ((0 : Int) = 1) by decide, show ¬ ((0 : Int) = 2) by decide, show ¬ ((0 : Int) = 3) by decide, if_false, List.append_nil]
      rw [hw, endM_snoc, if_neg hc.1, if_neg hc.2.1, if_neg hc.2.2.1]
    refine ⟨by rw [e]; simpa [signL] using hs, e, by simpa [signL] using hall, w, c, by simpa [signL] using hw, hc.2.2.2.2.1⟩
  · refine ⟨by rw [show signL 1 = [60] from rfl, endM_snoc]; simpa using hs, by rw [show signL 1 = [60] from rfl, endM_snoc]; rfl, ?_, s.data.toList, 60, rfl, by decide⟩
    intro x hx
    rcases List.mem_append.1 hx with h | h
    · exact hall x h
    · have : x = 60 := by simpa [signL] using h
      subst this; decide
  · refine ⟨by rw [show signL 2 = [101] from rfl, endM_snoc]; simpa using hs, by rw [show signL 2 = [101] from rfl, endM_snoc]; rfl, ?_, s.data.toList, 101, rfl, by decide⟩
    intro x hx
    rcases List.mem_append.1 hx with h | h
    · exact hall x h
    · have : x = 101 := by simpa [signL] using h
      subst this; decide
  · refine ⟨by rw [show signL 3 = [42] from rfl, endM_snoc]; simpa using hs, by rw [show signL 3 = [42] from rfl, endM_snoc]; rfl, ?_, s.data.toList, 42, rfl, by decide⟩
    intro x hx
    rcases List.mem_append.1 hx with h | h
    · exact hall x h
    · have : x = 42 := by simpa [signL] using h
      subst this; decide
theorem words_back : ∀ {ns : List ByteArray} {ms : List Int}, (∀ s ∈ ns, nameB s = true) → (∀ m ∈ ms, inB m 0 3 = true) → ms.length = ns.length →
    ((ns.zip ms).map wordI).map nameM = ns ∧ ((ns.zip ms).map wordI).map endM = ms ∧ ∀ x ∈ (ns.zip ms).map wordI, (∀ c ∈ x, c ≠ 43 ∧ c ≠ 10 ∧ c ≠ 32) ∧ ∃ w c, x = w ++ [c] ∧ c ≠ 120
  | [], [], _, _, _ => ⟨rfl, rfl, fun x hx => by simp at hx⟩
  | s :: ns, m :: ms, h1, h2, h3 => by
    obtain ⟨a, b, c⟩ := words_back (ns := ns) (ms := ms) (fun x hx => h1 x (List.mem_cons_of_mem _ hx)) (fun x hx => h2 x (List.mem_cons_of_mem _ hx)) (by simpa using h3)
    obtain ⟨a', b', c'⟩ := word_back (h1 s (by simp)) (h2 m (by simp))
    refine ⟨by simp only [List.zip_cons_cons, List.map_cons]; rw [a, a'], by simp only [List.zip_cons_cons, List.map_cons]; rw [b, b'], fun x hx => ?_⟩
    simp only [List.zip_cons_cons, List.map_cons] at hx
    rcases List.mem_cons.1 hx with rfl | hx
    · exact c'
    · exact c x hx
theorem join_end : ∀ {L : List (List UInt8)} {sep : List UInt8}, L ≠ [] → (∀ x ∈ L, ∃ w c, x = w ++ [c] ∧ c ≠ 120) → ∃ w c, join L sep = w ++ [c] ∧ c ≠ 120 := by
  intro L sep
  induction L with
  | nil => intro h; exact absurd rfl h
  | cons x t ih =>
    intro _ h
    cases t with
    | nil => rw [join_one]; exact h x (by simp)
    | cons y t =>
      obtain ⟨w, c, e, hc⟩ := ih (by simp) (fun z hz => h z (List.mem_cons_of_mem _ hz))
      refine ⟨x ++ sep ++ w, c, ?_, hc⟩
      rw [join_cons] at e ⊢
      simp only [joinTail, List.map_cons, List.flatten_cons] at e ⊢
      rw [List.append_assoc, e]
      simp
theorem item_of {it : ItemD} (h : itemB it = true) : (∀ s ∈ it.names, nameB s = true) ∧ (∀ m ∈ it.marks, inB m 0 3 = true) ∧ it.marks.length = it.names.length ∧ it.names ≠ [] ∧ it.names.length ≤ 3 := by
  unfold itemB at h
  simp only [Bool.and_eq_true] at h
  obtain ⟨⟨⟨h1, h2⟩, h3⟩, h4⟩ := h
  refine ⟨List.all_eq_true.1 h1, List.all_eq_true.1 h4, by simpa using h3, fun e => ?_, ?_⟩
  · rw [e] at h2; unfold inB at h2; simp at h2
  · unfold inB at h2; simp at h2; omega
/-- Parsing a valid item's text. -/
theorem itP_Txt {it : ItemD} (h : itemB it = true) : itP (itTxt it) = it := by
  obtain ⟨h1, h2, h3, h4, _⟩ := item_of h
  obtain ⟨a, b, c⟩ := words_back h1 h2 h3
  have hW : itW it ≠ [] := by
    unfold itW
    intro e
    rw [e] at a
    exact h4 a.symm
  obtain ⟨w, d, e, hd⟩ := join_end (sep := [43]) hW (fun x hx => (c x hx).2)
  have hsplit : splitOn 43 (join (itW it) [43]) = itW it := splitOn_of_join hW (fun x hx hm => ((c x hx).1 43 hm).1 rfl)
  have hT : trimSuffix (itTxt it) [32, 120] = join (itW it) [43] ∧ hasSuffix (itTxt it) [32, 120] = it.late := by
    unfold itTxt lateL trimSuffix hasSuffix
    cases it.late with
    | true =>
      have : [32, 120].isSuffixOf (join (itW it) [43] ++ [32, 120]) = true := List.isSuffixOf_iff_suffix.2 ⟨_, rfl⟩
      simp only [if_true, this]
      simp
    | false =>
      have : [32, 120].isSuffixOf (join (itW it) [43]) = false := by
        rw [Bool.eq_false_iff]
        intro hx
        obtain ⟨t, ht⟩ := List.isSuffixOf_iff_suffix.1 hx
        rw [e] at ht
        have : (t ++ [32]) ++ [120] = w ++ [d] := by simpa using ht
        have := (List.append_inj' this rfl).2
        injection this with this
        exact hd this.symm
      simp [this]
  unfold itP
  rw [hT.1, hT.2, hsplit]
  show (⟨(itW it).map nameM, (itW it).map endM, it.late⟩ : ItemD) = it
  unfold itW
  rw [a, b]
/-- A valid item's text bears no line's end. -/
theorem itTxt_line {it : ItemD} (h : itemB it = true) : 10 ∉ itTxt it := by
  obtain ⟨h1, h2, h3, h4, _⟩ := item_of h
  obtain ⟨a, b, c⟩ := words_back h1 h2 h3
  have hj : ∀ (L : List (List UInt8)), (∀ x ∈ L, ∀ d ∈ x, d ≠ 43 ∧ d ≠ 10 ∧ d ≠ 32) → 10 ∉ join L [43] := by
    intro L
    induction L with
    | nil => intro _ hm; simp [join_nil] at hm
    | cons x t ih =>
      intro hL hm
      cases t with
      | nil =>
        rw [join_one] at hm
        exact (hL x (by simp) 10 hm).2.1 rfl
      | cons y t =>
        have e : join (x :: y :: t) [43] = x ++ [43] ++ join (y :: t) [43] := by rw [join_cons, join_cons]; simp [joinTail]
        rw [e] at hm
        rcases List.mem_append.1 hm with hm | hm
        · rcases List.mem_append.1 hm with hm | hm
          · exact (hL x (by simp) 10 hm).2.1 rfl
          · simp at hm
        · exact ih (fun z hz => hL z (List.mem_cons_of_mem _ hz)) hm
  unfold itTxt
  intro hm
  rcases List.mem_append.1 hm with hm | hm
  · exact hj _ (fun x hx => (c x hx).1) hm
  · unfold lateL at hm
    cases it.late <;> simp at hm

/-! ### lists -/
def itsTxt (its : List ItemD) : List UInt8 := (its.map fun it => itTxt it ++ [10]).flatten
/-- Does a text end with a line's end, or is it empty? -/
def lnOk (s : List UInt8) : Bool := match s.getLast? with | none => true | some b => b == 10
def lns (s : List UInt8) : List (List UInt8) := (splitOn 10 s).dropLast
def psOk (s : List UInt8) : Bool := lnOk s && (decide ((lns s).length ≤ 14) && (lns s).all fun l => itemB (itP l))
def psV (s : List UInt8) : List ItemD := if psOk s then (lns s).map itP else []
theorem lns_nil : lns [] = [] := rfl
theorem lns_snoc (p : List UInt8) : lns (p ++ [10]) = splitOn 10 p := by unfold lns; rw [splitOn_snoc, List.dropLast_concat]
theorem lnOk_snoc (p : List UInt8) (b : UInt8) : lnOk (p ++ [b]) = (b == 10) := by unfold lnOk; simp
theorem lns_txt {its : List ItemD} (h : ∀ it ∈ its, itemB it = true) : lns (itsTxt its) = its.map itTxt ∧ lnOk (itsTxt its) = true := by
  have hs : ∀ its : List ItemD, (∀ it ∈ its, itemB it = true) → splitOn 10 (itsTxt its) = its.map itTxt ++ [[]] := by
    intro its
    induction its with
    | nil => intro _; rfl
    | cons it t ih =>
      intro h
      have e : itsTxt (it :: t) = itTxt it ++ 10 :: itsTxt t := by unfold itsTxt; simp
      rw [e, splitOn_hit (itTxt_line (h it (by simp))), ih (fun x hx => h x (List.mem_cons_of_mem _ hx))]
      rfl
  refine ⟨by unfold lns; rw [hs its h, List.dropLast_concat], ?_⟩
  clear h hs
  rcases List.eq_nil_or_concat its with rfl | ⟨t, it, rfl⟩
  · rfl
  · have e : itsTxt (t ++ [it]) = (itsTxt t ++ itTxt it) ++ [10] := by unfold itsTxt; simp
    rw [List.concat_eq_append] at *
    rw [e, lnOk_snoc]
    rfl
/-- Parsing a valid list's text. -/
theorem psV_txt {its : List ItemD} (h : itemsB its = true) : psOk (itsTxt its) = true ∧ psV (itsTxt its) = its := by
  unfold itemsB at h
  simp only [Bool.and_eq_true] at h
  have ha := List.all_eq_true.1 h.1
  obtain ⟨e1, e2⟩ := lns_txt ha
  have hm : (its.map itTxt).map itP = its := by
    rw [List.map_map]
    conv => rhs; rw [← List.map_id its]
    exact List.map_congr_left fun it hit => itP_Txt (ha it hit)
  have hok : psOk (itsTxt its) = true := by
    unfold psOk
    rw [e1, e2]
    simp only [Bool.true_and, Bool.and_eq_true, List.length_map, List.all_map]
    refine ⟨by simpa using h.2, List.all_eq_true.2 fun it hit => ?_⟩
    show itemB (itP (itTxt it)) = true
    rw [itP_Txt (ha it hit)]
    exact ha it hit
  refine ⟨hok, ?_⟩
  unfold psV
  rw [hok, if_pos rfl, e1, hm]
end Go.Proofs.YtfonfekejbmamaaDoor

/- Elements and codes in memory. -/
namespace Go.Proofs.YtfonfekejbmamaaDoor
set_option linter.unusedVariables false
set_option linter.unusedSimpArgs false
open Go.RowKit

structure ElemD where
  name : ByteArray
  family : Int
  level : Int
  base : Int
structure CodeD where
  elems : List ElemD
  limits : List Int
  repeats : Int
  bonus : Int
  keeps : Int
  fall : Int
def cells4 (e : ElemD) : List Value := [.string e.name, .int .i64 e.family, .int .i64 e.level, .int .i64 e.base]
def Elems (w : World) (v : Value) (es : List ElemD) : Prop := Seq w v es.length (es.flatMap cells4) ∧ ∀ e ∈ es, e.name.size ≤ maxLen
def CodeAt (w : World) (v : Value) (c : CodeD) : Prop :=
  ∃ ev lv, v = .agg #[ev, lv, .int .i64 c.repeats, .int .i64 c.bonus, .int .i64 c.keeps, .int .i64 c.fall] ∧ Elems w ev c.elems ∧ Ints w lv c.limits
def ElemAt (_ : World) (v : Value) (e : ElemD) : Prop := v = .agg #[.string e.name, .int .i64 e.family, .int .i64 e.level, .int .i64 e.base] ∧ e.name.size ≤ maxLen
theorem ElemAt.mk (e : ElemD) (w : World) (h : e.name.size ≤ maxLen) : ElemAt w (.agg #[.string e.name, .int .i64 e.family, .int .i64 e.level, .int .i64 e.base]) e := ⟨rfl, h⟩
theorem ElemAt.kept {w w' : World} {v : Value} {e : ElemD} (h : ElemAt w v e) (_ : Kept w w') : ElemAt w' v e := h
theorem Elems.kept {w w' : World} {v : Value} {es : List ElemD} (h : Elems w v es) (hk : Kept w w') : Elems w' v es := ⟨h.1.kept hk, h.2⟩
theorem CodeAt.kept {w w' : World} {v : Value} {c : CodeD} (h : CodeAt w v c) (hk : Kept w w') : CodeAt w' v c := by
  obtain ⟨ev, lv, e, h1, h2⟩ := h
  exact ⟨ev, lv, e, h1.kept hk, h2.kept hk⟩
def OwnE (w : World) (base : Nat) (v : Value) (es : List ElemD) : Prop := w.ownsRow base 83 4 v es.length (es.flatMap cells4) ∧ ∀ e ∈ es, e.name.size ≤ maxLen
theorem fpA_code (a b : Value) (p q r s : Int) : fpA (.agg #[a, b, .int .i64 p, .int .i64 q, .int .i64 r, .int .i64 s]) = fp a ++ fp b := by
  simp [fpA, fp, Value.ownBlock]
def OwnK (w : World) (base : Nat) (v : Value) (c : CodeD) : Prop :=
  ∃ ev lv, v = .agg #[ev, lv, .int .i64 c.repeats, .int .i64 c.bonus, .int .i64 c.keeps, .int .i64 c.fall] ∧ OwnE w base ev c.elems ∧ OwnI w base lv c.limits ∧ (fpA v).Nodup
theorem OwnE.elems {w : World} {base : Nat} {v : Value} {es : List ElemD} (h : OwnE w base v es) : Elems w v es := ⟨Seq.of_own h.1, h.2⟩
theorem OwnE.only {w w' : World} {base : Nat} {v : Value} {es : List ElemD} {S : List Nat} (h : OwnE w base v es) (ho : Only S w w') (hd : ∀ b ∈ fp v, b ∉ S) : OwnE w' base v es := ⟨own_only h.1 ho hd, h.2⟩
theorem OwnE.kept {w w' : World} {base : Nat} {v : Value} {es : List ElemD} (h : OwnE w base v es) (hk : Kept w w') : OwnE w' base v es := ⟨own_kept h.1 hk, h.2⟩
theorem OwnE.far {w w' : World} {base base' : Nat} {v : Value} {es : List ElemD} {S : List Nat} (h : OwnE w base v es) (ho : Only S w w') (hS : ∀ b ∈ S, b < base) (hb : base' ≤ base) : OwnE w' base' v es := ⟨own_far h.1 ho hS hb, h.2⟩
theorem OwnK.code {w : World} {base : Nat} {v : Value} {c : CodeD} (h : OwnK w base v c) : CodeAt w v c := by
  obtain ⟨ev, lv, e, h1, h2, _⟩ := h
  exact ⟨ev, lv, e, h1.elems, h2.ints⟩
theorem OwnK.only {w w' : World} {base : Nat} {v : Value} {c : CodeD} {S : List Nat} (h : OwnK w base v c) (ho : Only S w w') (hd : ∀ b ∈ fpA v, b ∉ S) : OwnK w' base v c := by
  obtain ⟨ev, lv, rfl, h1, h2, h3⟩ := h
  rw [fpA_code] at hd
  exact ⟨ev, lv, rfl, h1.only ho (fun b hb => hd b (List.mem_append_left _ hb)), h2.only ho (fun b hb => hd b (List.mem_append_right _ hb)), h3⟩
theorem OwnK.kept {w w' : World} {base : Nat} {v : Value} {c : CodeD} (h : OwnK w base v c) (hk : Kept w w') : OwnK w' base v c := h.only (hk.only []) (fun _ _ => List.not_mem_nil)
theorem OwnK.fps {w : World} {base : Nat} {v : Value} {c : CodeD} (h : OwnK w base v c) : ∀ b ∈ fpA v, base ≤ b ∧ b < w.heap.size := by
  obtain ⟨ev, lv, rfl, h1, h2, h3⟩ := h
  rw [fpA_code]
  intro b hb
  rcases List.mem_append.1 hb with hb | hb
  · exact own_fp h1.1 b hb
  · exact own_fp h2 b hb
/-- an element of a slice, its four cells -/
theorem elems_at {w : World} {A : Option Addr} {es : List ElemD} (h : SeqA w A es.length (es.flatMap cells4)) {k : Nat} (hk : k < es.length) :
    ∃ b o e, A = some ⟨b, o, none⟩ ∧ b < w.heap.size ∧ es[k]? = some e ∧
      (w.cell? ⟨b, o + k * 4, none⟩ = some (.string e.name) ∧ w.cell? ⟨b, o + k * 4 + 1, none⟩ = some (.int .i64 e.family) ∧ w.cell? ⟨b, o + k * 4 + 2, none⟩ = some (.int .i64 e.level) ∧ w.cell? ⟨b, o + k * 4 + 3, none⟩ = some (.int .i64 e.base)) := by
  obtain ⟨b, o, ea, hb, hcell⟩ := h (by omega)
  have h1 : es[k]? = some es[k] := List.getElem?_eq_getElem hk
  have hf := flat_get cells4 4 (fun _ => rfl) es k
  have hc : ∀ j, j < 4 → w.cell? ⟨b, o + k * 4 + j, none⟩ = (cells4 es[k])[j]? := fun j hj => by
    have := hf j hj
    rw [h1] at this
    have hs : (cells4 es[k])[j]? = some ((cells4 es[k])[j]'hj) := List.getElem?_eq_getElem hj
    rw [hs, Nat.add_assoc]
    exact hcell (k * 4 + j) _ (this.trans hs)
  exact ⟨b, o, es[k], ea, hb, h1, hc 0 (by omega), hc 1 (by omega), hc 2 (by omega), hc 3 (by omega)⟩
end Go.Proofs.YtfonfekejbmamaaDoor

/- Elements and codes: sizes, copies, comparisons. -/
namespace Go.Proofs.YtfonfekejbmamaaDoor
set_option linter.unusedVariables false
set_option linter.unusedSimpArgs false
open Go.RowKit

def ElemD.size (e : ElemD) : Nat := e.name.size
def elemsSize (es : List ElemD) : Nat := es.length + (es.map ElemD.size).sum
def CodeD.size (c : CodeD) : Nat := elemsSize c.elems + c.limits.length
theorem elem_size_le {es : List ElemD} {k : Nat} {e : ElemD} (h : es[k]? = some e) : e.size ≤ elemsSize es := by
  have := mem_le_sum (es.map ElemD.size) e.size (List.mem_map_of_mem (List.mem_of_getElem? h))
  unfold elemsSize
  omega
theorem code_parts (c : CodeD) : c.elems.length ≤ c.size ∧ c.limits.length ≤ c.size ∧ elemsSize c.elems ≤ c.size := by
  unfold CodeD.size elemsSize
  omega
theorem szElement_any (v : Value) (x : ElemD) (left : Int) (w : World) (h : ElemAt w v x) (h0 : 0 ≤ left) (h1 : left ≤ 1048576) :
    Calls Tryd.prog 69 #[v, .int .i64 left] w fun e w' => e = .returned (.int .i64 (lessOr left x.size)) ∧ Kept w w' := by
  obtain ⟨rfl, hs⟩ := h
  unfold maxLen at hs
  by_cases hb : (x.name.size : Int) ≤ left
  · go_enter Tryd.func69, Tryd.ntmps69
    go_wp2
    go_ret
    refine ⟨ret_int ?_, (Kept.refl w).alloc _⟩
    unfold lessOr ElemD.size
    rw [if_pos (by omega)]
  · go_enter Tryd.func69, Tryd.ntmps69
    go_wp2
    go_ret
    refine ⟨ret_int ?_, (Kept.refl w).alloc _⟩
    unfold lessOr ElemD.size
    rw [if_neg (by omega)]
set_option maxHeartbeats 400000 in
theorem szElementS_any (v : Value) (es : List ElemD) (left : Int) (w : World) (h : Elems w v es) (h0 : 0 ≤ left) (h1 : left ≤ 1048576) :
    Calls Tryd.prog 42 #[v, .int .i64 left] w fun e w' => e = .returned (.int .i64 (lessOr left (elemsSize es))) ∧ Kept w w' := by
  obtain ⟨A, c, rfl, hnc, hcm, hA⟩ := h.1.out
  unfold maxLen at hcm
  have HA := Lib.hid hA
  have HS := Lib.hid h.2
  clear hA h
  by_cases hb : (es.length : Int) ≤ left
  · go_enter Tryd.func42, Tryd.ntmps42
    go_wp2_with fail
    go_loopw [1, 5] (fun q i wr => ∃ k : Nat, k ≤ es.length ∧ i = .int .i64 k ∧ q = .int .i64 (left - es.length - ((es.take k).map ElemD.size).sum) ∧ 0 ≤ left - es.length - (((es.take k).map ElemD.size).sum : Nat) ∧ Kept w wr) (fun _ i _ => es.length - (intOf i).toNat)
    case atStart => exact ⟨0, Nat.zero_le _, rfl, by simp, by simp; omega, Kept.refl _⟩
    case round =>
      obtain ⟨k, hk, rfl, rfl, hge, hkept⟩ := hrel
      by_cases hlt : k < es.length
      · obtain ⟨b, o, x, rfl, hb', h2, q0, q1, q2, q3⟩ := elems_at (HA.out.kept hkept) hlt
        have HI : Hid (ElemAt wr _ x) := Lib.hid (ElemAt.mk x wr (HS.out x (List.mem_of_getElem? h2)))
        have HN := Lib.hid (sum_snoc ElemD.size h2)
        have HT := Lib.hid (sum_take _ ElemD.size es (k + 1))
        clear h2
        generalize ((es.take k).map ElemD.size).sum = sk at *
        by_cases hl2 : (x.size : Int) ≤ left - es.length - sk
        · have HE : Hid (lessOr (left - es.length - sk) x.size = left - es.length - sk - x.size) := by unfold lessOr; exact if_pos hl2
          go_wp2_with fail
          refine (szElement_any _ x _ _ HI.out hge (by omega)).mono ?_
          rintro e w1 ⟨rfl, k1⟩
          rw [HE.out]
          go_wp2_with fail
          go_roundw
          case rel => exact ⟨k + 1, by omega, by go_num, by rw [HN.out]; congr 1; omega, by rw [HN.out]; omega, hkept.trans k1⟩
          case measure => simp [intOf]; omega
        · have HE : Hid (lessOr (left - es.length - sk) x.size = -1) := by unfold lessOr; exact if_neg hl2
          go_wp2_with fail
          refine (szElement_any _ x _ _ HI.out hge (by omega)).mono ?_
          rintro e w1 ⟨rfl, k1⟩
          rw [HE.out]
          go_wp2_with fail
          go_ret
          refine ⟨ret_int ?_, hkept.trans k1⟩
          have q1 := HN.out
          have q2 := HT.out
          unfold lessOr elemsSize
          rw [if_neg (by omega)]
      · obtain rfl : k = es.length := by omega
        go_wp2_with fail
        go_ret
        refine ⟨ret_int ?_, hkept⟩
        try simp only [List.take_length] at hge ⊢
        unfold lessOr elemsSize
        rw [if_pos (by omega)]
        omega
  · go_enter Tryd.func42, Tryd.ntmps42
    go_wp2_with fail
    go_ret
    refine ⟨ret_int ?_, Kept.refl _⟩
    unfold lessOr elemsSize
    rw [if_neg (by omega)]
theorem szCode_any (v : Value) (x : CodeD) (left : Int) (w : World) (h : CodeAt w v x) (h0 : 0 ≤ left) (h1 : left ≤ 1048576) :
    Calls Tryd.prog 15 #[v, .int .i64 left] w fun e w' => e = .returned (.int .i64 (lessOr left x.size)) ∧ Kept w w' := by
  obtain ⟨nv, mv, rfl, q1, q2⟩ := h
  have H1 := Lib.hid q1
  have H2 := Lib.hid q2
  clear q1 q2
  obtain ⟨b1, b2⟩ := lessOr_bd (n := elemsSize x.elems) h0
  have B0 := Box.new w w.heap.size 35 #[nv, mv, .int .i64 x.repeats, .int .i64 x.bonus, .int .i64 x.keeps, .int .i64 x.fall] rfl
  by_cases hneg : lessOr left (elemsSize x.elems) < 0
  · have HF := Lib.hid (lessOr_neg (m := x.limits.length) hneg h0)
    go_enter Tryd.func15, Tryd.ntmps15
    go_wp2_with fail
    refine (szElementS_any _ _ _ _ (H1.out.kept ((Kept.refl _).alloc _)) h0 h1).mono ?_
    rintro e w1 ⟨rfl, k1⟩
    go_wp2_with fail
    go_ret
    exact ⟨ret_int HF.out.symm, ((Kept.refl _).alloc _).trans k1⟩
  · have HF := Lib.hid (lessOr_add (m := x.limits.length) (Int.not_lt.1 hneg))
    obtain ⟨b3, b4⟩ := lessOr_bd (n := x.limits.length) (Int.not_lt.1 hneg)
    have hpos : 0 ≤ lessOr left (elemsSize x.elems) := by omega
    have hfin : lessOr (lessOr left (elemsSize x.elems)) x.limits.length < 0 → lessOr (lessOr left (elemsSize x.elems)) x.limits.length = -1 := by omega
    have HN := Lib.hid hfin
    clear hfin
    go_enter Tryd.func15, Tryd.ntmps15
    go_wp2_with fail
    refine (szElementS_any _ _ _ _ (H1.out.kept ((Kept.refl _).alloc _)) h0 h1).mono ?_
    rintro e w1 ⟨rfl, k1⟩
    obtain ⟨c0, f0⟩ := (B0.kept k1).six
    have K1 : Kept w w1 := ((Kept.refl _).alloc _).trans k1
    clear B0 k1
    go_wp2_with (go_at_call 43; refine (szIntS_any _ _ _ _ (H2.out.kept K1) hpos (by omega)).mono ?_; rintro e w' ⟨rfl, rfl⟩)
    all_goals
      go_ret
      refine ⟨ret_int ?_, K1⟩
      unfold CodeD.size
      rw [← HF.out]
      try (rw [HN.out (by assumption)])
/-! ### copies -/
theorem info_elem : (Tryd.prog.info? 83).map (fun i => (i.zero, i.size, i.bytes)) = some (some (.agg #[.string ByteArray.empty, .int .i64 0, .int .i64 0, .int .i64 0]), 4, 40) := by kernel_rfl
set_option maxHeartbeats 400000 in
theorem toElement_any (v : Value) (x : ElemD) (w : World) (h : ElemAt w v x) :
    Calls Tryd.prog 74 #[v] w fun e w' => e = .returned (.agg #[.string x.name, .int .i64 x.family, .int .i64 x.level, .int .i64 x.base]) ∧ Kept w w' := by
  obtain ⟨rfl, hs⟩ := h
  unfold maxLen at hs
  go_enter Tryd.func74, Tryd.ntmps74
  go_wp2_with fail
  refine bodyPost_ret (v := .agg #[.string x.name, .int .i64 x.family, .int .i64 x.level, .int .i64 x.base]) (by simp [results, Tryd.results74, go_sem]) rfl ⟨rfl, ?_⟩
  repeat (refine Kept.setCell ?_ (by dsimp only; omega) _)
  exact (((Kept.refl w).alloc _).alloc _).alloc _
theorem set4_take {xs ys : List Value} {k n : Nat} {a b c d : Value} (hl : xs.length = n * 4) (hk : k < n) (ht : xs.take (k * 4) = ys) :
    ((((xs.set (k * 4) a).set (k * 4 + 1) b).set (k * 4 + 2) c).set (k * 4 + 3) d).take ((k + 1) * 4) = ys ++ [a, b, c, d] := by
  have h1 : k * 4 + 3 < xs.length := by omega
  rw [show (k + 1) * 4 = k * 4 + 3 + 1 from by omega]
  rw [take_snoc (x := d) (by rw [List.getElem?_set_self (by simp; omega)]), List.take_set_of_le (Nat.le_refl _)]
  rw [take_snoc (x := c) (by rw [List.getElem?_set_self (by simp; omega)]), List.take_set_of_le (Nat.le_refl _)]
  rw [take_snoc (x := b) (by rw [List.getElem?_set_self (by simp; omega)]), List.take_set_of_le (Nat.le_refl _)]
  rw [take_snoc (x := a) (by rw [List.getElem?_set_self (by omega)]), List.take_set_of_le (Nat.le_refl _), ht]
  simp
set_option maxHeartbeats 1000000 in
theorem toElementS_any (v : Value) (es : List ElemD) (w : World) (h : Elems w v es) (hn : es.length ≤ 1048576) :
    Calls Tryd.prog 46 #[v] w fun e w' => ∃ v', e = .returned v' ∧ OwnE w' w.heap.size v' es ∧ Kept w w' := by
  obtain ⟨A, c, rfl, hnc, hcm, hA⟩ := h.1.out
  unfold maxLen at hcm
  have HA := Lib.hid hA
  have HS := Lib.hid h.2
  clear hA h
  obtain ⟨i0, hi, hz0, hz1, hz2⟩ := info_parts info_elem
  go_enter Tryd.func46, Tryd.ntmps46
  go_wp2_with (at_make; refine wpList_make_full _ rfl _ _ 39 rfl w.heap.size 83 i0 _ 4 Tryd.underlying39 hi hz0 hz1 _ _ _ _ es.length rfl rfl rfl rfl (by rw [hz2]; omega) (by unfold maxLen; omega) (Nat.le_refl _) ?_; intro w1 hown hgrow)
  have hk1 : Kept w w1 := (Below.refl _ _).grown hgrow (Nat.le_refl _) (by intro k hk; cases hk)
  have hsz1 : w.heap.size < w1.heap.size := (hown.lt w.heap.size rfl).2
  clear hgrow hi hz0 hz1 hz2
  go_loopw [4] (fun i wr => ∃ (k : Nat) (xs : List Value), k ≤ es.length ∧ i = .int .i64 k ∧ wr.ownsRow w.heap.size 83 4 (.slice (some ⟨w.heap.size, 0, none⟩) es.length es.length) es.length xs ∧ xs.take (k * 4) = (es.take k).flatMap cells4 ∧ Kept w wr) (fun i _ => es.length - (intOf i).toNat)
  case atStart => exact ⟨0, _, Nat.zero_le _, rfl, hown, by simp, hk1⟩
  case round =>
    clear hown hk1
    obtain ⟨k, xs, hk, rfl, ho, ht, hkept⟩ := hrel
    by_cases hlt : k < es.length
    · obtain ⟨b, o, x, rfl, hb, h2, q0, q1, q2, q3⟩ := elems_at (HA.out.kept hkept) hlt
      have HI := Lib.hid (ElemAt.mk x wr (HS.out x (List.mem_of_getElem? h2)))
      have H2 := Lib.hid h2
      have HO := Lib.hid ho
      have HT := Lib.hid ht
      clear h2 ho ht
      go_wp2_with fail
      refine (toElement_any _ x _ HI.out).mono ?_
      rintro e w2 ⟨rfl, k2⟩
      have ho2 := own_kept HO.out k2
      obtain ⟨u0, _, x0, y0⟩ := own_at ho2 (j := k * 4) (by omega)
      obtain ⟨u1, _, x1, y1⟩ := own_at ho2 (j := k * 4 + 1) (by omega)
      obtain ⟨u2', _, x2, y2⟩ := own_at ho2 (j := k * 4 + 2) (by omega)
      obtain ⟨u3', _, x3, y3⟩ := own_at ho2 (j := k * 4 + 3) (by omega)
      have HO2 := Lib.hid ho2
      clear ho2 q0 q1 q2 q3
      go_wp2_with fail
      have hlenx : xs.length = es.length * 4 := HO.out.1
      go_roundw
      case rel =>
        refine ⟨k + 1, _, by omega, by go_num, ((((HO2.out.stored (k * 4) _).1.stored (k * 4 + 1) _).1.stored (k * 4 + 2) _).1.stored (k * 4 + 3) _).1, ?_, ?_⟩
        · rw [set4_take hlenx hlt HT.out, take_snoc H2.out]
          simp [cells4]
        · repeat (refine Kept.setCell ?_ (by dsimp only; omega) _)
          exact hkept.trans k2
      case measure => simp [intOf]; omega
    · obtain rfl : k = es.length := by omega
      have hlenx : xs.length = es.length * 4 := ho.1
      have hx : xs = es.flatMap cells4 := by rw [List.take_length] at ht; rw [← ht, List.take_of_length_le (by omega)]
      have HO := Lib.hid ho
      have HX := Lib.hid hx
      clear ho ht hx hlenx
      go_wp2_with fail
      go_ret
      exact ⟨_, rfl, ⟨by rw [← HX.out]; exact HO.out, HS.out⟩, hkept⟩
end Go.Proofs.YtfonfekejbmamaaDoor
