/- Contracts of functions that the proof leans on. No condition. -/
import Derived.Test.YtkkdhmbkpebajaaDoorMac1506e31e
import Derived.StillTailTactics
import Derived.Deep.RegionHeld3
import Derived.Deep.DeepCutAuto
import Derived.Test.YtkkdhmbkpebajaaDoorRows
import Derived.WalkKit
import Derived.ProofKit
import Derived.OpenShut
import Derived.ShutString
import Derived.ChangeOld
import Derived.Below
import Derived.LaidMore
import Derived.Lay
import Derived.MakeChecks
import Derived.Stop.LaidErr
import Derived.Shelf.Vars
import Derived.Lib.LaidTab
import Derived.OpenVars
import Derived.Test.YtkkdhmbkpebajaaDoorShelf
/- Items in memory. -/
namespace Go.Proofs.YtkkdhmbkpebajaaDoor
set_option linter.unusedVariables false
set_option linter.unusedSimpArgs false
open Go.RowKit

structure ItemD where
  names : List ByteArray
  marks : List Int
  late : Bool
def ItemAt (w : World) (v : Value) (it : ItemD) : Prop := ∃ nv mv, v = .agg #[nv, mv, .bool it.late] ∧ Strs w nv it.names ∧ Ints w mv it.marks
theorem fpA_item (a b : Value) (c : Bool) : fpA (.agg #[a, b, .bool c]) = fp a ++ fp b := by
  simp [fpA, fp, Value.ownBlock]
def OwnT (w : World) (base : Nat) (v : Value) (it : ItemD) : Prop :=
  ∃ nv mv, v = .agg #[nv, mv, .bool it.late] ∧ OwnS w base nv it.names ∧ OwnI w base mv it.marks ∧ (fpA v).Nodup
theorem ItemAt.kept {w w' : World} {v : Value} {it : ItemD} (h : ItemAt w v it) (hk : Kept w w') : ItemAt w' v it := by
  obtain ⟨nv, mv, e, h1, h2⟩ := h
  exact ⟨nv, mv, e, h1.kept hk, h2.kept hk⟩
theorem OwnT.item {w : World} {base : Nat} {v : Value} {it : ItemD} (h : OwnT w base v it) : ItemAt w v it := by
  obtain ⟨nv, mv, e, h1, h2, _⟩ := h
  exact ⟨nv, mv, e, h1.strs, h2.ints⟩
theorem info_item : (Tryd.prog.info? 34).map (fun i => (i.zero, i.size, i.bytes)) = some (some (.agg #[.slice none 0 0, .slice none 0 0, .bool false]), 3, 56) := by kernel_rfl

/-- the three cells of an item -/
def row3 (p : (Value × Value) × ItemD) : List Value := [p.1.1, p.1.2, .bool p.2.late]
def ItemsA (w : World) (A : Option Addr) (its : List ItemD) (cs : List (Value × Value)) : Prop :=
  cs.length = its.length ∧ SeqA w A its.length ((cs.zip its).flatMap row3) ∧ ∀ (k : Nat) (nv mv : Value) (it : ItemD), cs[k]? = some (nv, mv) → its[k]? = some it → Strs w nv it.names ∧ Ints w mv it.marks
def ItemsAt (w : World) (v : Value) (its : List ItemD) : Prop :=
  ∃ cs : List (Value × Value), cs.length = its.length ∧ Seq w v its.length ((cs.zip its).flatMap row3) ∧ ∀ (k : Nat) (nv mv : Value) (it : ItemD), cs[k]? = some (nv, mv) → its[k]? = some it → Strs w nv it.names ∧ Ints w mv it.marks
theorem ItemsAt.kept {w w' : World} {v : Value} {its : List ItemD} (h : ItemsAt w v its) (hk : Kept w w') : ItemsAt w' v its := by
  obtain ⟨cs, e, h1, h2⟩ := h
  exact ⟨cs, e, h1.kept hk, fun k nv mv it q1 q2 => ⟨(h2 k nv mv it q1 q2).1.kept hk, (h2 k nv mv it q1 q2).2.kept hk⟩⟩
theorem ItemsA.kept {w w' : World} {A : Option Addr} {its : List ItemD} {cs : List (Value × Value)} (h : ItemsA w A its cs) (hk : Kept w w') : ItemsA w' A its cs :=
  ⟨h.1, h.2.1.kept hk, fun k nv mv it q1 q2 => ⟨(h.2.2 k nv mv it q1 q2).1.kept hk, (h.2.2 k nv mv it q1 q2).2.kept hk⟩⟩
theorem ItemsAt.out {w : World} {v : Value} {its : List ItemD} (h : ItemsAt w v its) : ∃ A c cs, v = .slice A its.length c ∧ its.length ≤ c ∧ c ≤ maxLen ∧ ItemsA w A its cs := by
  obtain ⟨cs, e, h1, h2⟩ := h
  obtain ⟨A, c, rfl, hnc, hcm, hsa⟩ := h1.out
  exact ⟨A, c, cs, rfl, hnc, hcm, e, hsa, h2⟩
/-- an item of a list, its three cells -/
theorem items_at {w : World} {A : Option Addr} {its : List ItemD} {cs : List (Value × Value)} (hA : ItemsA w A its cs) {k : Nat} (hk : k < its.length) :
    ∃ b o A1 c1 A2 c2 it, A = some ⟨b, o, none⟩ ∧ b < w.heap.size ∧ its[k]? = some it ∧ cs[k]? = some (.slice A1 it.names.length c1, .slice A2 it.marks.length c2) ∧ ItemAt w (.agg #[.slice A1 it.names.length c1, .slice A2 it.marks.length c2, .bool it.late]) it ∧
      w.cell? ⟨b, o + k * 3, none⟩ = some (.slice A1 it.names.length c1) ∧ w.cell? ⟨b, o + k * 3 + 1, none⟩ = some (.slice A2 it.marks.length c2) ∧ w.cell? ⟨b, o + k * 3 + 2, none⟩ = some (.bool it.late) := by
  obtain ⟨hl, h, hc⟩ := hA
  obtain ⟨b, o, e, hb, hcell⟩ := h (by omega)
  have h1 : its[k]? = some its[k] := List.getElem?_eq_getElem hk
  obtain ⟨nv, mv, h2⟩ : ∃ nv mv, cs[k]? = some (nv, mv) := ⟨_, _, List.getElem?_eq_getElem (by omega)⟩
  have h3 := hc k nv mv its[k] h2 h1
  have hz : (cs.zip its)[k]? = some ((nv, mv), its[k]) := by rw [List.getElem?_zip_eq_some]; exact ⟨h2, h1⟩
  have hf := flat_get row3 3 (fun _ => rfl) (cs.zip its) k
  have q0 := hcell (k * 3) nv (by have := hf 0 (by omega); rw [Nat.add_zero, hz] at this; exact this)
  have q1 := hcell (k * 3 + 1) mv (by have := hf 1 (by omega); rw [hz] at this; exact this)
  have q2 := hcell (k * 3 + 2) (.bool its[k].late) (by have := hf 2 (by omega); rw [hz] at this; exact this)
  rw [← Nat.add_assoc] at q1 q2
  have hit : ItemAt w (.agg #[nv, mv, .bool its[k].late]) its[k] := ⟨_, _, rfl, h3.1, h3.2⟩
  obtain ⟨A1, c1, rfl, _⟩ := h3.1.1.out
  obtain ⟨A2, c2, rfl, _⟩ := h3.2.out
  exact ⟨b, o, A1, c1, A2, c2, its[k], e, hb, h1, h2, hit, q0, q1, q2⟩


/-! ### sizes -/
def strsSize (zs : List ByteArray) : Nat := zs.length + (zs.map ByteArray.size).sum
def ItemD.size (it : ItemD) : Nat := strsSize it.names + it.marks.length
def itemsSize (its : List ItemD) : Nat := its.length + (its.map ItemD.size).sum
theorem item_size_le {its : List ItemD} {k : Nat} {it : ItemD} (h : its[k]? = some it) : it.size ≤ itemsSize its := by
  have := mem_le_sum (its.map ItemD.size) it.size (List.mem_map_of_mem (List.mem_of_getElem? h))
  unfold itemsSize
  omega
theorem item_parts (it : ItemD) : it.names.length ≤ it.size ∧ it.marks.length ≤ it.size := by
  unfold ItemD.size strsSize
  omega
/-! ### lists of items that the call owns -/
theorem OwnS.far {w w' : World} {base base' : Nat} {v : Value} {zs : List ByteArray} {S : List Nat} (h : OwnS w base v zs) (ho : Only S w w') (hS : ∀ b ∈ S, b < base) (hb : base' ≤ base) : OwnS w' base' v zs := ⟨own_far h.1 ho hS hb, h.2⟩
def fpL (cs : List (Value × Value)) : List Nat := cs.flatMap fun p => fp p.1 ++ fp p.2
theorem fpL_snoc (cs : List (Value × Value)) (a b : Value) : fpL (cs ++ [(a, b)]) = fpL cs ++ (fp a ++ fp b) := by simp [fpL]
def OwnL (w : World) (base : Nat) (v : Value) (its : List ItemD) (S : List Nat) : Prop :=
  ∃ cs : List (Value × Value), cs.length = its.length ∧ w.ownsRow base 34 3 v its.length ((cs.zip its).flatMap row3) ∧
    (∀ (k : Nat) (nv mv : Value) (it : ItemD), cs[k]? = some (nv, mv) → its[k]? = some it → OwnS w base nv it.names ∧ OwnI w base mv it.marks) ∧ S = fp v ++ fpL cs ∧ S.Nodup ∧ ∀ b ∈ S, base ≤ b ∧ b < w.heap.size
theorem OwnL.items {w : World} {base : Nat} {v : Value} {its : List ItemD} {S : List Nat} (h : OwnL w base v its S) : ItemsAt w v its := by
  obtain ⟨cs, h1, h2, h3, _⟩ := h
  exact ⟨cs, h1, Seq.of_own h2, fun k nv mv it q1 q2 => ⟨(h3 k nv mv it q1 q2).1.strs, (h3 k nv mv it q1 q2).2.ints⟩⟩
theorem mem_fpL {cs : List (Value × Value)} {k : Nat} {nv mv : Value} (h : cs[k]? = some (nv, mv)) {b : Nat} (hb : b ∈ fp nv ∨ b ∈ fp mv) : b ∈ fpL cs := by
  unfold fpL
  rw [List.mem_flatMap]
  exact ⟨(nv, mv), List.mem_of_getElem? h, by simpa using hb⟩
theorem OwnL.only {w w' : World} {base : Nat} {v : Value} {its : List ItemD} {S T : List Nat} (h : OwnL w base v its S) (ho : Only T w w') (hd : ∀ b ∈ S, b ∉ T) : OwnL w' base v its S := by
  obtain ⟨cs, h1, h2, h3, rfl, h5, h6⟩ := h
  refine ⟨cs, h1, own_only h2 ho (fun b hb => hd b (List.mem_append_left _ hb)), fun k nv mv it q1 q2 => ⟨(h3 k nv mv it q1 q2).1.only ho (fun b hb => hd b (List.mem_append_right _ (mem_fpL q1 (.inl hb)))), (h3 k nv mv it q1 q2).2.only ho (fun b hb => hd b (List.mem_append_right _ (mem_fpL q1 (.inr hb))))⟩, rfl, h5, fun b hb => ⟨(h6 b hb).1, Nat.lt_of_lt_of_le (h6 b hb).2 ho.size⟩⟩
theorem OwnL.kept {w w' : World} {base : Nat} {v : Value} {its : List ItemD} {S : List Nat} (h : OwnL w base v its S) (hk : Kept w w') : OwnL w' base v its S := h.only (hk.only []) (fun _ _ => List.not_mem_nil)
theorem set3_take {xs ys : List Value} {k n : Nat} {a b c : Value} (hl : xs.length = n * 3) (hk : k < n) (ht : xs.take (k * 3) = ys) :
    (((xs.set (k * 3) a).set (k * 3 + 1) b).set (k * 3 + 2) c).take ((k + 1) * 3) = ys ++ [a, b, c] := by
  have h1 : k * 3 + 2 < xs.length := by omega
  rw [show (k + 1) * 3 = k * 3 + 2 + 1 from by omega]
  rw [take_snoc (x := c) (by rw [List.getElem?_set_self (by simp; omega)]), List.take_set_of_le (Nat.le_refl _)]
  rw [take_snoc (x := b) (by rw [List.getElem?_set_self (by simp; omega)]), List.take_set_of_le (Nat.le_refl _)]
  rw [take_snoc (x := a) (by rw [List.getElem?_set_self (by omega)]), List.take_set_of_le (Nat.le_refl _), ht]
  simp
theorem zip_snoc {cs : List (Value × Value)} {its : List ItemD} {p : Value × Value} {it : ItemD} (h : its[cs.length]? = some it) : (cs ++ [p]).zip its = cs.zip its ++ [(p, it)] := by
  induction cs generalizing its with
  | nil =>
    cases its with
    | nil => simp at h
    | cons x l => simp at h; simp [h]
  | cons q cs ih =>
    cases its with
    | nil => simp at h
    | cons x l =>
      simp at h
      simp [ih h]
theorem getElem?_snoc {α : Type} {l : List α} {x y : α} {k : Nat} (h : (l ++ [x])[k]? = some y) : (l[k]? = some y) ∨ (k = l.length ∧ x = y) := by
  rcases Nat.lt_trichotomy k l.length with h1 | h1 | h1
  · rw [List.getElem?_append_left h1] at h
    exact .inl h
  · subst h1
    simp at h
    exact .inr ⟨rfl, h⟩
  · rw [List.getElem?_eq_none (by simp; omega)] at h
    cases h
end Go.Proofs.YtkkdhmbkpebajaaDoor

/- Lists of items compared; which items are valid. -/
namespace Go.Proofs.YtkkdhmbkpebajaaDoor
set_option linter.unusedVariables false
set_option linter.unusedSimpArgs false
open Go.RowKit

/-! ### which items are valid -/
def itemB (it : ItemD) : Bool := it.names.all nameB && inB it.names.length 1 3 && (it.marks.length == it.names.length) && it.marks.all (inB · 0 3)
def itemsB (its : List ItemD) : Bool := its.all itemB && decide (its.length ≤ 14)
set_option maxHeartbeats 1000000 in
theorem isItem_any (v : Value) (it : ItemD) (w : World) (h : ItemAt w v it) :
    Calls Tryd.prog 36 #[v] w fun e w' => e = .returned (.bool (itemB it)) ∧ Kept w w' := by
  obtain ⟨nv, mv, rfl, q1, q2⟩ := h
  obtain ⟨A, c, rfl, hnc, hcm, hl⟩ := q1.1.out
  obtain ⟨A2, c2, rfl, hnc2, hcm2, _⟩ := q2.out
  unfold maxLen at hcm hcm2
  have HL := Lib.hid hl
  have HS := Lib.hid q1.2
  have H2 := Lib.hid q2
  clear q1 q2 hl
  go_enter Tryd.func36, Tryd.ntmps36
  go_wp2_with fail
  go_loop [8] (fun i => ∃ k : Nat, k ≤ it.names.length ∧ i = .int .i64 k ∧ (it.names.take k).all nameB = true) (fun i => it.names.length - (intOf i).toNat)
  case atStart => exact ⟨0, Nat.zero_le _, rfl, rfl⟩
  case round =>
    obtain ⟨k, hk, rfl, ha⟩ := hrel
    have HA := Lib.hid ha
    clear ha
    by_cases hlt : k < it.names.length
    · obtain ⟨b, o, z, rfl, hb, hz, hc⟩ := strs_at (HL.out.kept ((Kept.refl w).alloc (.cells #[.slice A it.names.length c, .slice A2 it.marks.length c2, .bool it.late] 34))) hlt
      have hzs := HS.out z (List.mem_of_getElem? hz)
      have HZ := Lib.hid hz
      clear hz
      by_cases hn : nameB z = true
      · go_wp2_with (go_at_call 53; refine (isName_any _ _ hzs).mono ?_; rintro e w' ⟨rfl, rfl⟩)
        go_round
        case rel => exact ⟨k + 1, by omega, by go_num, all_snoc HZ.out HA.out hn⟩
        case measure => simp [intOf]; omega
      · simp only [Bool.not_eq_true] at hn
        go_wp2_with (go_at_call 53; refine (isName_any _ _ hzs).mono ?_; rintro e w' ⟨rfl, rfl⟩)
        go_ret
        exact ⟨ret_bool (by unfold itemB; rw [all_not HZ.out hn]; rfl), (Kept.refl _).alloc _⟩
    · have hall := all_full (p := nameB) (by omega) HA.out
      have HALL := Lib.hid hall
      clear hall
      by_cases h3 : inB it.names.length 1 3 = true <;> by_cases h4 : it.marks.length = it.names.length
      all_goals
        try simp only [Bool.not_eq_true] at h3
        have H4 := Lib.hid h4
        first
          | (have h5 : ((it.marks.length : Int) == (it.names.length : Int)) = true := by simp [h4])
          | (have h5 : ((it.marks.length : Int) == (it.names.length : Int)) = false := beq_eq_false_iff_ne.2 (by omega))
        clear h4
        go_wp2_with (first | (go_at_call 43; refine (within_any _ _ _ _).mono ?_; rintro e w' ⟨rfl, rfl⟩) | (go_at_call 63; refine (allWithin_any _ _ _ _ _ (H2.out.kept ((Kept.refl w).alloc _))).mono ?_; rintro e w' ⟨rfl, rfl⟩))
        go_ret
        exact ⟨ret_bool (by unfold itemB; rw [HALL.out, h3]; simp [H4.out]), (Kept.refl _).alloc _⟩
set_option maxHeartbeats 1000000 in
theorem itGood_any (v : Value) (it : ItemD) (w : World) (h : ItemAt w v it) :
    Calls Tryd.prog 30 #[v] w fun e w' => e = .returned (.bool (itemB it)) ∧ Kept w w' := by
  obtain ⟨nv, mv, rfl, q1, q2⟩ := h
  obtain ⟨A, c, rfl, hnc, hcm, hl⟩ := q1.1.out
  obtain ⟨A2, c2, rfl, hnc2, hcm2, _⟩ := q2.out
  unfold maxLen at hcm hcm2
  have HL := Lib.hid hl
  have HS := Lib.hid q1.2
  have H2 := Lib.hid q2
  clear q1 q2 hl
  go_enter Tryd.func30, Tryd.ntmps30
  go_wp2_with fail
  go_loop [8] (fun i => ∃ k : Nat, k ≤ it.names.length ∧ i = .int .i64 k ∧ (it.names.take k).all nameB = true) (fun i => it.names.length - (intOf i).toNat)
  case atStart => exact ⟨0, Nat.zero_le _, rfl, rfl⟩
  case round =>
    obtain ⟨k, hk, rfl, ha⟩ := hrel
    have HA := Lib.hid ha
    clear ha
    by_cases hlt : k < it.names.length
    · obtain ⟨b, o, z, rfl, hb, hz, hc⟩ := strs_at (HL.out.kept ((Kept.refl w).alloc (.cells #[.slice A it.names.length c, .slice A2 it.marks.length c2, .bool it.late] 34))) hlt
      have hzs := HS.out z (List.mem_of_getElem? hz)
      have HZ := Lib.hid hz
      clear hz
      by_cases hn : nameB z = true
      · go_wp2_with (go_at_call 57; refine (itName_any _ _ hzs).mono ?_; rintro e w' ⟨rfl, rfl⟩)
        go_round
        case rel => exact ⟨k + 1, by omega, by go_num, all_snoc HZ.out HA.out hn⟩
        case measure => simp [intOf]; omega
      · simp only [Bool.not_eq_true] at hn
        go_wp2_with (go_at_call 57; refine (itName_any _ _ hzs).mono ?_; rintro e w' ⟨rfl, rfl⟩)
        go_ret
        exact ⟨ret_bool (by unfold itemB; rw [all_not HZ.out hn]; rfl), (Kept.refl _).alloc _⟩
    · have hall := all_full (p := nameB) (by omega) HA.out
      have HALL := Lib.hid hall
      clear hall
      by_cases h3 : inB it.names.length 1 3 = true <;> by_cases h4 : it.marks.length = it.names.length
      all_goals
        try simp only [Bool.not_eq_true] at h3
        have H4 := Lib.hid h4
        first
          | (have h5 : ((it.marks.length : Int) == (it.names.length : Int)) = true := by simp [h4])
          | (have h5 : ((it.marks.length : Int) == (it.names.length : Int)) = false := beq_eq_false_iff_ne.2 (by omega))
        clear h4
        go_wp2_with (first | (go_at_call 58; refine (l1In_any _ _ _ _).mono ?_; rintro e w' ⟨rfl, rfl⟩) | (go_at_call 59; refine (l1All_any _ _ _ _ _ (H2.out.kept ((Kept.refl w).alloc _))).mono ?_; rintro e w' ⟨rfl, rfl⟩))
        go_ret
        exact ⟨ret_bool (by unfold itemB; rw [HALL.out, h3]; simp [H4.out]), (Kept.refl _).alloc _⟩
end Go.Proofs.YtkkdhmbkpebajaaDoor

/- Texts, plain: the text of an item and of a list of items, and parsing them. -/
namespace Go.Proofs.YtkkdhmbkpebajaaDoor
set_option linter.unusedVariables false
set_option linter.unusedSimpArgs false
set_option linter.unnecessarySimpa false
open Go.Lib

def signL (m : Int) : List UInt8 := if m = 1 then [60] else if m = 2 then [101] else if m = 3 then [42] else []
def wordI (p : ByteArray × Int) : List UInt8 := p.1.data.toList ++ signL p.2
def itW (it : ItemD) : List (List UInt8) := (it.names.zip it.marks).map wordI
def lateL (b : Bool) : List UInt8 := if b then [32, 120] else []
def itTxt (it : ItemD) : List UInt8 := join (itW it) [43] ++ lateL it.late
def endM (w : List UInt8) : Int := match w.getLast? with
  | some b => if b = 60 then 1 else if b = 101 then 2 else if b = 42 then 3 else 0
  | none => 0
def cutM (w : List UInt8) : List UInt8 := if endM w = 0 then w else w.dropLast
def nameM (w : List UInt8) : ByteArray := ⟨(cutM w).toArray⟩
def itP (s : List UInt8) : ItemD := ⟨(splitOn 43 (trimSuffix s [32, 120])).map nameM, (splitOn 43 (trimSuffix s [32, 120])).map endM, hasSuffix s [32, 120]⟩
theorem endM_snoc (w : List UInt8) (b : UInt8) : endM (w ++ [b]) = if b = 60 then 1 else if b = 101 then 2 else if b = 42 then 3 else 0 := by
  unfold endM
  simp
theorem endM_nil : endM [] = 0 := rfl
theorem wordI_P (w : List UInt8) : wordI (nameM w, endM w) = w := by
  unfold wordI nameM cutM
  induction w using snocInd with
  | h0 => rfl
  | h1 w b _ =>
    simp only [endM_snoc]
    by_cases h1 : b = 60
    · subst h1; simp [signL]
    · by_cases h2 : b = 101
      · subst h2; simp [signL]
      · by_cases h3 : b = 42
        · subst h3; simp [signL]
        · simp [h1, h2, h3, signL]
theorem suffix_back (s p : List UInt8) : trimSuffix s p ++ (if hasSuffix s p then p else []) = s := by
  unfold trimSuffix hasSuffix
  split
  · rename_i h
    have hs := List.isSuffixOf_iff_suffix.1 h
    obtain ⟨t, rfl⟩ := hs
    simp
  · simp
theorem zip_maps {α β γ : Type} (f : α → β) (g : α → γ) : ∀ L : List α, (L.map f).zip (L.map g) = L.map fun x => (f x, g x)
  | [] => rfl
  | x :: L => by simp [zip_maps f g L]
/-- The text of what is parsed. -/
theorem itTxt_P (s : List UInt8) : itTxt (itP s) = s := by
  unfold itTxt itW itP
  simp only [zip_maps, List.map_map]
  have e : (wordI ∘ fun x => (nameM x, endM x)) = id := by funext w; exact wordI_P w
  rw [e, List.map_id, splitOn_join]
  exact suffix_back s [32, 120]

theorem nmB_cases {c : UInt8} (h : nmB c = true) : c ≠ 60 ∧ c ≠ 101 ∧ c ≠ 42 ∧ c ≠ 43 ∧ c ≠ 120 ∧ c ≠ 10 ∧ c ≠ 32 := by
  have hk : ∀ k : UInt8, nmB k = false → c ≠ k := fun k hk e => by rw [e, hk] at h; cases h
  exact ⟨hk _ (by decide), hk _ (by decide), hk _ (by decide), hk _ (by decide), hk _ (by decide), hk _ (by decide), hk _ (by decide)⟩
theorem name_of {s : ByteArray} (h : nameB s = true) : (∀ c ∈ s.data.toList, nmB c = true) ∧ s.data.toList ≠ [] := by
  unfold nameB at h
  simp only [Bool.and_eq_true] at h
  refine ⟨fun c hc => List.all_eq_true.1 h.1 c hc, fun e => ?_⟩
  have h2 := h.2
  unfold inB at h2
  rw [size_eq, e] at h2
  simp at h2
theorem sign_of {m : Int} (h : inB m 0 3 = true) : m = 0 ∨ m = 1 ∨ m = 2 ∨ m = 3 := by
  unfold inB at h
  simp at h
  omega
/-- A word of a valid item: it is cut into what it was made of; none of its bytes is a '+', a line's end; it does not end with an 'x'. -/
theorem word_back {s : ByteArray} {m : Int} (h : nameB s = true) (hm : inB m 0 3 = true) : nameM (wordI (s, m)) = s ∧ endM (wordI (s, m)) = m ∧ (∀ c ∈ wordI (s, m), c ≠ 43 ∧ c ≠ 10 ∧ c ≠ 32) ∧ ∃ w c, wordI (s, m) = w ++ [c] ∧ c ≠ 120 := by
  obtain ⟨ha, hne⟩ := name_of h
  obtain ⟨w, c, hw⟩ : ∃ w c, s.data.toList = w ++ [c] := ⟨_, _, (List.dropLast_concat_getLast hne).symm⟩
  have hc := nmB_cases (ha c (by rw [hw]; simp))
  have hall : ∀ x ∈ s.data.toList, x ≠ 43 ∧ x ≠ 10 ∧ x ≠ 32 := fun x hx => by have := nmB_cases (ha x hx); exact ⟨this.2.2.2.1, this.2.2.2.2.2.1, this.2.2.2.2.2.2⟩
  have hs : (⟨s.data.toList.toArray⟩ : ByteArray) = s := mk_data s
  unfold nameM cutM wordI
  rcases sign_of hm with rfl | rfl | rfl | rfl
  · have e : endM (s.data.toList ++ signL 0) = 0 := by
      simp only [signL]
      simp only [show ¬ ((0 : Int) = 1) by decide, show ¬ ((0 : Int) = 2) by decide, show ¬ ((0 : Int) = 3) by decide, if_false, List.append_nil]
      rw [hw, endM_snoc, if_neg hc.1, if_neg hc.2.1, if_neg hc.2.2.1]
    refine ⟨by rw [e]; simpa [signL] using hs, e, by simpa [signL] using hall, w, c, by simpa [signL] using hw, hc.2.2.2.2.1⟩
  · refine ⟨by rw [show signL 1 = [60] from rfl, endM_snoc]; simpa using hs, by rw [show signL 1 = [60] from rfl, endM_snoc]; rfl, ?_, s.data.toList, 60, rfl, by decide⟩
    intro x hx
    rcases List.mem_append.1 hx with h | h
    · exact hall x h
    · have : x = 60 := by simpa [signL] using h
      subst this; decide
  · refine ⟨by rw [show signL 2 = [101] from rfl, endM_snoc]; simpa using hs, by rw [show signL 2 = [101] from rfl, endM_snoc]; rfl, ?_, s.data.toList, 101, rfl, by decide⟩
    intro x hx
    rcases List.mem_append.1 hx with h | h
    · exact hall x h
    · have : x = 101 := by simpa [signL] using h
      subst this; decide
  · refine ⟨by rw [show signL 3 = [42] from rfl, endM_snoc]; simpa using hs, by rw [show signL 3 = [42] from rfl, endM_snoc]; rfl, ?_, s.data.toList, 42, rfl, by decide⟩
    intro x hx
    rcases List.mem_append.1 hx with h | h
    · exact hall x h
    · have : x = 42 := by simpa [signL] using h
      subst this; decide
theorem words_back : ∀ {ns : List ByteArray} {ms : List Int}, (∀ s ∈ ns, nameB s = true) → (∀ m ∈ ms, inB m 0 3 = true) → ms.length = ns.length →
    ((ns.zip ms).map wordI).map nameM = ns ∧ ((ns.zip ms).map wordI).map endM = ms ∧ ∀ x ∈ (ns.zip ms).map wordI, (∀ c ∈ x, c ≠ 43 ∧ c ≠ 10 ∧ c ≠ 32) ∧ ∃ w c, x = w ++ [c] ∧ c ≠ 120
  | [], [], _, _, _ => ⟨rfl, rfl, fun x hx => by simp at hx⟩
  | s :: ns, m :: ms, h1, h2, h3 => by
    obtain ⟨a, b, c⟩ := words_back (ns := ns) (ms := ms) (fun x hx => h1 x (List.mem_cons_of_mem _ hx)) (fun x hx => h2 x (List.mem_cons_of_mem _ hx)) (by simpa using h3)
    obtain ⟨a', b', c'⟩ := word_back (h1 s (by simp)) (h2 m (by simp))
    refine ⟨by simp only [List.zip_cons_cons, List.map_cons]; rw [a, a'], by simp only [List.zip_cons_cons, List.map_cons]; rw [b, b'], fun x hx => ?_⟩
    simp only [List.zip_cons_cons, List.map_cons] at hx
    rcases List.mem_cons.1 hx with rfl | hx
    · exact c'
    · exact c x hx
theorem join_end : ∀ {L : List (List UInt8)} {sep : List UInt8}, L ≠ [] → (∀ x ∈ L, ∃ w c, x = w ++ [c] ∧ c ≠ 120) → ∃ w c, join L sep = w ++ [c] ∧ c ≠ 120 := by
  intro L sep
  induction L with
  | nil => intro h; exact absurd rfl h
  | cons x t ih =>
    intro _ h
    cases t with
    | nil => rw [join_one]; exact h x (by simp)
    | cons y t =>
      obtain ⟨w, c, e, hc⟩ := ih (by simp) (fun z hz => h z (List.mem_cons_of_mem _ hz))
      refine ⟨x ++ sep ++ w, c, ?_, hc⟩
      rw [join_cons] at e ⊢
      simp only [joinTail, List.map_cons, List.flatten_cons] at e ⊢
      rw [List.append_assoc, e]
      simp
theorem item_of {it : ItemD} (h : itemB it = true) : (∀ s ∈ it.names, nameB s = true) ∧ (∀ m ∈ it.marks, inB m 0 3 = true) ∧ it.marks.length = it.names.length ∧ it.names ≠ [] ∧ it.names.length ≤ 3 := by
  unfold itemB at h
  simp only [Bool.and_eq_true] at h
  obtain ⟨⟨⟨h1, h2⟩, h3⟩, h4⟩ := h
  refine ⟨List.all_eq_true.1 h1, List.all_eq_true.1 h4, by simpa using h3, fun e => ?_, ?_⟩
  · rw [e] at h2; unfold inB at h2; simp at h2
  · unfold inB at h2; simp at h2; omega
/-- Parsing a valid item's text. -/
theorem itP_Txt {it : ItemD} (h : itemB it = true) : itP (itTxt it) = it := by
  obtain ⟨h1, h2, h3, h4, _⟩ := item_of h
  obtain ⟨a, b, c⟩ := words_back h1 h2 h3
  have hW : itW it ≠ [] := by
    unfold itW
    intro e
    rw [e] at a
    exact h4 a.symm
  obtain ⟨w, d, e, hd⟩ := join_end (sep := [43]) hW (fun x hx => (c x hx).2)
  have hsplit : splitOn 43 (join (itW it) [43]) = itW it := splitOn_of_join hW (fun x hx hm => ((c x hx).1 43 hm).1 rfl)
  have hT : trimSuffix (itTxt it) [32, 120] = join (itW it) [43] ∧ hasSuffix (itTxt it) [32, 120] = it.late := by
    unfold itTxt lateL trimSuffix hasSuffix
    cases it.late with
    | true =>
      have : [32, 120].isSuffixOf (join (itW it) [43] ++ [32, 120]) = true := List.isSuffixOf_iff_suffix.2 ⟨_, rfl⟩
      simp only [if_true, this]
      simp
    | false =>
      have : [32, 120].isSuffixOf (join (itW it) [43]) = false := by
        rw [Bool.eq_false_iff]
        intro hx
        obtain ⟨t, ht⟩ := List.isSuffixOf_iff_suffix.1 hx
        rw [e] at ht
        have : (t ++ [32]) ++ [120] = w ++ [d] := by simpa using ht
        have := (List.append_inj' this rfl).2
        injection this with this
        exact hd this.symm
      simp [this]
  unfold itP
  rw [hT.1, hT.2, hsplit]
  show (⟨(itW it).map nameM, (itW it).map endM, it.late⟩ : ItemD) = it
  unfold itW
  rw [a, b]
/-- A valid item's text bears no line's end. -/
theorem itTxt_line {it : ItemD} (h : itemB it = true) : 10 ∉ itTxt it := by
  obtain ⟨h1, h2, h3, h4, _⟩ := item_of h
  obtain ⟨a, b, c⟩ := words_back h1 h2 h3
  have hj : ∀ (L : List (List UInt8)), (∀ x ∈ L, ∀ d ∈ x, d ≠ 43 ∧ d ≠ 10 ∧ d ≠ 32) → 10 ∉ join L [43] := by
    intro L
    induction L with
    | nil => intro _ hm; simp [join_nil] at hm
    | cons x t ih =>
      intro hL hm
      cases t with
      | nil =>
        rw [join_one] at hm
        exact (hL x (by simp) 10 hm).2.1 rfl
      | cons y t =>
        have e : join (x :: y :: t) [43] = x ++ [43] ++ join (y :: t) [43] := by rw [join_cons, join_cons]; simp [joinTail]
        rw [e] at hm
        rcases List.mem_append.1 hm with hm | hm
        · rcases List.mem_append.1 hm with hm | hm
          · exact (hL x (by simp) 10 hm).2.1 rfl
          · simp at hm
        · exact ih (fun z hz => hL z (List.mem_cons_of_mem _ hz)) hm
  unfold itTxt
  intro hm
  rcases List.mem_append.1 hm with hm | hm
  · exact hj _ (fun x hx => (c x hx).1) hm
  · unfold lateL at hm
    cases it.late <;> simp at hm

/-! ### lists -/
def itsTxt (its : List ItemD) : List UInt8 := (its.map fun it => itTxt it ++ [10]).flatten
/-- Does a text end with a line's end, or is it empty? -/
def lnOk (s : List UInt8) : Bool := match s.getLast? with | none => true | some b => b == 10
def lns (s : List UInt8) : List (List UInt8) := (splitOn 10 s).dropLast
def psOk (s : List UInt8) : Bool := lnOk s && (decide ((lns s).length ≤ 14) && (lns s).all fun l => itemB (itP l))
def psV (s : List UInt8) : List ItemD := if psOk s then (lns s).map itP else []
theorem lns_nil : lns [] = [] := rfl
theorem lns_snoc (p : List UInt8) : lns (p ++ [10]) = splitOn 10 p := by unfold lns; rw [splitOn_snoc, List.dropLast_concat]
theorem lnOk_snoc (p : List UInt8) (b : UInt8) : lnOk (p ++ [b]) = (b == 10) := by unfold lnOk; simp
theorem lns_txt {its : List ItemD} (h : ∀ it ∈ its, itemB it = true) : lns (itsTxt its) = its.map itTxt ∧ lnOk (itsTxt its) = true := by
  have hs : ∀ its : List ItemD, (∀ it ∈ its, itemB it = true) → splitOn 10 (itsTxt its) = its.map itTxt ++ [[]] := by
    intro its
    induction its with
    | nil => intro _; rfl
    | cons it t ih =>
      intro h
      have e : itsTxt (it :: t) = itTxt it ++ 10 :: itsTxt t := by unfold itsTxt; simp
      rw [e, splitOn_hit (itTxt_line (h it (by simp))), ih (fun x hx => h x (List.mem_cons_of_mem _ hx))]
      rfl
  refine ⟨by unfold lns; rw [hs its h, List.dropLast_concat], ?_⟩
  clear h hs
  rcases List.eq_nil_or_concat its with rfl | ⟨t, it, rfl⟩
  · rfl
  · have e : itsTxt (t ++ [it]) = (itsTxt t ++ itTxt it) ++ [10] := by unfold itsTxt; simp
    rw [List.concat_eq_append] at *
    rw [e, lnOk_snoc]
    rfl
/-- Parsing a valid list's text. -/
theorem psV_txt {its : List ItemD} (h : itemsB its = true) : psOk (itsTxt its) = true ∧ psV (itsTxt its) = its := by
  unfold itemsB at h
  simp only [Bool.and_eq_true] at h
  have ha := List.all_eq_true.1 h.1
  obtain ⟨e1, e2⟩ := lns_txt ha
  have hm : (its.map itTxt).map itP = its := by
    rw [List.map_map]
    conv => rhs; rw [← List.map_id its]
    exact List.map_congr_left fun it hit => itP_Txt (ha it hit)
  have hok : psOk (itsTxt its) = true := by
    unfold psOk
    rw [e1, e2]
    simp only [Bool.true_and, Bool.and_eq_true, List.length_map, List.all_map]
    refine ⟨by simpa using h.2, List.all_eq_true.2 fun it hit => ?_⟩
    show itemB (itP (itTxt it)) = true
    rw [itP_Txt (ha it hit)]
    exact ha it hit
  refine ⟨hok, ?_⟩
  unfold psV
  rw [hok, if_pos rfl, e1, hm]
end Go.Proofs.YtkkdhmbkpebajaaDoor

/- How often a name occurs in a list. -/
namespace Go.Proofs.YtkkdhmbkpebajaaDoor
set_option linter.unusedVariables false
set_option linter.unusedSimpArgs false
open Go.RowKit

def cnt (s : ByteArray) (l : List ByteArray) : Nat := (l.filter fun x => decide (x = s)).length
def cntC (s : ByteArray) (it : ItemD) : Nat := if 1 < it.names.length then cnt s it.names else 0
def times (its : List ItemD) (s : ByteArray) : Nat := (its.map fun it => cnt s it.names).sum
def timesC (its : List ItemD) (s : ByteArray) : Nat := (its.map (cntC s)).sum
theorem cnt_snoc {s z : ByteArray} {l : List ByteArray} {k : Nat} (h : l[k]? = some z) : cnt s (l.take (k + 1)) = cnt s (l.take k) + if z = s then 1 else 0 := by
  unfold cnt
  rw [take_snoc h, List.filter_append]
  by_cases hz : z = s <;> simp [List.filter_cons, hz]
theorem cnt_le (s : ByteArray) (l : List ByteArray) : cnt s l ≤ l.length := List.length_filter_le _ _
theorem itemsB_true {its : List ItemD} (h : itemsB its = true) : its.length ≤ 14 ∧ ∀ it ∈ its, itemB it = true := by
  unfold itemsB at h
  rw [Bool.and_eq_true] at h
  exact ⟨by simpa using h.2, fun it hi => List.all_eq_true.1 h.1 it hi⟩
theorem itemB_true {it : ItemD} (h : itemB it = true) : (∀ z ∈ it.names, nameB z = true) ∧ 1 ≤ it.names.length ∧ it.names.length ≤ 3 ∧ it.marks.length = it.names.length ∧ ∀ m ∈ it.marks, 0 ≤ m ∧ m ≤ 3 := by
  unfold itemB at h
  simp only [Bool.and_eq_true] at h
  obtain ⟨⟨⟨h1, h2⟩, h3⟩, h4⟩ := h
  have h5 := inB_true h2
  exact ⟨fun z hz => List.all_eq_true.1 h1 z hz, by omega, by omega, by simpa using h3, fun m hm => inB_true (List.all_eq_true.1 h4 m hm)⟩
theorem sum_le_mul (l : List Nat) (B : Nat) (h : ∀ x ∈ l, x ≤ B) : l.sum ≤ l.length * B := by
  induction l with
  | nil => simp
  | cons y l ih =>
    have h1 := h y (by simp)
    have h2 := ih (fun x hx => h x (by simp [hx]))
    rw [List.sum_cons, List.length_cons, Nat.succ_mul]
    omega
theorem times_bd {its : List ItemD} (hb : itemsB its = true) (s : ByteArray) (k : Nat) : ((its.take k).map fun it => cnt s it.names).sum ≤ 42 ∧ ((its.take k).map (cntC s)).sum ≤ 42 := by
  obtain ⟨h1, h2⟩ := itemsB_true hb
  have hl : (its.take k).length ≤ 14 := by rw [List.length_take]; omega
  have hc : ∀ it ∈ its.take k, cnt s it.names ≤ 3 := fun it hi => Nat.le_trans (cnt_le s _) (itemB_true (h2 it (List.mem_of_mem_take hi))).2.2.1
  constructor
  · have := sum_le_mul ((its.take k).map fun it => cnt s it.names) 3 (by
      intro x hx
      obtain ⟨it, hi, rfl⟩ := List.mem_map.1 hx
      exact hc it hi)
    rw [List.length_map] at this
    omega
  · have := sum_le_mul ((its.take k).map (cntC s)) 3 (by
      intro x hx
      obtain ⟨it, hi, rfl⟩ := List.mem_map.1 hx
      unfold cntC
      split
      · exact hc it hi
      · omega)
    rw [List.length_map] at this
    omega
def tmV (its : List ItemD) (s : ByteArray) : Int := if itemsB its && nameB s then (times its s : Int) else 0
def tmC (its : List ItemD) (s : ByteArray) : Int := if itemsB its && nameB s then (timesC its s : Int) else 0
end Go.Proofs.YtkkdhmbkpebajaaDoor

/- Items: the text of an item, both sides. -/
namespace Go.Proofs.YtkkdhmbkpebajaaDoor
set_option linter.unusedVariables false
set_option linter.unusedSimpArgs false
set_option linter.unnecessarySimpa false
open Go.RowKit Go.Lib

def itT (it : ItemD) : ByteArray := tx (itTxt it)
def sgB (m : Nat) : ByteArray := tx (signL (m : Int))
theorem sgB_size (m : Nat) : (sgB m).size ≤ 1 := by
  unfold sgB
  rw [tx_size]
  unfold signL
  split
  · simp
  · split
    · simp
    · split <;> simp
theorem itW_length {it : ItemD} (h : it.marks.length = it.names.length) : (itW it).length = it.names.length := by
  unfold itW
  rw [List.length_map, List.length_zip]
  omega
theorem itW_get {it : ItemD} {k : Nat} {s : ByteArray} {m : Nat} (h1 : it.names[k]? = some s) (h2 : it.marks[k]? = some (m : Int)) : (itW it)[k]? = some (s.data.toList ++ signL (m : Int)) := by
  unfold itW
  rw [List.getElem?_map, (List.getElem?_zip_eq_some (z := (s, (m : Int)))).2 ⟨h1, h2⟩]
  rfl
/-- The text of the first k words. -/
def jW (it : ItemD) (k : Nat) : ByteArray := tx (join ((itW it).take k) [43])
theorem jW_zero (it : ItemD) : jW it 0 = ⟨#[]⟩ := rfl
theorem jW_one {it : ItemD} {s : ByteArray} {m : Nat} (h1 : it.names[0]? = some s) (h2 : it.marks[0]? = some (m : Int)) : jW it 1 = s ++ sgB m := by
  unfold jW
  rw [take_snoc (itW_get h1 h2), List.take_zero, List.nil_append, join_one, ← tx_app, tx_of]
  rfl
theorem jW_succ {it : ItemD} {k : Nat} {s : ByteArray} {m : Nat} (hk : 0 < k) (h1 : it.names[k]? = some s) (h2 : it.marks[k]? = some (m : Int)) : jW it (k + 1) = jW it k ++ ⟨#[43]⟩ ++ (s ++ sgB m) := by
  have hg := itW_get h1 h2
  have hne : (itW it).take k ≠ [] := by
    intro e
    have h0 := congrArg List.length e
    have hlt := (List.getElem?_eq_some_iff.1 hg).1
    rw [List.length_take, List.length_nil] at h0
    omega
  unfold jW
  rw [take_snoc hg, join_snoc _ _ _ hne]
  show tx (_ ++ [43] ++ _) = tx _ ++ tx [43] ++ (s ++ sgB m)
  rw [tx_app]
  rw [← tx_app]
  congr 1
theorem word_size {it : ItemD} (hb : itemB it = true) {k : Nat} {s : ByteArray} (h : it.names[k]? = some s) : s.size ≤ 5 := by
  have hn := (item_of hb).1 s (List.mem_of_getElem? h)
  unfold nameB at hn
  simp only [Bool.and_eq_true] at hn
  have := inB_true hn.2
  omega
theorem jW_size {it : ItemD} (hb : itemB it = true) : ∀ k, k ≤ it.names.length → (jW it k).size ≤ 7 * k
  | 0, _ => by rw [jW_zero]; exact Nat.le_refl 0
  | k + 1, hk => by
    obtain ⟨_, hm, hl, _, _⟩ := item_of hb
    have h1 : it.names[k]? = some it.names[k] := List.getElem?_eq_getElem (by omega)
    have h2 : it.marks[k]? = some it.marks[k] := List.getElem?_eq_getElem (by omega)
    have hmm := hm _ (List.mem_of_getElem? h2)
    obtain ⟨m, e⟩ : ∃ m : Nat, it.marks[k] = (m : Int) := by
      rcases sign_of hmm with e | e | e | e
      · exact ⟨0, e⟩
      · exact ⟨1, e⟩
      · exact ⟨2, e⟩
      · exact ⟨3, e⟩
    rw [e] at h2
    have ih := jW_size hb k (by omega)
    have hs := word_size hb h1
    have hg := sgB_size m
    rcases Nat.eq_zero_or_pos k with h0 | h0
    · subst h0
      rw [jW_one h1 h2, ByteArray.size_append]
      omega
    · rw [jW_succ h0 h1 h2, ByteArray.size_append, ByteArray.size_append, ByteArray.size_append]
      have e1 : (⟨#[43]⟩ : ByteArray).size = 1 := rfl
      omega
theorem itT_of {it : ItemD} (hb : itemB it = true) : itT it = if it.late then jW it it.names.length ++ ⟨#[32, 120]⟩ else jW it it.names.length := by
  have hl := (item_of hb).2.2.1
  have e : (itW it).take it.names.length = itW it := List.take_of_length_le (by rw [itW_length hl]; exact Nat.le_refl _)
  unfold itT itTxt jW lateL
  rw [e]
  cases it.late with
  | true =>
    show tx (_ ++ [32, 120]) = tx _ ++ tx [32, 120]
    rw [tx_app]
  | false =>
    show tx (_ ++ []) = _
    rw [List.append_nil]
    rfl
theorem itT_size {it : ItemD} (hb : itemB it = true) : (itT it).size ≤ 23 := by
  have h1 := jW_size hb it.names.length (Nat.le_refl _)
  have h2 := (item_of hb).2.2.2.2
  rw [itT_of hb]
  cases it.late with
  | true =>
    show (_ ++ _ : ByteArray).size ≤ 23
    rw [ByteArray.size_append]
    have e : (⟨#[32, 120]⟩ : ByteArray).size = 2 := rfl
    omega
  | false => show (jW it it.names.length).size ≤ 23; omega
theorem mark_nat {it : ItemD} (hb : itemB it = true) {k : Nat} {z : Int} (h : it.marks[k]? = some z) : ∃ m : Nat, z = (m : Int) ∧ m ≤ 3 := by
  have := sign_of ((item_of hb).2.1 z (List.mem_of_getElem? h))
  rcases this with rfl | rfl | rfl | rfl
  · exact ⟨0, rfl, by omega⟩
  · exact ⟨1, rfl, by omega⟩
  · exact ⟨2, rfl, by omega⟩
  · exact ⟨3, rfl, by omega⟩
def sgCells : Array Value := #[.string ⟨#[]⟩, .string ⟨#[60]⟩, .string ⟨#[101]⟩, .string ⟨#[42]⟩]
theorem sgCells_at {m : Nat} (h : m ≤ 3) : sgCells.toList[m]? = some (.string (sgB m)) := by
  have hm : m = 0 ∨ m = 1 ∨ m = 2 ∨ m = 3 := by omega
  rcases hm with rfl | rfl | rfl | rfl <;> rfl
theorem itSigns_any (w : World) :
    Calls Tryd.prog 60 #[] w fun e w' => e = .returned (.slice (some ⟨w.heap.size, 0, none⟩) 4 4) ∧ Box w' w.heap.size 9 sgCells ∧ Kept w w' := by
  go_enter Tryd.func60, Tryd.ntmps60
  go_wp2_with fail
  go_ret
  exact ⟨rfl, Box.new w _ _ _ rfl, (Kept.refl w).alloc _⟩
set_option maxRecDepth 100000 in
set_option maxHeartbeats 8000000 in
theorem itText_any (v : Value) (it : ItemD) (w : World) (h : ItemAt w v it) (hb : itemB it = true) :
    Calls Tryd.prog 32 #[v] w fun e w' => e = .returned (.string (itT it)) ∧ Kept w w' := by
  obtain ⟨nv, mv, rfl, q1, q2⟩ := h
  obtain ⟨A1, c1, rfl, hnc1, hcm1, _⟩ := q1.1.out
  obtain ⟨A2, c2, rfl, hnc2, hcm2, _⟩ := q2.out
  unfold maxLen at hcm1 hcm2
  have H1 := Lib.hid q1
  have H2 := Lib.hid q2
  have HB := Lib.hid hb
  obtain ⟨_, _, hml, hne, hn3⟩ := item_of hb
  have HML := Lib.hid hml
  have hn1 : 0 < it.names.length := by cases hq : it.names with | nil => exact absurd hq hne | cons _ _ => simp
  clear q1 q2 hb hml hne
  go_enter Tryd.func32, Tryd.ntmps32
  have B0 := Box.new w w.heap.size 34 #[.slice A1 it.names.length c1, .slice A2 it.marks.length c2, .bool it.late] rfl
  have K0 : Kept w (w.alloc (.cells #[.slice A1 it.names.length c1, .slice A2 it.marks.length c2, .bool it.late] 34)) := (Kept.refl w).alloc _
  go_wp2_with fail
  generalize w.alloc (.cells #[.slice A1 it.names.length c1, .slice A2 it.marks.length c2, .bool it.late] 34) = w0 at *
  go_loopw [3, 9] (fun s3 s9 wr => ∃ k : Nat, k ≤ it.names.length ∧ s9 = .int .i64 k ∧ s3 = .string (jW it k) ∧ Kept w0 wr) (fun _ i _ => it.names.length - (RowKit.intOf i).toNat)
  case atStart => exact ⟨0, Nat.zero_le _, rfl, by rw [jW_zero], Kept.refl _⟩
  case round =>
    obtain ⟨k, hk, rfl, rfl, hkept⟩ := hrel
    by_cases hlt : k < it.names.length
    · obtain ⟨b, o, s, rfl, hbb, hs, hc⟩ := strs_at (H1.out.1.addr.kept (K0.trans hkept)) hlt
      obtain ⟨b2, o2, z, rfl, hb2, hz, hc2⟩ := ints_at (H2.out.addr.kept (K0.trans hkept)) (k := k) (by rw [HML.out]; exact hlt)
      obtain ⟨m, rfl, hm3⟩ := mark_nat HB.out hz
      have hmk : (k : Int) < (it.marks.length : Int) := by rw [HML.out]; omega
      have hmk2 : k < it.marks.length := by rw [HML.out]; exact hlt
      have hm4 : (m : Int) < 4 := by omega
      have hs5 := word_size HB.out hs
      have hsg := sgB_size m
      have hj := jW_size HB.out k hk
      have hBk := B0.kept hkept
      obtain ⟨x0, y0⟩ := hBk.three
      have AW := Lib.hid (cat_run (x := s) (y := sgB m) rfl (by omega))
      have HS := Lib.hid hs
      have HZ := Lib.hid hz
      clear hs hz
      by_cases hk0 : k = 0
      · have hd : decide ((0 : Int) < (k : Int)) = false := by simp; omega
        have hd2 : decide (0 < k) = false := by simp; omega
        have AJ : Hid (Op.stringOp .add (jW it k) (s ++ sgB m) = pure (.string (jW it (k + 1)))) := Lib.hid (by
          subst hk0
          refine cat_run ?_ (by rw [ByteArray.size_append]; omega)
          rw [jW_one HS.out HZ.out, jW_zero]
          show tx [] ++ _ = _
          rw [← tx_of (s ++ sgB m), tx_app]
          rfl)
        clear hk0
        have aw := AW.out
        have aj := AJ.out
        go_wp2_with fail
        clear hd hd2
        go_region_with (go_at_call 60; (with_reducible refine (itSigns_any _).mono ?_); rintro e w1 ⟨rfl, b1, k1⟩; have kk := hkept.trans ((Kept.refl _).drew.trans k1); obtain ⟨x1, y1⟩ := (B0.kept kk).three; have hc3 := (((Kept.refl _).drew.trans k1).cell (p := ⟨b2, o2 + k, none⟩) hb2).trans hc2; have hc4 : w1.cell? ⟨wr.heap.size, m, none⟩ = some (.string (sgB m)) := b1.at_ (sgCells_at hm3); clear y1 b1)
        all_goals
          go_wp2_with fail
          go_roundw
          case rel => exact ⟨k + 1, by omega, by go_num, rfl, kk⟩
          case measure => simp [RowKit.intOf]; omega
      · have hd : (0 : Int) < (k : Int) := by omega
        have hd2 : 0 < k := by omega
        have AP := Lib.hid (cat_run (x := jW it k) (y := ⟨#[43]⟩) rfl (by have e : (⟨#[43]⟩ : ByteArray).size = 1 := rfl; omega))
        have AJ : Hid (Op.stringOp .add (jW it k ++ ⟨#[43]⟩) (s ++ sgB m) = pure (.string (jW it (k + 1)))) := Lib.hid (cat_run (jW_succ hd2 HS.out HZ.out).symm (by rw [ByteArray.size_append, ByteArray.size_append]; have e : (⟨#[43]⟩ : ByteArray).size = 1 := rfl; omega))
        clear hk0
        have ap := AP.out
        go_wp2_with fail
        clear ap
        have aw := AW.out
        have aj := AJ.out
        go_region_with (go_at_call 60; (with_reducible refine (itSigns_any _).mono ?_); rintro e w1 ⟨rfl, b1, k1⟩; have kk := hkept.trans ((Kept.refl _).drew.trans k1); obtain ⟨x1, y1⟩ := (B0.kept kk).three; have hc3 := (((Kept.refl _).drew.trans k1).cell (p := ⟨b2, o2 + k, none⟩) hb2).trans hc2; have hc4 : w1.cell? ⟨wr.heap.size, m, none⟩ = some (.string (sgB m)) := b1.at_ (sgCells_at hm3); clear y1 b1)
        all_goals
          go_wp2_with fail
          go_roundw
          case rel => exact ⟨k + 1, by omega, by go_num, rfl, kk⟩
          case measure => simp [RowKit.intOf]; omega
    · obtain rfl : k = it.names.length := by omega
      have hBk := B0.kept hkept
      obtain ⟨x0, y0⟩ := hBk.three
      have HT := Lib.hid (itT_of HB.out)
      have hj := jW_size HB.out it.names.length (Nat.le_refl _)
      have AL := Lib.hid (cat_run (x := jW it it.names.length) (y := ⟨#[32, 120]⟩) rfl (by have e : (⟨#[32, 120]⟩ : ByteArray).size = 2 := rfl; omega))
      have al := AL.out
      cases hla : it.late with
      | true =>
        rw [hla] at x0
        have HLA := Lib.hid hla
        clear hla
        go_wp2_with fail
        go_ret
        exact ⟨ret_str (by rw [HT.out, HLA.out]; rfl), K0.trans hkept⟩
      | false =>
        rw [hla] at x0
        have HLA := Lib.hid hla
        clear hla
        go_wp2_with fail
        go_ret
        exact ⟨ret_str (by rw [HT.out, HLA.out]; rfl), K0.trans hkept⟩
end Go.Proofs.YtkkdhmbkpebajaaDoor

/- The rows' step for statements that list package-level variables: the wrap with the listed variables and the world's shape; what the listed variables give a walk. -/
namespace Go.Proofs.YtkkdhmbkpebajaaDoor
set_option linter.unusedVariables false
set_option linter.unusedSimpArgs false
set_option linter.unnecessarySimpa false
open Go.ChangeShapes Go.WideShapes Go.ChangeAt Go.RowKit

theorem returns_lot {H : Type} {enc : TypeId × Value → H} {a : Assume} {C : Checked} {os : Os} {f : FuncId} {fn : Func} {s : ChangeSpec} {conds : List PathCond} {apart fresh handsOn again : Bool} {X : World → Array Value → Prop}
    (hX : ∀ (w w' : World) (args : Array Value), w.heap = w'.heap → X w args → X w' args)
    (own : ownKnob C.prog.godebug = none) (started : os.Started) (noInit : C.prog.inits.idxOf? f = none) (hfn : C.prog.funcs[f]? = some fn)
    (witness : ∃ (w : World) (tape : Tape) (i : Input), w.os = os ∧ (w.forCall tape i).Shaped C.prog ∧ i.vars = [] ∧ Input.okWide C.prog (w.forCall tape i) .any w.heap.size f i ∧
      ((s.pre enc C.prog fn conds apart (w.forCall tape i).memory i.args ∧ X (w.forCall tape i).memory i.args) ∧ sizedMet enc C.prog fn (OpenSpec.ofChange s) apart (w.forCall tape i).memory i.args) ∧ a.holds C.prog (lone (Frame.enter C.prog f i.args .normal) [] (w.forCall tape i)))
    (contract : ∀ (W : World) (base : Nat) (args : Array Value) (ds gs : List (DataW H)) (before : List MemPlace),
      (∀ (j : Nat) t v, fn.params[j]? = some t → args[j]? = some v → Value.okWide C.prog W .any base t v) →
      DataW.Whole enc C.prog fn.params.toList s.vars apart W args.toList ds gs before →
      X W args → W.ShapedOpen C.prog →
      Calls C.prog f args W fun e W' => ∃ v, e = .returned v ∧ s.post enc C.prog fn apart fresh handsOn again W args v W') :
    ReturnsInHanded a C os f .any (fun w args => (s.pre enc C.prog fn conds apart w args ∧ X w args) ∧ sizedMet enc C.prog fn (OpenSpec.ofChange s) apart w args) (s.post enc C.prog fn apart fresh handsOn again) := by
  refine returnsInHanded_of_calls own started noInit witness ?_
  intro w tape i _ hsh _ hok hpre hholds
  obtain ⟨_, _, _, fn', hfn', _, _, _, _, hval⟩ := hok
  have e : fn' = fn := Option.some.inj (hfn'.symm.trans hfn)
  subst e
  obtain ⟨⟨⟨ds, gs, before, hw, hc⟩, hx⟩, hz⟩ := hpre
  have hw' := DataW.Whole.of_heap (w' := w.forCall tape i) (by rfl) hw
  refine (contract (w.forCall tape i) w.heap.size i.args ds gs before hval hw' (hX _ _ _ (by rfl) hx) hsh).mono fun e W' ⟨v, he, hp⟩ => ?_
  subst he
  exact ChangeSpec.post_blind hp
def HasMax (w : World) : Prop := ∃ m, w.cell? ⟨1, 0, none⟩ = some (.int .i64 m)
theorem cell_lt {w : World} {g o : Nat} {v : Value} (h : w.cell? ⟨g, o, none⟩ = some v) : g < w.heap.size := by
  unfold World.cell? at h
  cases hh : w.heap[g]? with
  | none => simp [hh] at h
  | some o => exact (Array.getElem?_eq_some_iff.1 hh).1
theorem HasMax.kept {w w' : World} (h : HasMax w) (k : Kept w w') : HasMax w' := by
  obtain ⟨m, hm⟩ := h
  exact ⟨m, (k.cell (p := ⟨1, 0, none⟩) (cell_lt hm)).trans hm⟩
theorem max_of {W : World} (h : W.ShapedOpen Tryd.prog) : HasMax W :=
  Go.Proofs.cell_of_shapedOpen_int (zero := #[.int .i64 0]) (t := 3) h (of_decide_eq_true (by kernel_rfl)) (by kernel_rfl) rfl (by kernel_rfl) (by kernel_rfl) Tryd.underlying3
end Go.Proofs.YtkkdhmbkpebajaaDoor

/- The marks' signs: what the listed variable gives a walk. -/
namespace Go.Proofs.YtkkdhmbkpebajaaDoor
set_option linter.unusedVariables false
set_option linter.unusedSimpArgs false
set_option linter.unnecessarySimpa false
open Go.ChangeShapes Go.WideShapes Go.ChangeAt Go.RowKit Go.Lib

/-- the marks' signs read as their initialiser lays them -/
def HasSigns (w : World) : Prop := ∀ m, m ≤ 3 → w.cell? ⟨0, m, none⟩ = some (.string (sgB m))
theorem HasSigns.kept {w w' : World} (h : HasSigns w) (k : Kept w w') : HasSigns w' := fun m hm =>
  (k.cell (p := ⟨0, m, none⟩) (cell_lt (h m hm))).trans (h m hm)
theorem signs_head {W : World} {rest : List (String × DataW Unit)} (h : laidMet Tryd.prog (("loop.example/g00912/impl.markSigns", Rows.laid_loop_example_g00912_impl_markSigns) :: rest) W) : HasSigns W := by
  intro r hr
  obtain ⟨ps, ⟨g, t, cs, fuel, p, q, hg, ht, hv, hd, _, _⟩, _, _⟩ := h
  obtain rfl := Option.some.inj ((show Tryd.prog.globalNamed "loop.example/g00912/impl.markSigns" = some 0 by kernel_rfl).symm.trans hg)
  obtain rfl := Option.some.inj ((show (Tryd.prog.globals[0]?).map (·.type) = some 70 by kernel_rfl).symm.trans ht)
  obtain ⟨xs, m, _, ex, _, hl, hel⟩ := DataW.trod_array Tryd.underlying70 hd
  have c5 : Tryd.prog.cellsOf 9 = 1 := by kernel_rfl
  have hE := hel r (by omega)
  rw [c5, Nat.mul_one, List.getElem?_eq_getElem (by omega)] at hE
  obtain ⟨z, e1, e2, _⟩ := DataW.trod_string Tryd.underlying9 hE
  have e3 : (xs.map (·.1)) = [.lit (.string []), .lit (.string [60]), .lit (.string [101]), .lit (.string [42])] := (DataW.agg.inj (Prod.mk.inj ex).1).symm
  have e4 : (xs.map (·.1))[r]? = some (.lit (.string (signL (r : Int)))) := by
    rw [e3]
    have hm : r = 0 ∨ r = 1 ∨ r = 2 ∨ r = 3 := by omega
    rcases hm with rfl | rfl | rfl | rfl <;> rfl
  rw [List.getElem?_map, List.getElem?_eq_getElem (by omega : r < xs.length), e2] at e4
  simp only [Option.map_some, Option.some.injEq, DataW.lit.injEq, Lit.string.injEq] at e4
  have hz : z = sgB r := by unfold sgB; rw [← e4, tx_of]
  rw [World.var?_cell hg hv r, ← hz]
  have : cs.toList[r]? = some (.string z) := by
    have h0 : ((cs.toList.drop r).take 1)[0]? = some (.string z) := by rw [e1]; rfl
    simpa using h0
  simpa using this
theorem signs_of0 {W : World} (h : laidMet Tryd.prog [("loop.example/g00912/impl.markSigns", Rows.laid_loop_example_g00912_impl_markSigns)] W) : HasSigns W := signs_head h
theorem signs_of1 {W : World} {x y : String × DataW Unit} (h : laidMet Tryd.prog [x, ("loop.example/g00912/impl.markSigns", Rows.laid_loop_example_g00912_impl_markSigns), y] W) : HasSigns W := signs_head h.tail
end Go.Proofs.YtkkdhmbkpebajaaDoor

/- Items: the text of an item, the program's side. -/
namespace Go.Proofs.YtkkdhmbkpebajaaDoor
set_option linter.unusedVariables false
set_option linter.unusedSimpArgs false
set_option linter.unnecessarySimpa false
open Go.RowKit Go.Lib

def wB (it : ItemD) : List ByteArray := (itW it).map tx
theorem wB_len {it : ItemD} (hl : it.marks.length = it.names.length) : (wB it).length = it.names.length := by
  unfold wB
  rw [List.length_map, itW_length hl]
theorem wB_snoc {it : ItemD} {k : Nat} {s : ByteArray} {m : Nat} (h1 : it.names[k]? = some s) (h2 : it.marks[k]? = some (m : Int)) : (wB it).take (k + 1) = (wB it).take k ++ [s ++ sgB m] := by
  have e : (wB it)[k]? = some (s ++ sgB m) := by
    unfold wB
    rw [List.getElem?_map, itW_get h1 h2]
    show some (tx (_ ++ _)) = _
    rw [← tx_app, tx_of]
    rfl
  exact take_snoc e
theorem wB_join (it : ItemD) : Lib.join ((wB it).map (·.data.toList)) [43] = join (itW it) [43] := by
  unfold wB
  rw [List.map_map]
  have e : ((fun x : ByteArray => x.data.toList) ∘ tx) = id := by funext l; rfl
  rw [e, List.map_id]
end Go.Proofs.YtkkdhmbkpebajaaDoor

/- The marks that the laws write: strings. -/
namespace Go.Proofs.YtkkdhmbkpebajaaDoor
set_option linter.unusedVariables false
set_option linter.unusedSimpArgs false
open Go.RowKit

/-! ### items marked -/
def nextK (k : Int) (it : ItemD) : Int := k + it.names.length + it.marks.length + 1
def markIt (k : Int) (it : ItemD) : ItemD := ⟨marksS k it.names.length, marksI (k + it.names.length) it.marks.length, ((k + it.names.length + it.marks.length) % 3 == 0)⟩
def ml : Int → List ItemD → List ItemD
  | _, [] => []
  | k, it :: l => markIt k it :: ml (nextK k it) l
def nk : Int → List ItemD → Int
  | k, [] => k
  | k, it :: l => nk (nextK k it) l
theorem ml_length (k : Int) (l : List ItemD) : (ml k l).length = l.length := by
  induction l generalizing k with
  | nil => rfl
  | cons it l ih => simp [ml, ih]
theorem ml_snoc (k : Int) (l : List ItemD) (it : ItemD) : ml k (l ++ [it]) = ml k l ++ [markIt (nk k l) it] := by
  induction l generalizing k with
  | nil => rfl
  | cons x l ih => simp [ml, nk, ih]
theorem nk_snoc (k : Int) (l : List ItemD) (it : ItemD) : nk k (l ++ [it]) = nextK (nk k l) it := by
  induction l generalizing k with
  | nil => rfl
  | cons x l ih => simp [nk, ih]
theorem nk_bd (k : Int) (l : List ItemD) : k ≤ nk k l ∧ nk k l ≤ k + itemsSize l := by
  induction l generalizing k with
  | nil => simp [nk, itemsSize]
  | cons it l ih =>
    have h := ih (nextK k it)
    have hp : it.names.length + it.marks.length ≤ it.size := by unfold ItemD.size strsSize; omega
    unfold nextK at h
    rw [nk]
    unfold nextK
    unfold itemsSize at *
    simp only [List.length_cons, List.map_cons, List.sum_cons]
    omega
theorem itemsSize_take (l : List ItemD) (k : Nat) : itemsSize (l.take k) ≤ itemsSize l := by
  unfold itemsSize
  have := sum_take _ ItemD.size l k
  have := List.length_take_le k l
  have : (l.take k).length ≤ l.length := by rw [List.length_take]; omega
  omega
/-- the list of items with the slices' values in hand -/
def OwnC (w : World) (base : Nat) (v : Value) (its : List ItemD) (cs : List (Value × Value)) : Prop :=
  cs.length = its.length ∧ w.ownsRow base 34 3 v its.length ((cs.zip its).flatMap row3) ∧
    (∀ (k : Nat) (nv mv : Value) (it : ItemD), cs[k]? = some (nv, mv) → its[k]? = some it → OwnS w base nv it.names ∧ OwnI w base mv it.marks) ∧ (fp v ++ fpL cs).Nodup
theorem fpL_other {cs : List (Value × Value)} (h : (fpL cs).Nodup) {i j : Nat} {p q : Value × Value} (hi : cs[i]? = some p) (hj : cs[j]? = some q) (hne : i ≠ j) {b : Nat} (hb : b ∈ fp p.1 ++ fp p.2) : b ∉ fp q.1 ++ fp q.2 := by
  have hp := (List.pairwise_flatMap.1 h).2
  rw [List.pairwise_iff_getElem] at hp
  obtain ⟨hil, rfl⟩ := List.getElem?_eq_some_iff.1 hi
  obtain ⟨hjl, rfl⟩ := List.getElem?_eq_some_iff.1 hj
  intro hb2
  rcases Nat.lt_or_gt_of_ne hne with hlt | hgt
  · exact hp i j hil hjl hlt b hb b hb2 rfl
  · exact hp j i hjl hil hgt b hb2 b hb rfl
theorem fpL_inner {cs : List (Value × Value)} (h : (fpL cs).Nodup) {i : Nat} {p : Value × Value} (hi : cs[i]? = some p) : (fp p.1 ++ fp p.2).Nodup := by
  exact (List.pairwise_flatMap.1 h).1 p (List.mem_of_getElem? hi)
theorem flat_row3 (cs : List (Value × Value)) (its : List ItemD) : (cs.zip its).flatMap row3 = (cs.zip (its.map ItemD.late)).flatMap fun p => [p.1.1, p.1.2, .bool p.2] := by
  rw [List.zip_map_right, List.flatMap_map]
  rfl
theorem set_same {α : Type} {l : List α} {k : Nat} {x : α} (h : l[k]? = some x) : l.set k x = l := by
  obtain ⟨hk, rfl⟩ := List.getElem?_eq_some_iff.1 h
  exact List.set_getElem_self hk
theorem OwnC.setItem {w w' : World} {base : Nat} {v : Value} {its : List ItemD} {cs : List (Value × Value)} {j : Nat} {it it' : ItemD} {nv mv : Value} {T : List Nat}
    (h : OwnC w base v its cs) (hi : its[j]? = some it) (hc : cs[j]? = some (nv, mv)) (ho : Only T w w') (hT : ∀ b ∈ T, b ∈ fp nv ++ fp mv) (hl : it'.late = it.late) (hn : OwnS w' base nv it'.names) (hm : OwnI w' base mv it'.marks) :
    OwnC w' base v (its.set j it') cs := by
  obtain ⟨h1, h2, h3, h4⟩ := h
  have hnd := (List.nodup_append.1 h4)
  refine ⟨by simpa using h1, ?_, ?_, h4⟩
  · have hz : (cs.zip (its.set j it')).flatMap row3 = (cs.zip its).flatMap row3 := by
      rw [flat_row3, flat_row3, List.map_set, hl, set_same (by rw [List.getElem?_map, hi]; rfl)]
    rw [hz, List.length_set]
    refine own_only h2 ho (fun b hb hbT => ?_)
    exact hnd.2.2 b hb b (mem_fpL hc (List.mem_append.1 (hT b hbT))) rfl
  · intro k nv' mv' x q1 q2
    by_cases hk : k = j
    · subst hk
      rw [hc] at q1
      simp at q1
      obtain ⟨rfl, rfl⟩ := q1
      have hlt : k < its.length := (List.getElem?_eq_some_iff.1 hi).1
      rw [List.getElem?_set_self hlt] at q2
      simp at q2
      subst q2
      exact ⟨hn, hm⟩
    · rw [List.getElem?_set_ne (Ne.symm hk)] at q2
      obtain ⟨r1, r2⟩ := h3 k nv' mv' x q1 q2
      have hd := fun b hb => fpL_other hnd.2.1 q1 hc hk (b := b) hb
      exact ⟨r1.only ho (fun b hb hbT => hd b (List.mem_append_left _ hb) (hT b hbT)), r2.only ho (fun b hb hbT => hd b (List.mem_append_right _ hb) (hT b hbT))⟩
end Go.Proofs.YtkkdhmbkpebajaaDoor
