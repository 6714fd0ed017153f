/- Contracts of functions that the proof leans on. No condition. -/
import Derived.Test.YtkekpolfdmmgeaaGreatProg
import Derived.WalkKit
import Derived.WalkLawsBesides
import Derived.WalkSpells
import Derived.LoopTactic
import Derived.RegionTactic
import Derived.Deep.QuietTactic
import Derived.BigQuiet
import Derived.Handy
import Derived.Outline
import Derived.Below
import Derived.Lib.Hide
import Derived.Deep.Draws
import Derived.Deep.LoopGhost
import Derived.OwnWalk
import Derived.Deep.AppendLies
import Derived.Maps.AppendAt
import Derived.Laws.AppendOwnNone
import Derived.StillTailTactics
import Derived.Deep.RegionHeld3
/- What a call keeps; ranges of numbers. -/
namespace Go.Proofs.YtkekpolfdmmgeaaGreat
set_option linter.unusedVariables false
set_option linter.unusedSimpArgs false
open Go.RowKit

/-! ### what is kept -/
def Kept (w w' : World) : Prop := Below w.heap.size w w'
theorem Kept.refl (w : World) : Kept w w := Below.refl _ _
theorem Kept.trans {a b c : World} (h : Kept a b) (k : Kept b c) : Kept a c := Below.trans h (Below.mono k h.size)
theorem Kept.drew {a b : World} (h : Kept a b) : Kept a b.drew := Below.drew h
theorem Kept.drewN {a b : World} (h : Kept a b) (n : Nat) : Kept a (b.drewN n) := ⟨h.os, h.tape, h.output, h.size, h.block⟩
theorem Kept.alloc {a b : World} (h : Kept a b) (o : Obj) : Kept a (b.alloc o) := Below.alloc h h.size o
theorem Kept.setCell {a b : World} (h : Kept a b) {p : Addr} (hp : a.heap.size ≤ p.block) (u : Value) : Kept a (b.setCell p u) := Below.setCell h hp u
theorem Kept.cell {a b : World} (h : Kept a b) {p : Addr} (hp : p.block < a.heap.size) : b.cell? p = a.cell? p := Below.cell h hp
theorem kept_of {a b : World} (h : a = b) : Kept a b := h ▸ Kept.refl a
theorem ret_int {k : IntKind} {a b : Int} (h : a = b) : Ending.returned (.int k a) = .returned (.int k b) := by rw [h]

/-! ### plain functions -/
def inB (n lo hi : Int) : Bool := decide (lo ≤ n) && decide (n ≤ hi)
theorem inB_true {n lo hi : Int} (h : inB n lo hi = true) : lo ≤ n ∧ n ≤ hi := by simpa [inB] using h
theorem inB_of {n lo hi : Int} (h1 : lo ≤ n) (h2 : n ≤ hi) : inB n lo hi = true := by simp [inB, h1, h2]
theorem ret_bool {a b : Bool} (h : a = b) : Ending.returned (.bool a) = .returned (.bool b) := by rw [h]

/-! ### walks -/
theorem l1In_any (n lo hi : Int) (w : World) :
    Calls Tryz.prog 32 #[.int .i64 n, .int .i64 lo, .int .i64 hi] w fun e w' => e = .returned (.bool (inB n lo hi)) ∧ w = w' := by
  go_enter Tryz.func32, Tryz.ntmps32
  go_wp2
  all_goals
    go_ret
    refine ⟨?_, rfl⟩
    simp [inB]
    try omega
theorem within_any (n lo hi : Int) (w : World) :
    Calls Tryz.prog 27 #[.int .i64 n, .int .i64 lo, .int .i64 hi] w fun e w' => e = .returned (.bool (inB n lo hi)) ∧ w = w' := by
  go_enter Tryz.func27, Tryz.ntmps27
  go_wp2
  all_goals
    go_ret
    refine ⟨?_, rfl⟩
    simp [inB]
    try omega
end Go.Proofs.YtkekpolfdmmgeaaGreat

/- Words for memory: slices that read as lists, rows that the call owns. -/
namespace Go.Proofs.YtkekpolfdmmgeaaGreat
set_option linter.unusedVariables false
set_option linter.unusedSimpArgs false
open Go.RowKit

/-- 'v' is a slice of n elements whose cells read as xs -/
def Seq (w : World) (v : Value) (n : Nat) (xs : List Value) : Prop :=
  ∃ A c, v = .slice A n c ∧ n ≤ c ∧ c ≤ maxLen ∧ (A = none → c = 0) ∧ (0 < n → ∃ b o, A = some ⟨b, o, none⟩ ∧ b < w.heap.size ∧ ∀ j u, xs[j]? = some u → w.cell? ⟨b, o + j, none⟩ = some u)
/-- what the words above give, the slice written out -/
def SeqA (w : World) (A : Option Addr) (n : Nat) (xs : List Value) : Prop :=
  0 < n → ∃ b o, A = some ⟨b, o, none⟩ ∧ b < w.heap.size ∧ ∀ j u, xs[j]? = some u → w.cell? ⟨b, o + j, none⟩ = some u
theorem Seq.out {w : World} {v : Value} {n : Nat} {xs : List Value} (h : Seq w v n xs) : ∃ A c, v = .slice A n c ∧ n ≤ c ∧ c ≤ maxLen ∧ SeqA w A n xs := by
  obtain ⟨A, c, e, h1, h2, _, h3⟩ := h
  exact ⟨A, c, e, h1, h2, h3⟩
theorem SeqA.kept {w w' : World} {A : Option Addr} {n : Nat} {xs : List Value} (h : SeqA w A n xs) (hk : Kept w w') : SeqA w' A n xs := by
  intro hn
  obtain ⟨b, o, e, hb, hc⟩ := h hn
  exact ⟨b, o, e, Nat.lt_of_lt_of_le hb hk.size, fun j u hu => (hk.cell (p := ⟨b, o + j, none⟩) hb).trans (hc j u hu)⟩
theorem Seq.kept {w w' : World} {v : Value} {n : Nat} {xs : List Value} (h : Seq w v n xs) (hk : Kept w w') : Seq w' v n xs := by
  obtain ⟨A, c, e, h1, h2, h0, h3⟩ := h
  exact ⟨A, c, e, h1, h2, h0, SeqA.kept h3 hk⟩
theorem Seq.addr {w : World} {A : Option Addr} {n c : Nat} {xs : List Value} (h : Seq w (.slice A n c) n xs) : SeqA w A n xs := by
  obtain ⟨A', c', e, _, _, _, h3⟩ := h
  injection e with e1
  subst e1
  exact h3
theorem Seq.nil (w : World) : Seq w (.slice none 0 0) 0 [] := ⟨none, 0, rfl, Nat.le_refl _, Nat.zero_le _, fun _ => rfl, fun h => absurd h (by omega)⟩
theorem Seq.of_own {w : World} {base : Nat} {e : TypeId} {size : Nat} {v : Value} {n : Nat} {xs : List Value} (h : w.ownsRow base e size v n xs) : Seq w v n xs := by
  rcases h.2 with ⟨rfl, rfl⟩ | ⟨g, cap, cur, rfl, hb, hg, hnc, hcm, hcs, htake⟩
  · exact ⟨none, 0, rfl, Nat.le_refl _, Nat.zero_le _, fun _ => rfl, fun h => absurd h (by omega)⟩
  · refine ⟨_, cap, rfl, hnc, hcm, (fun h => by cases h), fun _ => ⟨g, 0, rfl, (Array.getElem?_eq_some_iff.1 hg).1, fun j u hu => ?_⟩⟩
    have hj : j < n * size := by
      have := (List.getElem?_eq_some_iff.1 hu).1
      rw [h.1] at this
      exact this
    rw [Nat.zero_add, h.cellAt j hj]
    exact hu
theorem SeqA.at_ {w : World} {A : Option Addr} {n : Nat} {xs : List Value} {j : Nat} {u : Value} (h : SeqA w A n xs) (hn : 0 < n) (hu : xs[j]? = some u) :
    ∃ b o, A = some ⟨b, o, none⟩ ∧ b < w.heap.size ∧ w.cell? ⟨b, o + j, none⟩ = some u := by
  obtain ⟨b, o, e, hb, hc⟩ := h hn
  exact ⟨b, o, e, hb, hc j u hu⟩

def Ints (w : World) (v : Value) (zs : List Int) : Prop := Seq w v zs.length (zs.map (Value.int .i64))
def OwnI (w : World) (base : Nat) (v : Value) (zs : List Int) : Prop := w.ownsRow base 3 1 v zs.length (zs.map (Value.int .i64))
theorem Ints.kept {w w' : World} {v : Value} {zs : List Int} (h : Ints w v zs) (hk : Kept w w') : Ints w' v zs := Seq.kept h hk
theorem OwnI.ints {w : World} {base : Nat} {v : Value} {zs : List Int} (h : OwnI w base v zs) : Ints w v zs := Seq.of_own h
theorem ints_at {w : World} {A : Option Addr} {zs : List Int} (h : SeqA w A zs.length (zs.map (Value.int .i64))) {k : Nat} (hk : k < zs.length) :
    ∃ b o z, A = some ⟨b, o, none⟩ ∧ b < w.heap.size ∧ zs[k]? = some z ∧ w.cell? ⟨b, o + k, none⟩ = some (.int .i64 z) := by
  have hz : zs[k]? = some zs[k] := List.getElem?_eq_getElem hk
  obtain ⟨b, o, e, hb, hc⟩ := h.at_ (j := k) (u := .int .i64 zs[k]) (by omega) (by rw [List.getElem?_map, hz]; rfl)
  exact ⟨b, o, _, e, hb, hz, hc⟩

theorem take_snoc {α : Type} {l : List α} {k : Nat} {x : α} (h : l[k]? = some x) : l.take (k + 1) = l.take k ++ [x] := by
  rw [List.take_add_one, h]; rfl
theorem all_snoc {α : Type} {l : List α} {k : Nat} {x : α} {p : α → Bool} (h : l[k]? = some x) (ha : (l.take k).all p = true) (hx : p x = true) : (l.take (k + 1)).all p = true := by
  rw [take_snoc h, List.all_append, ha]; simp [hx]
theorem all_not {α : Type} {l : List α} {k : Nat} {x : α} {p : α → Bool} (h : l[k]? = some x) (hx : p x = false) : l.all p = false := by
  rw [List.all_eq_false]
  obtain ⟨hk, e⟩ := List.getElem?_eq_some_iff.1 h
  exact ⟨x, by rw [← e]; exact List.getElem_mem hk, by simp [hx]⟩
theorem all_full {α : Type} {l : List α} {k : Nat} {p : α → Bool} (hk : l.length ≤ k) (ha : (l.take k).all p = true) : l.all p = true := by
  rwa [List.take_of_length_le hk] at ha

theorem info_int : (Tryz.prog.info? 3).map (fun i => (i.zero, i.size, i.bytes)) = some (some (.int .i64 0), 1, 8) := by kernel_rfl

theorem own_at {w : World} {base : Nat} {e : TypeId} {size n cap g : Nat} {xs : List Value} (h : w.ownsRow base e size (.slice (some ⟨g, 0, none⟩) n cap) n xs) {j : Nat} (hj : j < n * size) :
    ∃ u, xs[j]? = some u ∧ w.cell? ⟨g, j, none⟩ = some u ∧ w.frozen? ⟨g, j, none⟩ = false := by
  have hx : xs[j]? = some (xs[j]'(by rw [h.1]; exact hj)) := List.getElem?_eq_getElem _
  exact ⟨_, hx, (h.cellAt j hj).trans hx, h.frozenAt j⟩
theorem set_take {α : Type} {xs ys : List α} {k : Nat} {u : α} (hk : k < xs.length) (ht : xs.take k = ys.take k) (hu : ys[k]? = some u) : (xs.set k u).take (k + 1) = ys.take (k + 1) := by
  rw [take_snoc hu, ← ht, take_snoc (x := u) (by rw [List.getElem?_set_self hk])]
  congr 1
  rw [List.take_set_of_le (Nat.le_refl k)]
theorem take_full {α : Type} {xs ys : List α} {n : Nat} (h1 : xs.length = n) (h2 : ys.length = n) (ht : xs.take n = ys.take n) : xs = ys := by
  rwa [List.take_of_length_le (by omega), List.take_of_length_le (by omega)] at ht

theorem l1All_any (v : Value) (zs : List Int) (lo hi : Int) (w : World) (h : Ints w v zs) :
    Calls Tryz.prog 66 #[v, .int .i64 lo, .int .i64 hi] w fun e w' => e = .returned (.bool (zs.all (inB · lo hi))) ∧ w = w' := by
  obtain ⟨A, c, rfl, hnc, hcm, hl⟩ := h.out
  unfold maxLen at hcm
  have HL := Lib.hid hl
  clear hl h
  go_enter Tryz.func66, Tryz.ntmps66
  go_wp2
  go_loop [11] (fun i => ∃ k : Nat, k ≤ zs.length ∧ i = .int .i64 k ∧ (zs.take k).all (inB · lo hi) = true) (fun i => zs.length - (intOf i).toNat)
  case atStart => exact ⟨0, Nat.zero_le _, rfl, rfl⟩
  case round =>
    obtain ⟨k, hk, rfl, ha⟩ := hrel
    have HA := Lib.hid ha
    clear ha
    by_cases hlt : k < zs.length
    · obtain ⟨b, o, z, rfl, hb, hz, hc⟩ := ints_at HL.out hlt
      have HZ := Lib.hid hz
      clear hz
      go_wp2_with (go_at_call 32; refine (l1In_any _ _ _ _).mono ?_; rintro e w' ⟨rfl, rfl⟩)
      · have hx : (!inB z lo hi) = true := by assumption
        go_ret
        exact ⟨ret_bool (all_not (p := (inB · lo hi)) HZ.out (by simpa using hx)).symm, rfl⟩
      · have hx : (!inB z lo hi) = false := by assumption
        go_round
        case rel => exact ⟨k + 1, by omega, by go_num, all_snoc HZ.out HA.out (by simpa using hx)⟩
        case measure => simp [intOf]; omega
    · go_wp2
      go_ret
      exact ⟨ret_bool (all_full (by omega) HA.out).symm, rfl⟩
theorem allWithin_any (v : Value) (zs : List Int) (lo hi : Int) (w : World) (h : Ints w v zs) :
    Calls Tryz.prog 60 #[v, .int .i64 lo, .int .i64 hi] w fun e w' => e = .returned (.bool (zs.all (inB · lo hi))) ∧ w = w' := by
  obtain ⟨A, c, rfl, hnc, hcm, hl⟩ := h.out
  unfold maxLen at hcm
  have HL := Lib.hid hl
  clear hl h
  go_enter Tryz.func60, Tryz.ntmps60
  go_wp2
  go_loop [11] (fun i => ∃ k : Nat, k ≤ zs.length ∧ i = .int .i64 k ∧ (zs.take k).all (inB · lo hi) = true) (fun i => zs.length - (intOf i).toNat)
  case atStart => exact ⟨0, Nat.zero_le _, rfl, rfl⟩
  case round =>
    obtain ⟨k, hk, rfl, ha⟩ := hrel
    have HA := Lib.hid ha
    clear ha
    by_cases hlt : k < zs.length
    · obtain ⟨b, o, z, rfl, hb, hz, hc⟩ := ints_at HL.out hlt
      have HZ := Lib.hid hz
      clear hz
      go_wp2_with (go_at_call 27; refine (within_any _ _ _ _).mono ?_; rintro e w' ⟨rfl, rfl⟩)
      · have hx : (!inB z lo hi) = true := by assumption
        go_ret
        exact ⟨ret_bool (all_not (p := (inB · lo hi)) HZ.out (by simpa using hx)).symm, rfl⟩
      · have hx : (!inB z lo hi) = false := by assumption
        go_round
        case rel => exact ⟨k + 1, by omega, by go_num, all_snoc HZ.out HA.out (by simpa using hx)⟩
        case measure => simp [intOf]; omega
    · go_wp2
      go_ret
      exact ⟨ret_bool (all_full (by omega) HA.out).symm, rfl⟩
end Go.Proofs.YtkekpolfdmmgeaaGreat

/- Names: contracts of the functions that look at a string's bytes. -/
namespace Go.Proofs.YtkekpolfdmmgeaaGreat
set_option linter.unusedVariables false
set_option linter.unusedSimpArgs false
open Go.RowKit

theorem str_ext {a b : ByteArray} (h : a.toList = b.toList) : a = b := by
  rw [ByteArray.toList_eq, ByteArray.toList_eq] at h
  obtain ⟨a⟩ := a
  obtain ⟨b⟩ := b
  congr 1
  exact Array.ext' h
def nmB (c : UInt8) : Bool := (decide (65 ≤ c.toNat) && decide (c.toNat ≤ 90)) || (decide (48 ≤ c.toNat) && decide (c.toNat ≤ 57))
def nameB (s : ByteArray) : Bool := s.data.toList.all nmB && inB s.size 1 5
theorem byte_get (s : ByteArray) (k : Nat) (h : k < s.size) : s.data.toList[k]? = some s[k] := by
  rw [List.getElem?_eq_getElem (by simpa using h)]
  rfl
theorem byte_cases (c : Nat) : c < 48 ∨ (48 ≤ c ∧ c ≤ 57) ∨ (57 < c ∧ c < 65) ∨ (65 ≤ c ∧ c ≤ 90) ∨ 90 < c := by omega

set_option maxHeartbeats 1000000 in
theorem isElementName_any (s : ByteArray) (w : World) (hs : s.size ≤ maxLen) :
    Calls Tryz.prog 67 #[.string s] w fun e w' => e = .returned (.bool (nameB s)) ∧ w = w' := by
  unfold maxLen at hs
  go_enter Tryz.func67, Tryz.ntmps67
  go_wp2
  go_loop [3] (fun i => ∃ k : Nat, k ≤ s.size ∧ i = .int .i64 k ∧ (s.data.toList.take k).all nmB = true) (fun i => s.size - (intOf i).toNat)
  case atStart => exact ⟨0, Nat.zero_le _, rfl, rfl⟩
  case round =>
    obtain ⟨k, hk, rfl, ha⟩ := hrel
    have HA := Lib.hid ha
    clear ha
    by_cases hlt : k < s.size
    · have HZ := Lib.hid (byte_get s k hlt)
      have hlt' : (k : Int) < (s.size : Int) := by omega
      rcases byte_cases s[k].toNat with hc | hc | hc | hc | hc
      all_goals
        go_wp2
        first
          | (go_ret
             exact ⟨ret_bool (by unfold nameB; rw [all_not HZ.out (by unfold nmB; simp; omega)]; rfl), rfl⟩)
          | (go_round
             case rel => exact ⟨k + 1, by omega, by go_num, all_snoc HZ.out HA.out (by unfold nmB; simp; omega)⟩
             case measure => simp [intOf]; omega)
    · go_wp2_with (go_at_call 27; refine (within_any _ _ _ _).mono ?_; rintro e w' ⟨rfl, rfl⟩)
      go_ret
      exact ⟨ret_bool (by unfold nameB; rw [all_full (by simp; omega) HA.out]; simp), rfl⟩
set_option maxHeartbeats 1000000 in
theorem cdName_any (s : ByteArray) (w : World) (hs : s.size ≤ maxLen) :
    Calls Tryz.prog 43 #[.string s] w fun e w' => e = .returned (.bool (nameB s)) ∧ w = w' := by
  unfold maxLen at hs
  go_enter Tryz.func43, Tryz.ntmps43
  go_wp2
  go_loop [3] (fun i => ∃ k : Nat, k ≤ s.size ∧ i = .int .i64 k ∧ (s.data.toList.take k).all nmB = true) (fun i => s.size - (intOf i).toNat)
  case atStart => exact ⟨0, Nat.zero_le _, rfl, rfl⟩
  case round =>
    obtain ⟨k, hk, rfl, ha⟩ := hrel
    have HA := Lib.hid ha
    clear ha
    by_cases hlt : k < s.size
    · have HZ := Lib.hid (byte_get s k hlt)
      have hlt' : (k : Int) < (s.size : Int) := by omega
      rcases byte_cases s[k].toNat with hc | hc | hc | hc | hc
      all_goals
        go_wp2
        first
          | (go_ret
             exact ⟨ret_bool (by unfold nameB; rw [all_not HZ.out (by unfold nmB; simp; omega)]; rfl), rfl⟩)
          | (go_round
             case rel => exact ⟨k + 1, by omega, by go_num, all_snoc HZ.out HA.out (by unfold nmB; simp; omega)⟩
             case measure => simp [intOf]; omega)
    · go_wp2_with (go_at_call 32; refine (l1In_any _ _ _ _).mono ?_; rintro e w' ⟨rfl, rfl⟩)
      go_ret
      exact ⟨ret_bool (by unfold nameB; rw [all_full (by simp; omega) HA.out]; simp), rfl⟩
theorem itByte_any (c : UInt8) (w : World) :
    Calls Tryz.prog 79 #[.int .u8 c.toNat] w fun e w' => e = .returned (.bool (nmB c)) ∧ w = w' := by
  rcases byte_cases c.toNat with hc | hc | hc | hc | hc
  all_goals
    go_enter Tryz.func79, Tryz.ntmps79
    go_wp2
    go_ret
    refine ⟨?_, rfl⟩
    simp [nmB]
    try first | omega | (rw [Bool.eq_iff_iff]; simp; omega)
set_option maxHeartbeats 1000000 in
theorem itName_any (s : ByteArray) (w : World) (hs : s.size ≤ maxLen) :
    Calls Tryz.prog 65 #[.string s] w fun e w' => e = .returned (.bool (nameB s)) ∧ w = w' := by
  unfold maxLen at hs
  go_enter Tryz.func65, Tryz.ntmps65
  go_wp2
  go_loop [3] (fun i => ∃ k : Nat, k ≤ s.size ∧ i = .int .i64 k ∧ (s.data.toList.take k).all nmB = true) (fun i => s.size - (intOf i).toNat)
  case atStart => exact ⟨0, Nat.zero_le _, rfl, rfl⟩
  case round =>
    obtain ⟨k, hk, rfl, ha⟩ := hrel
    have HA := Lib.hid ha
    clear ha
    by_cases hlt : k < s.size
    · have HZ := Lib.hid (byte_get s k hlt)
      have hlt' : (k : Int) < (s.size : Int) := by omega
      by_cases hn : nmB s[k] = true
      all_goals
        try simp only [Bool.not_eq_true] at hn
        go_wp2_with (go_at_call 79; refine (itByte_any _ _).mono ?_; rintro e w' ⟨rfl, rfl⟩)
        first
          | (go_ret
             exact ⟨ret_bool (by unfold nameB; rw [all_not HZ.out hn]; rfl), rfl⟩)
          | (go_round
             case rel => exact ⟨k + 1, by omega, by go_num, all_snoc HZ.out HA.out hn⟩
             case measure => simp [intOf]; omega)
    · go_wp2_with (go_at_call 32; refine (l1In_any _ _ _ _).mono ?_; rintro e w' ⟨rfl, rfl⟩)
      go_ret
      exact ⟨ret_bool (by unfold nameB; rw [all_full (by simp; omega) HA.out]; simp), rfl⟩
theorem isName_any (s : ByteArray) (w : World) (hs : s.size ≤ maxLen) :
    Calls Tryz.prog 40 #[.string s] w fun e w' => e = .returned (.bool (nameB s)) ∧ w = w' := by
  go_enter Tryz.func40, Tryz.ntmps40
  go_wp2_with (go_at_call 67; refine (isElementName_any _ _ hs).mono ?_; rintro e w' ⟨rfl, rfl⟩)
  go_ret
  exact ⟨rfl, rfl⟩
end Go.Proofs.YtkekpolfdmmgeaaGreat

/- Memory that the call owns: which blocks a step may have turned; append; marks. -/
namespace Go.Proofs.YtkekpolfdmmgeaaGreat
set_option linter.unusedVariables false
set_option linter.unusedSimpArgs false
open Go.RowKit

/-- only the blocks of S, and new ones, have turned -/
structure Only (S : List Nat) (w w' : World) : Prop where
  os : w'.os = w.os
  tape : w'.tape = w.tape
  output : w'.output = w.output
  size : w.heap.size ≤ w'.heap.size
  block : ∀ b, b < w.heap.size → b ∉ S → w'.heap[b]? = w.heap[b]?
theorem Only.refl (S : List Nat) (w : World) : Only S w w := ⟨rfl, rfl, rfl, Nat.le_refl _, fun _ _ _ => rfl⟩
theorem Kept.only {w w' : World} (h : Kept w w') (S : List Nat) : Only S w w' := ⟨h.os, h.tape, h.output, h.size, fun b hb _ => h.block b hb⟩
theorem Only.trans {S : List Nat} {a b c : World} (h : Only S a b) (k : Only S b c) : Only S a c :=
  ⟨k.os.trans h.os, k.tape.trans h.tape, k.output.trans h.output, Nat.le_trans h.size k.size, fun i hi hn => (k.block i (Nat.lt_of_lt_of_le hi h.size) hn).trans (h.block i hi hn)⟩
theorem Only.mono {S T : List Nat} {a b : World} (h : Only S a b) (hs : ∀ x ∈ S, x ∈ T) : Only T a b :=
  ⟨h.os, h.tape, h.output, h.size, fun i hi hn => h.block i hi (fun hx => hn (hs i hx))⟩
/-- what was there when a0 stood is kept if S lies above -/
theorem Only.above {S : List Nat} {a0 a b : World} (h : Only S a b) (k : Kept a0 a) (hs : ∀ x ∈ S, a0.heap.size ≤ x) : Kept a0 b :=
  ⟨h.os.trans k.os, h.tape.trans k.tape, h.output.trans k.output, Nat.le_trans k.size h.size, fun i hi => (h.block i (Nat.lt_of_lt_of_le hi k.size) (fun hx => by have := hs i hx; omega)).trans (k.block i hi)⟩
theorem Only.drewN {S : List Nat} {a b : World} (h : Only S a b) (n : Nat) : Only S a (b.drewN n) := ⟨h.os, h.tape, h.output, h.size, h.block⟩
theorem Only.setCell {S : List Nat} {a b : World} (h : Only S a b) {p : Addr} (hp : p.block ∈ S) (u : Value) : Only S a (b.setCell p u) :=
  ⟨h.os, h.tape, h.output, by simpa [World.setCell] using h.size, fun i hi hn => (Below.heap_setCell b p u i (fun e => hn (e ▸ hp))).trans (h.block i hi hn)⟩

/-- the block that a slice value leads to -/
def fp (v : Value) : List Nat := v.ownBlock.toList
theorem fp_some (a : Addr) (n c : Nat) : fp (.slice (some a) n c) = [a.block] := rfl
theorem fp_none (n c : Nat) : fp (.slice none n c) = [] := rfl
theorem own_fp {w : World} {base : Nat} {e : TypeId} {size : Nat} {v : Value} {n : Nat} {xs : List Value} (h : w.ownsRow base e size v n xs) : ∀ b ∈ fp v, base ≤ b ∧ b < w.heap.size := by
  intro b hb
  exact h.lt b (by simpa [fp] using hb)
theorem own_only {w w' : World} {base : Nat} {e : TypeId} {size : Nat} {v : Value} {n : Nat} {xs : List Value} {S : List Nat} (h : w.ownsRow base e size v n xs) (ho : Only S w w') (hd : ∀ b ∈ fp v, b ∉ S) : w'.ownsRow base e size v n xs := by
  refine ⟨h.1, ?_⟩
  rcases h.2 with hn | ⟨g, cap, cur, rfl, hb, hgg, rest⟩
  · exact .inl hn
  · refine .inr ⟨g, cap, cur, rfl, hb, ?_, rest⟩
    rw [ho.block g (Array.getElem?_eq_some_iff.1 hgg).1 (hd g (by simp [fp_some]))]
    exact hgg
theorem own_kept {w w' : World} {base : Nat} {e : TypeId} {size : Nat} {v : Value} {n : Nat} {xs : List Value} (h : w.ownsRow base e size v n xs) (hk : Kept w w') : w'.ownsRow base e size v n xs :=
  own_only h (hk.only []) (fun _ _ => List.not_mem_nil)
theorem own_base {w : World} {base base' : Nat} {e : TypeId} {size : Nat} {v : Value} {n : Nat} {xs : List Value} (h : w.ownsRow base e size v n xs) (hb : base' ≤ base) : w.ownsRow base' e size v n xs := by
  refine ⟨h.1, ?_⟩
  rcases h.2 with hn | ⟨g, cap, cur, rfl, hg, rest⟩
  · exact .inl hn
  · exact .inr ⟨g, cap, cur, rfl, Nat.le_trans hb hg, rest⟩
/-- what lies from 'base' on is kept where only blocks below it have turned -/
theorem own_far {w w' : World} {base base' : Nat} {e : TypeId} {size : Nat} {v : Value} {n : Nat} {xs : List Value} {S : List Nat} (h : w.ownsRow base e size v n xs) (ho : Only S w w') (hS : ∀ b ∈ S, b < base) (hb : base' ≤ base) : w'.ownsRow base' e size v n xs :=
  own_only (own_base h hb) ho (fun b hv hs => by have := (own_fp h b hv).1; have := hS b hs; omega)
theorem OwnI.kept {w w' : World} {base : Nat} {v : Value} {zs : List Int} (h : OwnI w base v zs) (hk : Kept w w') : OwnI w' base v zs := own_kept h hk
theorem OwnI.only {w w' : World} {base : Nat} {v : Value} {zs : List Int} {S : List Nat} (h : OwnI w base v zs) (ho : Only S w w') (hd : ∀ b ∈ fp v, b ∉ S) : OwnI w' base v zs := own_only h ho hd
theorem only_of_grown {w w' : World} {v : Value} (h : w.grownBy w' v.ownBlock) : Only (fp v) w w' :=
  ⟨h.os, h.tape, h.output, h.size, fun b hb hn => h.block b hb (fun e => hn (by simp [fp, ← e]))⟩

/-- block b is just the cells cs of element type t, none frozen -/
def Box (w : World) (b : Nat) (t : TypeId) (cs : Array Value) : Prop := w.heap[b]? = some (.cells cs t (0, 0))
theorem Box.lt {w : World} {b : Nat} {t : TypeId} {cs : Array Value} (h : Box w b t cs) : b < w.heap.size := by
  rcases Nat.lt_or_ge b w.heap.size with hlt | hge
  · exact hlt
  · unfold Box at h
    rw [Array.getElem?_eq_none hge] at h
    cases h
theorem Box.new (w : World) (b : Nat) (t : TypeId) (cs : Array Value) (hb : b = w.heap.size) : Box (w.alloc (.cells cs t)) b t cs := by
  subst hb
  exact heap_alloc_new w _
theorem Box.alloc {w : World} {b : Nat} {t : TypeId} {cs : Array Value} (h : Box w b t cs) (o : Obj) : Box (w.alloc o) b t cs := (Below.heap_alloc w o b h.lt).trans h
theorem Box.drewN {w : World} {b : Nat} {t : TypeId} {cs : Array Value} (h : Box w b t cs) (n : Nat) : Box (w.drewN n) b t cs := h
theorem Box.set {w : World} {b : Nat} {t : TypeId} {cs : Array Value} (h : Box w b t cs) (i : Nat) (u : Value) : Box (w.setCell ⟨b, i, none⟩ u) b t (cs.setIfInBounds i u) := by
  unfold Box at h ⊢
  simp [World.setCell, Array.getElem?_modify, h]
theorem Box.far {w : World} {b : Nat} {t : TypeId} {cs : Array Value} (h : Box w b t cs) (p : Addr) (hp : b ≠ p.block) (u : Value) : Box (w.setCell p u) b t cs := (Below.heap_setCell w p u b hp).trans h
theorem Box.kept {w w' : World} {b : Nat} {t : TypeId} {cs : Array Value} (h : Box w b t cs) (hk : Kept w w') : Box w' b t cs := (hk.block b h.lt).trans h
theorem Box.only {w w' : World} {b : Nat} {t : TypeId} {cs : Array Value} {S : List Nat} (h : Box w b t cs) (hk : Only S w w') (hn : b ∉ S) : Box w' b t cs := (hk.block b h.lt hn).trans h
theorem Box.cell {w : World} {b : Nat} {t : TypeId} {cs : Array Value} (h : Box w b t cs) (i : Nat) : w.cell? ⟨b, i, none⟩ = cs[i]? := cell_of_row w b i cs t (0, 0) h
theorem Box.free {w : World} {b : Nat} {t : TypeId} {cs : Array Value} (h : Box w b t cs) (i : Nat) : w.frozen? ⟨b, i, none⟩ = false := by
  unfold Box at h
  simp [World.frozen?, h]
/-- a block of three cells -/
theorem Box.three {w : World} {b : Nat} {t : TypeId} {x y z : Value} (h : Box w b t #[x, y, z]) :
    (w.cell? ⟨b, 0, none⟩ = some x ∧ w.cell? ⟨b, 1, none⟩ = some y ∧ w.cell? ⟨b, 2, none⟩ = some z) ∧ (w.frozen? ⟨b, 0, none⟩ = false ∧ w.frozen? ⟨b, 1, none⟩ = false ∧ w.frozen? ⟨b, 2, none⟩ = false) :=
  ⟨⟨h.cell 0, h.cell 1, h.cell 2⟩, h.free 0, h.free 1, h.free 2⟩

theorem Box.four {w : World} {b : Nat} {t : TypeId} {x y z u : Value} (h : Box w b t #[x, y, z, u]) :
    (w.cell? ⟨b, 0, none⟩ = some x ∧ w.cell? ⟨b, 1, none⟩ = some y ∧ w.cell? ⟨b, 2, none⟩ = some z ∧ w.cell? ⟨b, 3, none⟩ = some u) ∧ (w.frozen? ⟨b, 0, none⟩ = false ∧ w.frozen? ⟨b, 1, none⟩ = false ∧ w.frozen? ⟨b, 2, none⟩ = false ∧ w.frozen? ⟨b, 3, none⟩ = false) :=
  ⟨⟨h.cell 0, h.cell 1, h.cell 2, h.cell 3⟩, h.free 0, h.free 1, h.free 2, h.free 3⟩
theorem Box.six {w : World} {b : Nat} {t : TypeId} {x y z u p q : Value} (h : Box w b t #[x, y, z, u, p, q]) :
    (w.cell? ⟨b, 0, none⟩ = some x ∧ w.cell? ⟨b, 1, none⟩ = some y ∧ w.cell? ⟨b, 2, none⟩ = some z ∧ w.cell? ⟨b, 3, none⟩ = some u ∧ w.cell? ⟨b, 4, none⟩ = some p ∧ w.cell? ⟨b, 5, none⟩ = some q) ∧ (w.frozen? ⟨b, 0, none⟩ = false ∧ w.frozen? ⟨b, 1, none⟩ = false ∧ w.frozen? ⟨b, 2, none⟩ = false ∧ w.frozen? ⟨b, 3, none⟩ = false ∧ w.frozen? ⟨b, 4, none⟩ = false ∧ w.frozen? ⟨b, 5, none⟩ = false) :=
  ⟨⟨h.cell 0, h.cell 1, h.cell 2, h.cell 3, h.cell 4, h.cell 5⟩, h.free 0, h.free 1, h.free 2, h.free 3, h.free 4, h.free 5⟩

/-- the blocks that a struct of slices leads to -/
def fpA : Value → List Nat
  | .agg cs => cs.toList.flatMap fp
  | v => fp v
theorem nodup_one (v : Value) : (fp v).Nodup := by
  unfold fp
  cases v.ownBlock <;> simp
theorem nodup_fp {a b : Value} {m : Nat} (h1 : ∀ x ∈ fp a, x < m) (h2 : ∀ x ∈ fp b, m ≤ x) : (fp a ++ fp b).Nodup := by
  rw [List.nodup_append]
  exact ⟨nodup_one a, nodup_one b, fun x hx y hy e => by have := h1 x hx; have := h2 y hy; omega⟩
theorem OwnI.far {w w' : World} {base base' : Nat} {v : Value} {zs : List Int} {S : List Nat} (h : OwnI w base v zs) (ho : Only S w w') (hS : ∀ b ∈ S, b < base) (hb : base' ≤ base) : OwnI w' base' v zs := own_far h ho hS hb
theorem flat_get {α β : Type} (f : α → List β) (m : Nat) (hf : ∀ x, (f x).length = m) : ∀ (l : List α) (k j : Nat), j < m → (l.flatMap f)[k * m + j]? = (l[k]?).bind fun x => (f x)[j]?
  | [], k, j, _ => by simp
  | x :: l, 0, j, hj => by
    rw [List.flatMap_cons, Nat.zero_mul, Nat.zero_add, List.getElem?_append_left (by rw [hf]; exact hj)]
    rfl
  | x :: l, k + 1, j, hj => by
    rw [List.flatMap_cons, List.getElem?_append_right (by rw [hf, Nat.succ_mul]; omega), hf, show (k + 1) * m + j - m = k * m + j from by rw [Nat.succ_mul]; omega, flat_get f m hf l k j hj]
    simp
theorem flat_length {α β : Type} (f : α → List β) (m : Nat) (hf : ∀ x, (f x).length = m) (l : List α) : (l.flatMap f).length = l.length * m := by
  induction l with
  | nil => simp
  | cons x l ih => rw [List.flatMap_cons, List.length_append, hf, ih, List.length_cons, Nat.succ_mul]; omega

/-- append to a row of the call's own: the source nil, empty or not -/
theorem wpList_append_seq {P : Program} (w : World) {ops : Array Oper} {rest : List Oper} {o : Oper} {a : Act} {Q : Exit → Act → World → Prop} (hgd : o.guard = none) (s x : Operand) (t : TypeId)
    (ho : o.op = .call { callee := .builtin .append, args := #[s, x], argTypes := #[t, t] })
    (base : Nat) (e : TypeId) (i : TypeInfo) (z : Value) (size bytes : Nat) (ht : P.underlying t = some (.slice e)) (hi : P.info? e = some i) (hz : i.zero = some z)
    (hsize : i.size = size) (hby : i.bytes = bytes) (hzs : z.cells.size = size) (hsz : 0 < size)
    (v : Value) (n : Nat) (xs : List Value) (hs : a.eval s = v) (hown : w.ownsRow base e size v n xs)
    (u : Value) (m : Nat) (news : List Value) (hx : a.eval x = u) (hr : Seq w u m news) (hl : news.length = m * size) (h1 : ∀ y ∈ news, y.oneCell' = true)
    (h63 : n + m ≤ maxLen) (hbytes : (n + m) * bytes ≤ 140737488355328) (hbase : base ≤ w.heap.size)
    (h : ∀ v' w', w'.ownsRow base e size v' (n + m) (xs ++ news) → w.grownBy w' v.ownBlock → (v'.ownBlock = v.ownBlock ∨ v'.ownBlock = some w.heap.size) → wpList P ops Q rest (a.put o.dst v') w') : wpList P ops Q (o :: rest) a w := by
  obtain ⟨A, c, rfl, hnc, hcm, hA, hc⟩ := hr
  rcases A with _ | ad
  · obtain rfl := hA rfl
    obtain rfl : m = 0 := by omega
    obtain rfl : news = [] := List.eq_nil_of_length_eq_zero (by simpa using hl)
    exact wpList_append_own_none hgd s x t ho base e i size ht hi v n xs hs hown hx (h v w (by simpa using hown) (World.grownBy.refl w _) (.inl rfl))
  · refine wpList_append_own_at w hgd s x t ho base e i z size bytes ht hi hz hsize hby hzs hsz v n xs hs hown ad m c news hx hl ?_ h1 h63 hbytes hbase (fun v' w' q1 q2 _ q4 => h v' w' q1 q2 q4)
    intro j y hy
    have hm : 0 < m := by
      rcases Nat.eq_zero_or_pos m with h0 | h0
      · subst h0
        have : news = [] := List.eq_nil_of_length_eq_zero (by simpa using hl)
        subst this
        simp at hy
      · exact h0
    obtain ⟨b, o', e1, hb, hcell⟩ := hc hm
    injection e1 with e1
    subst e1
    have := hcell j y hy
    rwa [show (⟨b, o', none⟩ : Addr).add j = ⟨b, o' + j, none⟩ from by unfold Addr.add; split <;> simp_all]

/-- the marks from k on -/
def marksI (k : Int) (n : Nat) : List Int := (List.range n).map fun (i : Nat) => k + (i : Int)
theorem marksI_length (k : Int) (n : Nat) : (marksI k n).length = n := by simp [marksI]
theorem marksI_get {k : Int} {n i : Nat} (h : i < n) : (marksI k n)[i]? = some (k + i) := by simp [marksI, h]
theorem own_form {w : World} {base : Nat} {e : TypeId} {size : Nat} {v : Value} {n : Nat} {xs : List Value} (h : w.ownsRow base e size v n xs) :
    ∃ A c, v = .slice A n c ∧ n ≤ c ∧ c ≤ maxLen ∧ (0 < n → ∃ g, A = some ⟨g, 0, none⟩) := by
  rcases h.2 with ⟨rfl, rfl⟩ | ⟨g, cap, cur, rfl, hb, hg, hnc, hcm, hcs, htake⟩
  · exact ⟨none, 0, rfl, Nat.le_refl _, Nat.zero_le _, fun h => absurd h (by omega)⟩
  · exact ⟨_, cap, rfl, hnc, hcm, fun _ => ⟨g, rfl⟩⟩


/-! ### sizes -/
def lessOr (left : Int) (n : Nat) : Int := if (n : Int) ≤ left then left - n else -1
theorem sum_take_le (l : List Nat) (k : Nat) : (l.take k).sum ≤ l.sum := by
  rw [← List.sum_append_nat.symm.trans (congrArg List.sum (List.take_append_drop k l))]
  omega
theorem mem_le_sum (l : List Nat) (x : Nat) (h : x ∈ l) : x ≤ l.sum := by
  induction l with
  | nil => cases h
  | cons y l ih =>
    rw [List.sum_cons]
    rcases List.mem_cons.1 h with rfl | h'
    · omega
    · have := ih h'
      omega
theorem sum_snoc {α : Type} (f : α → Nat) {l : List α} {k : Nat} {x : α} (h : l[k]? = some x) : ((l.take (k + 1)).map f).sum = ((l.take k).map f).sum + f x := by
  rw [take_snoc h, List.map_append, List.sum_append_nat]
  simp
theorem sum_take (α : Type) (f : α → Nat) (l : List α) (k : Nat) : ((l.take k).map f).sum ≤ (l.map f).sum := by
  rw [List.map_take]
  exact sum_take_le _ _
theorem lessOr_bd {left : Int} {n : Nat} (h : 0 ≤ left) : -1 ≤ lessOr left n ∧ lessOr left n ≤ left := by
  unfold lessOr
  split <;> omega
theorem lessOr_add {left : Int} {n m : Nat} (h : 0 ≤ lessOr left n) : lessOr (lessOr left n) m = lessOr left (n + m) := by
  unfold lessOr at *
  split at h
  · rename_i h1
    rw [if_pos h1]
    split
    · rw [if_pos (by omega)]; omega
    · rw [if_neg (by omega)]
  · omega
theorem lessOr_neg {left : Int} {n m : Nat} (h : lessOr left n < 0) (h0 : 0 ≤ left) : lessOr left (n + m) = -1 := by
  unfold lessOr at *
  split at h
  · omega
  · rw [if_neg (by omega)]
end Go.Proofs.YtkekpolfdmmgeaaGreat

/- Elements and codes in memory. -/
namespace Go.Proofs.YtkekpolfdmmgeaaGreat
set_option linter.unusedVariables false
set_option linter.unusedSimpArgs false
open Go.RowKit

structure ElemD where
  name : ByteArray
  family : Int
  level : Int
  base : Int
structure CodeD where
  elems : List ElemD
  limits : List Int
  repeats : Int
  bonus : Int
  keeps : Int
  fall : Int
def cells4 (e : ElemD) : List Value := [.string e.name, .int .i64 e.family, .int .i64 e.level, .int .i64 e.base]
def Elems (w : World) (v : Value) (es : List ElemD) : Prop := Seq w v es.length (es.flatMap cells4) ∧ ∀ e ∈ es, e.name.size ≤ maxLen
def CodeAt (w : World) (v : Value) (c : CodeD) : Prop :=
  ∃ ev lv, v = .agg #[ev, lv, .int .i64 c.repeats, .int .i64 c.bonus, .int .i64 c.keeps, .int .i64 c.fall] ∧ Elems w ev c.elems ∧ Ints w lv c.limits
def ElemAt (_ : World) (v : Value) (e : ElemD) : Prop := v = .agg #[.string e.name, .int .i64 e.family, .int .i64 e.level, .int .i64 e.base] ∧ e.name.size ≤ maxLen
theorem ElemAt.mk (e : ElemD) (w : World) (h : e.name.size ≤ maxLen) : ElemAt w (.agg #[.string e.name, .int .i64 e.family, .int .i64 e.level, .int .i64 e.base]) e := ⟨rfl, h⟩
theorem ElemAt.kept {w w' : World} {v : Value} {e : ElemD} (h : ElemAt w v e) (_ : Kept w w') : ElemAt w' v e := h
theorem Elems.kept {w w' : World} {v : Value} {es : List ElemD} (h : Elems w v es) (hk : Kept w w') : Elems w' v es := ⟨h.1.kept hk, h.2⟩
theorem CodeAt.kept {w w' : World} {v : Value} {c : CodeD} (h : CodeAt w v c) (hk : Kept w w') : CodeAt w' v c := by
  obtain ⟨ev, lv, e, h1, h2⟩ := h
  exact ⟨ev, lv, e, h1.kept hk, h2.kept hk⟩
def OwnE (w : World) (base : Nat) (v : Value) (es : List ElemD) : Prop := w.ownsRow base 60 4 v es.length (es.flatMap cells4) ∧ ∀ e ∈ es, e.name.size ≤ maxLen
theorem fpA_code (a b : Value) (p q r s : Int) : fpA (.agg #[a, b, .int .i64 p, .int .i64 q, .int .i64 r, .int .i64 s]) = fp a ++ fp b := by
  simp [fpA, fp, Value.ownBlock]
def OwnK (w : World) (base : Nat) (v : Value) (c : CodeD) : Prop :=
  ∃ ev lv, v = .agg #[ev, lv, .int .i64 c.repeats, .int .i64 c.bonus, .int .i64 c.keeps, .int .i64 c.fall] ∧ OwnE w base ev c.elems ∧ OwnI w base lv c.limits ∧ (fpA v).Nodup
theorem OwnE.elems {w : World} {base : Nat} {v : Value} {es : List ElemD} (h : OwnE w base v es) : Elems w v es := ⟨Seq.of_own h.1, h.2⟩
theorem OwnE.only {w w' : World} {base : Nat} {v : Value} {es : List ElemD} {S : List Nat} (h : OwnE w base v es) (ho : Only S w w') (hd : ∀ b ∈ fp v, b ∉ S) : OwnE w' base v es := ⟨own_only h.1 ho hd, h.2⟩
theorem OwnE.kept {w w' : World} {base : Nat} {v : Value} {es : List ElemD} (h : OwnE w base v es) (hk : Kept w w') : OwnE w' base v es := ⟨own_kept h.1 hk, h.2⟩
theorem OwnE.far {w w' : World} {base base' : Nat} {v : Value} {es : List ElemD} {S : List Nat} (h : OwnE w base v es) (ho : Only S w w') (hS : ∀ b ∈ S, b < base) (hb : base' ≤ base) : OwnE w' base' v es := ⟨own_far h.1 ho hS hb, h.2⟩
theorem OwnK.code {w : World} {base : Nat} {v : Value} {c : CodeD} (h : OwnK w base v c) : CodeAt w v c := by
  obtain ⟨ev, lv, e, h1, h2, _⟩ := h
  exact ⟨ev, lv, e, h1.elems, h2.ints⟩
theorem OwnK.only {w w' : World} {base : Nat} {v : Value} {c : CodeD} {S : List Nat} (h : OwnK w base v c) (ho : Only S w w') (hd : ∀ b ∈ fpA v, b ∉ S) : OwnK w' base v c := by
  obtain ⟨ev, lv, rfl, h1, h2, h3⟩ := h
  rw [fpA_code] at hd
  exact ⟨ev, lv, rfl, h1.only ho (fun b hb => hd b (List.mem_append_left _ hb)), h2.only ho (fun b hb => hd b (List.mem_append_right _ hb)), h3⟩
theorem OwnK.kept {w w' : World} {base : Nat} {v : Value} {c : CodeD} (h : OwnK w base v c) (hk : Kept w w') : OwnK w' base v c := h.only (hk.only []) (fun _ _ => List.not_mem_nil)
theorem OwnK.fps {w : World} {base : Nat} {v : Value} {c : CodeD} (h : OwnK w base v c) : ∀ b ∈ fpA v, base ≤ b ∧ b < w.heap.size := by
  obtain ⟨ev, lv, rfl, h1, h2, h3⟩ := h
  rw [fpA_code]
  intro b hb
  rcases List.mem_append.1 hb with hb | hb
  · exact own_fp h1.1 b hb
  · exact own_fp h2 b hb
/-- an element of a slice, its four cells -/
theorem elems_at {w : World} {A : Option Addr} {es : List ElemD} (h : SeqA w A es.length (es.flatMap cells4)) {k : Nat} (hk : k < es.length) :
    ∃ b o e, A = some ⟨b, o, none⟩ ∧ b < w.heap.size ∧ es[k]? = some e ∧
      (w.cell? ⟨b, o + k * 4, none⟩ = some (.string e.name) ∧ w.cell? ⟨b, o + k * 4 + 1, none⟩ = some (.int .i64 e.family) ∧ w.cell? ⟨b, o + k * 4 + 2, none⟩ = some (.int .i64 e.level) ∧ w.cell? ⟨b, o + k * 4 + 3, none⟩ = some (.int .i64 e.base)) := by
  obtain ⟨b, o, ea, hb, hcell⟩ := h (by omega)
  have h1 : es[k]? = some es[k] := List.getElem?_eq_getElem hk
  have hf := flat_get cells4 4 (fun _ => rfl) es k
  have hc : ∀ j, j < 4 → w.cell? ⟨b, o + k * 4 + j, none⟩ = (cells4 es[k])[j]? := fun j hj => by
    have := hf j hj
    rw [h1] at this
    have hs : (cells4 es[k])[j]? = some ((cells4 es[k])[j]'hj) := List.getElem?_eq_getElem hj
    rw [hs, Nat.add_assoc]
    exact hcell (k * 4 + j) _ (this.trans hs)
  exact ⟨b, o, es[k], ea, hb, h1, hc 0 (by omega), hc 1 (by omega), hc 2 (by omega), hc 3 (by omega)⟩
end Go.Proofs.YtkekpolfdmmgeaaGreat

/- Elements and codes: sizes, copies, comparisons. -/
namespace Go.Proofs.YtkekpolfdmmgeaaGreat
set_option linter.unusedVariables false
set_option linter.unusedSimpArgs false
open Go.RowKit

def ElemD.size (e : ElemD) : Nat := e.name.size
def elemsSize (es : List ElemD) : Nat := es.length + (es.map ElemD.size).sum
def CodeD.size (c : CodeD) : Nat := elemsSize c.elems + c.limits.length
theorem elem_size_le {es : List ElemD} {k : Nat} {e : ElemD} (h : es[k]? = some e) : e.size ≤ elemsSize es := by
  have := mem_le_sum (es.map ElemD.size) e.size (List.mem_map_of_mem (List.mem_of_getElem? h))
  unfold elemsSize
  omega
theorem code_parts (c : CodeD) : c.elems.length ≤ c.size ∧ c.limits.length ≤ c.size ∧ elemsSize c.elems ≤ c.size := by
  unfold CodeD.size elemsSize
  omega
/-! ### copies -/
theorem info_elem : (Tryz.prog.info? 60).map (fun i => (i.zero, i.size, i.bytes)) = some (some (.agg #[.string ByteArray.empty, .int .i64 0, .int .i64 0, .int .i64 0]), 4, 40) := by kernel_rfl
theorem set4_take {xs ys : List Value} {k n : Nat} {a b c d : Value} (hl : xs.length = n * 4) (hk : k < n) (ht : xs.take (k * 4) = ys) :
    ((((xs.set (k * 4) a).set (k * 4 + 1) b).set (k * 4 + 2) c).set (k * 4 + 3) d).take ((k + 1) * 4) = ys ++ [a, b, c, d] := by
  have h1 : k * 4 + 3 < xs.length := by omega
  rw [show (k + 1) * 4 = k * 4 + 3 + 1 from by omega]
  rw [take_snoc (x := d) (by rw [List.getElem?_set_self (by simp; omega)]), List.take_set_of_le (Nat.le_refl _)]
  rw [take_snoc (x := c) (by rw [List.getElem?_set_self (by simp; omega)]), List.take_set_of_le (Nat.le_refl _)]
  rw [take_snoc (x := b) (by rw [List.getElem?_set_self (by simp; omega)]), List.take_set_of_le (Nat.le_refl _)]
  rw [take_snoc (x := a) (by rw [List.getElem?_set_self (by omega)]), List.take_set_of_le (Nat.le_refl _), ht]
  simp
end Go.Proofs.YtkekpolfdmmgeaaGreat

/- Which codes are valid. -/
namespace Go.Proofs.YtkekpolfdmmgeaaGreat
set_option linter.unusedVariables false
set_option linter.unusedSimpArgs false
open Go.RowKit

def elemB (x : ElemD) : Bool := nameB x.name && inB x.family 0 4 && inB x.level 0 4 && inB x.base 1 2000
def stepB (es : List ElemD) (k : Nat) : Bool :=
  match es[k]? with
  | none => true
  | some x => elemB x && (k == 0 || match es[k - 1]? with | none => false | some p => Op.bytesLess p.name.toList x.name.toList)
def headB (c : CodeD) : Bool := inB c.elems.length 1 24 && (c.limits.length == 5) && c.limits.all (inB · 0 9)
def restB (c : CodeD) : Bool := inB c.repeats 1 3 && inB c.bonus 0 20 && inB c.keeps 50 100 && inB c.fall 0 500
def elemsB (es : List ElemD) : Bool := (List.range es.length).all (stepB es)
def codeB (c : CodeD) : Bool := headB c && restB c && elemsB c.elems
theorem range_snoc {p : Nat → Bool} {k : Nat} (h : (List.range k).all p = true) (hk : p k = true) : (List.range (k + 1)).all p = true := by
  rw [List.range_succ, List.all_append, h]
  simp [hk]
theorem range_not {p : Nat → Bool} {k n : Nat} (h : k < n) (hk : p k = false) : (List.range n).all p = false := by
  rw [List.all_eq_false]
  exact ⟨k, by simpa using h, by simp [hk]⟩
theorem stepB_zero {es : List ElemD} {x : ElemD} (h : es[0]? = some x) : stepB es 0 = elemB x := by
  unfold stepB
  rw [h]
  simp
theorem stepB_succ {es : List ElemD} {k : Nat} {x p : ElemD} (h : es[k + 1]? = some x) (hp : es[k]? = some p) : stepB es (k + 1) = (elemB x && Op.bytesLess p.name.toList x.name.toList) := by
  unfold stepB
  rw [h]
  simp [hp]
theorem stepB_elem {es : List ElemD} {k : Nat} {x : ElemD} (h : es[k]? = some x) (hx : elemB x = false) : stepB es k = false := by
  unfold stepB
  rw [h]
  simp [hx]
theorem codeB_head {c : CodeD} (h : headB c = false) : codeB c = false := by unfold codeB; rw [h]; rfl
theorem codeB_rest {c : CodeD} (h : restB c = false) : codeB c = false := by unfold codeB; rw [h, Bool.and_false]; rfl
theorem codeB_elems {c : CodeD} (h : elemsB c.elems = false) : codeB c = false := by unfold codeB; rw [h, Bool.and_false]
theorem isFamily_any (n : Int) (w : World) :
    Calls Tryz.prog 71 #[.int .i64 n] w fun e w' => e = .returned (.bool (inB n 0 4)) ∧ w = w' := by
  go_enter Tryz.func71, Tryz.ntmps71
  go_wp2_with (go_at_call 27; refine (within_any _ _ _ _).mono ?_; rintro e w' ⟨rfl, rfl⟩)
  go_ret
  exact ⟨rfl, rfl⟩
set_option maxRecDepth 100000 in
set_option maxHeartbeats 2000000 in
theorem isCode_any (v : Value) (x : CodeD) (w : World) (h : CodeAt w v x) :
    Calls Tryz.prog 49 #[v] w fun e w' => e = .returned (.bool (codeB x)) ∧ Kept w w' := by
  obtain ⟨nv, mv, rfl, q1, q2⟩ := h
  obtain ⟨A, c, rfl, hnc, hcm, hl⟩ := q1.1.out
  obtain ⟨A2, c2, rfl, hnc2, hcm2, _⟩ := q2.out
  unfold maxLen at hcm hcm2
  have HL := Lib.hid hl
  have HS := Lib.hid q1.2
  have H2 := Lib.hid q2
  clear q1 q2 hl
  go_enter Tryz.func49, Tryz.ntmps49
  by_cases g1 : inB x.elems.length 1 24 = true
  case neg =>
    simp only [Bool.not_eq_true] at g1
    go_wp2_with (go_at_call 27; refine (within_any _ _ _ _).mono ?_; rintro e w' ⟨rfl, rfl⟩)
    go_ret
    exact ⟨ret_bool (codeB_head (by unfold headB; rw [g1]; rfl)).symm, (Kept.refl _).alloc _⟩
  by_cases g2' : x.limits.length = 5
  case neg =>
    have g2 : ((x.limits.length : Int) != 5) = true := bne_iff_ne.2 (by omega)
    go_wp2_with (go_at_call 27; refine (within_any _ _ _ _).mono ?_; rintro e w' ⟨rfl, rfl⟩)
    go_ret
    exact ⟨ret_bool (codeB_head (by unfold headB; rw [g1]; simp [g2'])).symm, (Kept.refl _).alloc _⟩
  have g2 : ((x.limits.length : Int) != 5) = false := by simp [g2']
  have G2 := Lib.hid g2'
  clear g2'
  by_cases g3 : x.limits.all (inB · 0 9) = true
  case neg =>
    simp only [Bool.not_eq_true] at g3
    go_wp2_with (first | (go_at_call 27; refine (within_any _ _ _ _).mono ?_; rintro e w' ⟨rfl, rfl⟩) | (go_at_call 60; refine (allWithin_any _ _ _ _ _ (H2.out.kept ((Kept.refl w).alloc _))).mono ?_; rintro e w' ⟨rfl, rfl⟩))
    go_ret
    exact ⟨ret_bool (codeB_head (by unfold headB; rw [g1, g3]; simp [G2.out])).symm, (Kept.refl _).alloc _⟩
  have HH := Lib.hid (show headB x = true from by unfold headB; rw [g1, g3]; simp [G2.out])
  by_cases g4 : inB x.repeats 1 3 = true
  case neg =>
    simp only [Bool.not_eq_true] at g4
    go_wp2_with (first | (go_at_call 27; refine (within_any _ _ _ _).mono ?_; rintro e w' ⟨rfl, rfl⟩) | (go_at_call 60; refine (allWithin_any _ _ _ _ _ (H2.out.kept ((Kept.refl w).alloc _))).mono ?_; rintro e w' ⟨rfl, rfl⟩))
    go_ret
    exact ⟨ret_bool (codeB_rest (by unfold restB; rw [g4]; rfl)).symm, (Kept.refl _).alloc _⟩
  by_cases g5 : inB x.bonus 0 20 = true
  case neg =>
    simp only [Bool.not_eq_true] at g5
    go_wp2_with (first | (go_at_call 27; refine (within_any _ _ _ _).mono ?_; rintro e w' ⟨rfl, rfl⟩) | (go_at_call 60; refine (allWithin_any _ _ _ _ _ (H2.out.kept ((Kept.refl w).alloc _))).mono ?_; rintro e w' ⟨rfl, rfl⟩))
    go_ret
    exact ⟨ret_bool (codeB_rest (by unfold restB; rw [g4, g5]; rfl)).symm, (Kept.refl _).alloc _⟩
  by_cases g6 : inB x.keeps 50 100 = true
  case neg =>
    simp only [Bool.not_eq_true] at g6
    go_wp2_with (first | (go_at_call 27; refine (within_any _ _ _ _).mono ?_; rintro e w' ⟨rfl, rfl⟩) | (go_at_call 60; refine (allWithin_any _ _ _ _ _ (H2.out.kept ((Kept.refl w).alloc _))).mono ?_; rintro e w' ⟨rfl, rfl⟩))
    go_ret
    exact ⟨ret_bool (codeB_rest (by unfold restB; rw [g4, g5, g6]; rfl)).symm, (Kept.refl _).alloc _⟩
  by_cases g7 : inB x.fall 0 500 = true
  case neg =>
    simp only [Bool.not_eq_true] at g7
    go_wp2_with (first | (go_at_call 27; refine (within_any _ _ _ _).mono ?_; rintro e w' ⟨rfl, rfl⟩) | (go_at_call 60; refine (allWithin_any _ _ _ _ _ (H2.out.kept ((Kept.refl w).alloc _))).mono ?_; rintro e w' ⟨rfl, rfl⟩))
    go_ret
    exact ⟨ret_bool (codeB_rest (by unfold restB; rw [g4, g5, g6, g7]; rfl)).symm, (Kept.refl _).alloc _⟩
  have HR : Hid (restB x = true) := by unfold restB; rw [g4, g5, g6, g7]; rfl
  go_wp2_with (first | (go_at_call 27; refine (within_any _ _ _ _).mono ?_; rintro e w' ⟨rfl, rfl⟩) | (go_at_call 60; refine (allWithin_any _ _ _ _ _ (H2.out.kept ((Kept.refl w).alloc _))).mono ?_; rintro e w' ⟨rfl, rfl⟩))
  clear g1 g2 g3 g4 g5 g6 g7
  have B0 := Box.new w w.heap.size 26 #[.slice A x.elems.length c, .slice A2 x.limits.length c2, .int .i64 x.repeats, .int .i64 x.bonus, .int .i64 x.keeps, .int .i64 x.fall] rfl
  have K0 : Kept w (w.alloc (.cells #[.slice A x.elems.length c, .slice A2 x.limits.length c2, .int .i64 x.repeats, .int .i64 x.bonus, .int .i64 x.keeps, .int .i64 x.fall] 26)) := (Kept.refl w).alloc _
  generalize w.alloc (.cells #[.slice A x.elems.length c, .slice A2 x.limits.length c2, .int .i64 x.repeats, .int .i64 x.bonus, .int .i64 x.keeps, .int .i64 x.fall] 26) = w0 at *
  go_loopw [47] (fun i wr => ∃ k : Nat, k ≤ x.elems.length ∧ i = .int .i64 k ∧ (List.range k).all (stepB x.elems) = true ∧ Kept w0 wr) (fun i _ => x.elems.length - (intOf i).toNat)
  case atStart => exact ⟨0, Nat.zero_le _, rfl, rfl, Kept.refl _⟩
  case round =>
    obtain ⟨k, hk, rfl, ha, hkept⟩ := hrel
    have HB := Lib.hid ha
    clear ha
    by_cases hlt : k < x.elems.length
    · obtain ⟨b, o, y, rfl, hb, h2, q0, q1, q2, q3⟩ := elems_at (HL.out.kept (K0.trans hkept)) hlt
      have hys := HS.out y (List.mem_of_getElem? h2)
      have HZ := Lib.hid h2
      clear h2
      by_cases he : elemB y = true
      case neg =>
        simp only [Bool.not_eq_true] at he
        have HE : Hid (codeB x = false) := codeB_elems (range_not hlt (stepB_elem HZ.out he))
        unfold elemB at he
        by_cases e1 : nameB y.name = true <;> by_cases e2 : inB y.family 0 4 = true <;> by_cases e3 : inB y.level 0 4 = true <;> by_cases e4 : inB y.base 1 2000 = true
        · simp [e1, e2, e3, e4] at he
        all_goals
          simp only [Bool.not_eq_true] at e1 e2 e3 e4
          clear he
          go_wp2_with (first | (go_at_call 67; refine (isElementName_any _ _ hys).mono ?_; rintro e w' ⟨rfl, rfl⟩) | (go_at_call 71; refine (isFamily_any _ _).mono ?_; rintro e w' ⟨rfl, rfl⟩) | (go_at_call 27; refine (within_any _ _ _ _).mono ?_; rintro e w' ⟨rfl, rfl⟩))
          go_ret
          exact ⟨ret_bool HE.out.symm, (K0.trans hkept).alloc _⟩
      have he' := he
      unfold elemB at he'
      simp only [Bool.and_eq_true] at he'
      obtain ⟨⟨⟨e1, e2⟩, e3⟩, e4⟩ := he'
      have HE := Lib.hid he
      clear he
      have KA : Kept wr (wr.alloc (.cells #[.string y.name, .int .i64 y.family, .int .i64 y.level, .int .i64 y.base] 60)) := (Kept.refl wr).alloc _
      obtain ⟨x0, y0⟩ := (B0.kept (hkept.trans KA)).six
      by_cases hk0 : k = 0
      · have HK := Lib.hid hk0
        have hd : decide ((0 : Int) < (k : Int)) = false := by simp; omega
        have hd2 : decide (0 < k) = false := by simp; omega
        clear hk0
        go_wp2_with (first | (go_at_call 67; refine (isElementName_any _ _ hys).mono ?_; rintro e w' ⟨rfl, rfl⟩) | (go_at_call 71; refine (isFamily_any _ _).mono ?_; rintro e w' ⟨rfl, rfl⟩) | (go_at_call 27; refine (within_any _ _ _ _).mono ?_; rintro e w' ⟨rfl, rfl⟩))
        go_quiet (fail)
        go_wp2_with fail
        go_roundw
        case rel => exact ⟨k + 1, by omega, by go_num, range_snoc HB.out (by have h := HZ.out; rw [HK.out] at h ⊢; rw [stepB_zero h]; exact HE.out), (hkept.trans KA).drewN _⟩
        case measure => simp [intOf]; omega
      · obtain ⟨j, hj⟩ : ∃ j, k = j + 1 := ⟨k - 1, by omega⟩
        obtain ⟨b', o', p, eA, hb', h2', q0', q1', q2', q3'⟩ := elems_at (HL.out.kept ((K0.trans hkept).trans KA)) (k := j) (by omega)
        injection eA with eA
        injection eA with eA1 eA2 eA3
        subst eA1 eA2
        have HP := Lib.hid h2'
        have HJ := Lib.hid hj
        have f3 : (j : Int) < (x.elems.length : Int) := by omega
        have f4 : (0 : Int) < (k : Int) := by omega
        have f5 : 0 < k := by omega
        have f1 : ((k : Int) - 1) = (j : Int) := by omega
        have f2 : IntKind.i64.wrap ((k : Int) - 1) = (j : Int) := by rw [f1]; exact IntWalk.i64_in _ (by omega)
        have HST : Hid (stepB x.elems k = (elemB y && Op.bytesLess p.name.toList y.name.toList)) := by have h := HZ.out; rw [hj] at h ⊢; exact stepB_succ h h2'
        clear h2' eA3 hj hk0
        by_cases hless : Op.bytesLess p.name.toList y.name.toList = true
        · go_wp2_with (first | (go_at_call 67; refine (isElementName_any _ _ hys).mono ?_; rintro e w' ⟨rfl, rfl⟩) | (go_at_call 71; refine (isFamily_any _ _).mono ?_; rintro e w' ⟨rfl, rfl⟩) | (go_at_call 27; refine (within_any _ _ _ _).mono ?_; rintro e w' ⟨rfl, rfl⟩))
          go_quiet (fail)
          go_wp2_with fail
          go_roundw
          case rel => exact ⟨k + 1, by omega, by go_num, range_snoc HB.out (by rw [HST.out, HE.out, hless]; rfl), (hkept.trans KA).drewN _⟩
          case measure => simp [intOf]; omega
        · simp only [Bool.not_eq_true] at hless
          have HF : Hid (codeB x = false) := codeB_elems (range_not hlt (by rw [HST.out, HE.out, hless]; rfl))
          go_wp2_with (first | (go_at_call 67; refine (isElementName_any _ _ hys).mono ?_; rintro e w' ⟨rfl, rfl⟩) | (go_at_call 71; refine (isFamily_any _ _).mono ?_; rintro e w' ⟨rfl, rfl⟩) | (go_at_call 27; refine (within_any _ _ _ _).mono ?_; rintro e w' ⟨rfl, rfl⟩))
          go_quiet (fail)
          go_wp2_with fail
          go_ret
          exact ⟨ret_bool HF.out.symm, ((K0.trans hkept).trans KA).drewN _⟩
    · obtain rfl : k = x.elems.length := by omega
      go_wp2_with fail
      go_ret
      exact ⟨ret_bool (by unfold codeB elemsB; rw [HH.out, HR.out, HB.out]; rfl), K0.trans hkept⟩
end Go.Proofs.YtkekpolfdmmgeaaGreat

/- Regions that draw their order, whose operations read and whose callees may make new memory: one walk, in the class of the worlds that keep what was there. -/
namespace Go.Proofs.YtkekpolfdmmgeaaGreat
set_option linter.unusedVariables false
set_option linter.unusedSimpArgs false
open Go.RowKit

structure After (W : World) where
  w : World
  kept : Kept W w
instance (W : World) : Nonempty (After W) := ⟨⟨W, Kept.refl W⟩⟩
theorem region_after {P : Program} {id : Nat} {Q : Exit → Act → World → Prop} {a : Act} {w : World} {l : List Oper} (hm : P.follows .mixedOrders = true) (hB : Region.lexB .any l.toArray = true)
    (h : wpQuiet P l.toArray (fun w' => ∃ s : After w.drew, w' = s.w) (fun a' => ∀ w', (∃ s : After w.drew, w' = s.w) → Q .normal a' w') l a) : (Code.region id l.toArray true).wp P Q a w :=
  wp_region_quiet (C := fun w' => ∃ s : After w.drew, w' = s.w) hm hB ⟨⟨w.drew, Kept.refl _⟩, rfl⟩ h
theorem after_of {P : Program} {f : FuncId} {args : Array Value} {W : World} {s : After W} {v : Value} (h : Calls P f args s.w fun e w' => e = .returned v ∧ Kept s.w w') :
    Calls P f args s.w fun e w'' => e = .returned v ∧ ∃ s' : After W, w'' = s'.w :=
  h.mono fun _ w' ⟨he, hk⟩ => ⟨he, ⟨w', s.kept.trans hk⟩, rfl⟩
theorem after_same {P : Program} {f : FuncId} {args : Array Value} {W : World} {s : After W} {v : Value} (h : Calls P f args s.w fun e w' => e = .returned v ∧ s.w = w') :
    Calls P f args s.w fun e w'' => e = .returned v ∧ ∃ s' : After W, w'' = s'.w :=
  h.mono fun _ _ ⟨he, hk⟩ => ⟨he, s, hk.symm⟩
theorem After.cell {W : World} {p : Addr} {v : Value} (h : W.cell? p = some v) (hp : p.block < W.heap.size) (s : After W) : s.w.cell? p = some v := (s.kept.cell hp).trans h
end Go.Proofs.YtkekpolfdmmgeaaGreat
