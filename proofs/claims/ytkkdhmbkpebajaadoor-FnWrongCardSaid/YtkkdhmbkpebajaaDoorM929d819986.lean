/- Contracts of functions that the proof leans on. No condition. -/
import Derived.Test.YtkkdhmbkpebajaaDoorProg
import Derived.WalkKit
import Derived.WalkLawsBesides
import Derived.WalkSpells
import Derived.LoopTactic
import Derived.RegionTactic
import Derived.Deep.QuietTactic
import Derived.BigQuiet
import Derived.Handy
import Derived.Outline
import Derived.Below
import Derived.Lib.Hide
import Derived.Deep.Draws
import Derived.Deep.LoopGhost
import Derived.OwnWalk
import Derived.Deep.AppendLies
import Derived.Lib.Split
import Derived.Lib.CountLaws
import Derived.Lib.IndexMore
import Derived.Lib.ItoaNum
import Derived.Lib.Join
import Derived.Lib.Strings
/- What a call keeps; ranges of numbers. -/
namespace Go.Proofs.YtkkdhmbkpebajaaDoor
set_option linter.unusedVariables false
set_option linter.unusedSimpArgs false
open Go.RowKit

/-! ### what is kept -/
def Kept (w w' : World) : Prop := Below w.heap.size w w'
theorem Kept.refl (w : World) : Kept w w := Below.refl _ _
theorem Kept.trans {a b c : World} (h : Kept a b) (k : Kept b c) : Kept a c := Below.trans h (Below.mono k h.size)
theorem Kept.drew {a b : World} (h : Kept a b) : Kept a b.drew := Below.drew h
theorem Kept.drewN {a b : World} (h : Kept a b) (n : Nat) : Kept a (b.drewN n) := ⟨h.os, h.tape, h.output, h.size, h.block⟩
theorem Kept.alloc {a b : World} (h : Kept a b) (o : Obj) : Kept a (b.alloc o) := Below.alloc h h.size o
theorem Kept.setCell {a b : World} (h : Kept a b) {p : Addr} (hp : a.heap.size ≤ p.block) (u : Value) : Kept a (b.setCell p u) := Below.setCell h hp u
theorem Kept.cell {a b : World} (h : Kept a b) {p : Addr} (hp : p.block < a.heap.size) : b.cell? p = a.cell? p := Below.cell h hp
theorem kept_of {a b : World} (h : a = b) : Kept a b := h ▸ Kept.refl a
theorem ret_int {k : IntKind} {a b : Int} (h : a = b) : Ending.returned (.int k a) = .returned (.int k b) := by rw [h]

/-! ### plain functions -/
def inB (n lo hi : Int) : Bool := decide (lo ≤ n) && decide (n ≤ hi)
theorem inB_true {n lo hi : Int} (h : inB n lo hi = true) : lo ≤ n ∧ n ≤ hi := by simpa [inB] using h
theorem inB_of {n lo hi : Int} (h1 : lo ≤ n) (h2 : n ≤ hi) : inB n lo hi = true := by simp [inB, h1, h2]
theorem ret_bool {a b : Bool} (h : a = b) : Ending.returned (.bool a) = .returned (.bool b) := by rw [h]

/-! ### walks -/
theorem l1In_any (n lo hi : Int) (w : World) :
    Calls Tryd.prog 58 #[.int .i64 n, .int .i64 lo, .int .i64 hi] w fun e w' => e = .returned (.bool (inB n lo hi)) ∧ w = w' := by
  go_enter Tryd.func58, Tryd.ntmps58
  go_wp2
  all_goals
    go_ret
    refine ⟨?_, rfl⟩
    simp [inB]
    try omega
theorem within_any (n lo hi : Int) (w : World) :
    Calls Tryd.prog 43 #[.int .i64 n, .int .i64 lo, .int .i64 hi] w fun e w' => e = .returned (.bool (inB n lo hi)) ∧ w = w' := by
  go_enter Tryd.func43, Tryd.ntmps43
  go_wp2
  all_goals
    go_ret
    refine ⟨?_, rfl⟩
    simp [inB]
    try omega
end Go.Proofs.YtkkdhmbkpebajaaDoor

/- Words for memory: slices that read as lists, rows that the call owns. -/
namespace Go.Proofs.YtkkdhmbkpebajaaDoor
set_option linter.unusedVariables false
set_option linter.unusedSimpArgs false
open Go.RowKit

/-- 'v' is a slice of n elements whose cells read as xs -/
def Seq (w : World) (v : Value) (n : Nat) (xs : List Value) : Prop :=
  ∃ A c, v = .slice A n c ∧ n ≤ c ∧ c ≤ maxLen ∧ (A = none → c = 0) ∧ (0 < n → ∃ b o, A = some ⟨b, o, none⟩ ∧ b < w.heap.size ∧ ∀ j u, xs[j]? = some u → w.cell? ⟨b, o + j, none⟩ = some u)
/-- what the words above give, the slice written out -/
def SeqA (w : World) (A : Option Addr) (n : Nat) (xs : List Value) : Prop :=
  0 < n → ∃ b o, A = some ⟨b, o, none⟩ ∧ b < w.heap.size ∧ ∀ j u, xs[j]? = some u → w.cell? ⟨b, o + j, none⟩ = some u
theorem Seq.out {w : World} {v : Value} {n : Nat} {xs : List Value} (h : Seq w v n xs) : ∃ A c, v = .slice A n c ∧ n ≤ c ∧ c ≤ maxLen ∧ SeqA w A n xs := by
  obtain ⟨A, c, e, h1, h2, _, h3⟩ := h
  exact ⟨A, c, e, h1, h2, h3⟩
theorem SeqA.kept {w w' : World} {A : Option Addr} {n : Nat} {xs : List Value} (h : SeqA w A n xs) (hk : Kept w w') : SeqA w' A n xs := by
  intro hn
  obtain ⟨b, o, e, hb, hc⟩ := h hn
  exact ⟨b, o, e, Nat.lt_of_lt_of_le hb hk.size, fun j u hu => (hk.cell (p := ⟨b, o + j, none⟩) hb).trans (hc j u hu)⟩
theorem Seq.kept {w w' : World} {v : Value} {n : Nat} {xs : List Value} (h : Seq w v n xs) (hk : Kept w w') : Seq w' v n xs := by
  obtain ⟨A, c, e, h1, h2, h0, h3⟩ := h
  exact ⟨A, c, e, h1, h2, h0, SeqA.kept h3 hk⟩
theorem Seq.addr {w : World} {A : Option Addr} {n c : Nat} {xs : List Value} (h : Seq w (.slice A n c) n xs) : SeqA w A n xs := by
  obtain ⟨A', c', e, _, _, _, h3⟩ := h
  injection e with e1
  subst e1
  exact h3
theorem Seq.nil (w : World) : Seq w (.slice none 0 0) 0 [] := ⟨none, 0, rfl, Nat.le_refl _, Nat.zero_le _, fun _ => rfl, fun h => absurd h (by omega)⟩
theorem Seq.of_own {w : World} {base : Nat} {e : TypeId} {size : Nat} {v : Value} {n : Nat} {xs : List Value} (h : w.ownsRow base e size v n xs) : Seq w v n xs := by
  rcases h.2 with ⟨rfl, rfl⟩ | ⟨g, cap, cur, rfl, hb, hg, hnc, hcm, hcs, htake⟩
  · exact ⟨none, 0, rfl, Nat.le_refl _, Nat.zero_le _, fun _ => rfl, fun h => absurd h (by omega)⟩
  · refine ⟨_, cap, rfl, hnc, hcm, (fun h => by cases h), fun _ => ⟨g, 0, rfl, (Array.getElem?_eq_some_iff.1 hg).1, fun j u hu => ?_⟩⟩
    have hj : j < n * size := by
      have := (List.getElem?_eq_some_iff.1 hu).1
      rw [h.1] at this
      exact this
    rw [Nat.zero_add, h.cellAt j hj]
    exact hu
theorem SeqA.at_ {w : World} {A : Option Addr} {n : Nat} {xs : List Value} {j : Nat} {u : Value} (h : SeqA w A n xs) (hn : 0 < n) (hu : xs[j]? = some u) :
    ∃ b o, A = some ⟨b, o, none⟩ ∧ b < w.heap.size ∧ w.cell? ⟨b, o + j, none⟩ = some u := by
  obtain ⟨b, o, e, hb, hc⟩ := h hn
  exact ⟨b, o, e, hb, hc j u hu⟩

def Ints (w : World) (v : Value) (zs : List Int) : Prop := Seq w v zs.length (zs.map (Value.int .i64))
def OwnI (w : World) (base : Nat) (v : Value) (zs : List Int) : Prop := w.ownsRow base 3 1 v zs.length (zs.map (Value.int .i64))
theorem Ints.kept {w w' : World} {v : Value} {zs : List Int} (h : Ints w v zs) (hk : Kept w w') : Ints w' v zs := Seq.kept h hk
theorem OwnI.ints {w : World} {base : Nat} {v : Value} {zs : List Int} (h : OwnI w base v zs) : Ints w v zs := Seq.of_own h
theorem ints_at {w : World} {A : Option Addr} {zs : List Int} (h : SeqA w A zs.length (zs.map (Value.int .i64))) {k : Nat} (hk : k < zs.length) :
    ∃ b o z, A = some ⟨b, o, none⟩ ∧ b < w.heap.size ∧ zs[k]? = some z ∧ w.cell? ⟨b, o + k, none⟩ = some (.int .i64 z) := by
  have hz : zs[k]? = some zs[k] := List.getElem?_eq_getElem hk
  obtain ⟨b, o, e, hb, hc⟩ := h.at_ (j := k) (u := .int .i64 zs[k]) (by omega) (by rw [List.getElem?_map, hz]; rfl)
  exact ⟨b, o, _, e, hb, hz, hc⟩

theorem take_snoc {α : Type} {l : List α} {k : Nat} {x : α} (h : l[k]? = some x) : l.take (k + 1) = l.take k ++ [x] := by
  rw [List.take_add_one, h]; rfl
theorem all_snoc {α : Type} {l : List α} {k : Nat} {x : α} {p : α → Bool} (h : l[k]? = some x) (ha : (l.take k).all p = true) (hx : p x = true) : (l.take (k + 1)).all p = true := by
  rw [take_snoc h, List.all_append, ha]; simp [hx]
theorem all_not {α : Type} {l : List α} {k : Nat} {x : α} {p : α → Bool} (h : l[k]? = some x) (hx : p x = false) : l.all p = false := by
  rw [List.all_eq_false]
  obtain ⟨hk, e⟩ := List.getElem?_eq_some_iff.1 h
  exact ⟨x, by rw [← e]; exact List.getElem_mem hk, by simp [hx]⟩
theorem all_full {α : Type} {l : List α} {k : Nat} {p : α → Bool} (hk : l.length ≤ k) (ha : (l.take k).all p = true) : l.all p = true := by
  rwa [List.take_of_length_le hk] at ha

theorem info_int : (Tryd.prog.info? 3).map (fun i => (i.zero, i.size, i.bytes)) = some (some (.int .i64 0), 1, 8) := by kernel_rfl

theorem own_at {w : World} {base : Nat} {e : TypeId} {size n cap g : Nat} {xs : List Value} (h : w.ownsRow base e size (.slice (some ⟨g, 0, none⟩) n cap) n xs) {j : Nat} (hj : j < n * size) :
    ∃ u, xs[j]? = some u ∧ w.cell? ⟨g, j, none⟩ = some u ∧ w.frozen? ⟨g, j, none⟩ = false := by
  have hx : xs[j]? = some (xs[j]'(by rw [h.1]; exact hj)) := List.getElem?_eq_getElem _
  exact ⟨_, hx, (h.cellAt j hj).trans hx, h.frozenAt j⟩
theorem set_take {α : Type} {xs ys : List α} {k : Nat} {u : α} (hk : k < xs.length) (ht : xs.take k = ys.take k) (hu : ys[k]? = some u) : (xs.set k u).take (k + 1) = ys.take (k + 1) := by
  rw [take_snoc hu, ← ht, take_snoc (x := u) (by rw [List.getElem?_set_self hk])]
  congr 1
  rw [List.take_set_of_le (Nat.le_refl k)]
theorem take_full {α : Type} {xs ys : List α} {n : Nat} (h1 : xs.length = n) (h2 : ys.length = n) (ht : xs.take n = ys.take n) : xs = ys := by
  rwa [List.take_of_length_le (by omega), List.take_of_length_le (by omega)] at ht

theorem eqIntS_any (v1 v2 : Value) (zs ys : List Int) (w : World) (h1 : Ints w v1 zs) (h2 : Ints w v2 ys) :
    Calls Tryd.prog 47 #[v1, v2] w fun e w' => e = .returned (.bool (decide (zs = ys))) ∧ Kept w w' := by
  obtain ⟨A, c, rfl, hnc, hcm, hl⟩ := h1.out
  obtain ⟨A2, c2, rfl, hnc2, hcm2, hl2⟩ := h2.out
  unfold maxLen at hcm hcm2
  have HL := Lib.hid hl
  have HL2 := Lib.hid hl2
  clear hl h1 hl2 h2
  by_cases hlen : zs.length = ys.length
  · have hne : ((zs.length : Int) != (ys.length : Int)) = false := by simp [hlen]
    have HN := Lib.hid hlen
    clear hlen
    go_enter Tryd.func47, Tryd.ntmps47
    go_wp2
    go_loopw [5] (fun i wr => ∃ k : Nat, k ≤ zs.length ∧ i = .int .i64 k ∧ zs.take k = ys.take k ∧ Kept w wr) (fun i _ => zs.length - (intOf i).toNat)
    case atStart => exact ⟨0, Nat.zero_le _, rfl, rfl, Kept.refl _⟩
    case round =>
      obtain ⟨k, hk, rfl, ht, hkept⟩ := hrel
      have HT := Lib.hid ht
      clear ht
      by_cases hlt : k < zs.length
      · have hlt2 : k < ys.length := by rw [← HN.out]; exact hlt
        obtain ⟨b, o, z, rfl, hb, hz, hc⟩ := ints_at (HL.out.kept hkept) hlt
        obtain ⟨b2, o2, z2, rfl, hb2, hz2, hc2⟩ := ints_at (HL2.out.kept hkept) hlt2
        have HZ := Lib.hid hz
        have HZ2 := Lib.hid hz2
        clear hz hz2
        go_wp2
        go_quiet (fail)
        go_wp2
        · have hzz : (z != z2) = true := by assumption
          go_ret
          refine ⟨?_, hkept.drewN _⟩
          have : ¬ zs = ys := fun e => by
            have e1 := HZ.out
            rw [e, HZ2.out] at e1
            simp at e1
            simp [e1] at hzz
          simp [this]
        · have hzz : (z != z2) = false := by assumption
          go_roundw
          case rel =>
            refine ⟨k + 1, by omega, by go_num, ?_, hkept.drewN _⟩
            have : z = z2 := by simpa using hzz
            subst this
            rw [take_snoc HZ.out, take_snoc HZ2.out, HT.out]
          case measure => simp [intOf]; omega
      · obtain rfl : k = zs.length := by omega
        go_wp2
        go_ret
        have e := take_full rfl HN.out.symm HT.out
        exact ⟨by simp [e], hkept⟩
  · have hne : ((zs.length : Int) != (ys.length : Int)) = true := by simp; omega
    have hz : ¬ zs = ys := fun e => hlen (by rw [e])
    have HZ := Lib.hid hz
    clear hz
    go_enter Tryd.func47, Tryd.ntmps47
    go_wp2
    go_ret
    exact ⟨by simp [HZ.out], Kept.refl _⟩
theorem l1All_any (v : Value) (zs : List Int) (lo hi : Int) (w : World) (h : Ints w v zs) :
    Calls Tryd.prog 59 #[v, .int .i64 lo, .int .i64 hi] w fun e w' => e = .returned (.bool (zs.all (inB · lo hi))) ∧ w = w' := by
  obtain ⟨A, c, rfl, hnc, hcm, hl⟩ := h.out
  unfold maxLen at hcm
  have HL := Lib.hid hl
  clear hl h
  go_enter Tryd.func59, Tryd.ntmps59
  go_wp2
  go_loop [11] (fun i => ∃ k : Nat, k ≤ zs.length ∧ i = .int .i64 k ∧ (zs.take k).all (inB · lo hi) = true) (fun i => zs.length - (intOf i).toNat)
  case atStart => exact ⟨0, Nat.zero_le _, rfl, rfl⟩
  case round =>
    obtain ⟨k, hk, rfl, ha⟩ := hrel
    have HA := Lib.hid ha
    clear ha
    by_cases hlt : k < zs.length
    · obtain ⟨b, o, z, rfl, hb, hz, hc⟩ := ints_at HL.out hlt
      have HZ := Lib.hid hz
      clear hz
      go_wp2_with (go_at_call 58; refine (l1In_any _ _ _ _).mono ?_; rintro e w' ⟨rfl, rfl⟩)
      · have hx : (!inB z lo hi) = true := by assumption
        go_ret
        exact ⟨ret_bool (all_not (p := (inB · lo hi)) HZ.out (by simpa using hx)).symm, rfl⟩
      · have hx : (!inB z lo hi) = false := by assumption
        go_round
        case rel => exact ⟨k + 1, by omega, by go_num, all_snoc HZ.out HA.out (by simpa using hx)⟩
        case measure => simp [intOf]; omega
    · go_wp2
      go_ret
      exact ⟨ret_bool (all_full (by omega) HA.out).symm, rfl⟩
theorem allWithin_any (v : Value) (zs : List Int) (lo hi : Int) (w : World) (h : Ints w v zs) :
    Calls Tryd.prog 63 #[v, .int .i64 lo, .int .i64 hi] w fun e w' => e = .returned (.bool (zs.all (inB · lo hi))) ∧ w = w' := by
  obtain ⟨A, c, rfl, hnc, hcm, hl⟩ := h.out
  unfold maxLen at hcm
  have HL := Lib.hid hl
  clear hl h
  go_enter Tryd.func63, Tryd.ntmps63
  go_wp2
  go_loop [11] (fun i => ∃ k : Nat, k ≤ zs.length ∧ i = .int .i64 k ∧ (zs.take k).all (inB · lo hi) = true) (fun i => zs.length - (intOf i).toNat)
  case atStart => exact ⟨0, Nat.zero_le _, rfl, rfl⟩
  case round =>
    obtain ⟨k, hk, rfl, ha⟩ := hrel
    have HA := Lib.hid ha
    clear ha
    by_cases hlt : k < zs.length
    · obtain ⟨b, o, z, rfl, hb, hz, hc⟩ := ints_at HL.out hlt
      have HZ := Lib.hid hz
      clear hz
      go_wp2_with (go_at_call 43; refine (within_any _ _ _ _).mono ?_; rintro e w' ⟨rfl, rfl⟩)
      · have hx : (!inB z lo hi) = true := by assumption
        go_ret
        exact ⟨ret_bool (all_not (p := (inB · lo hi)) HZ.out (by simpa using hx)).symm, rfl⟩
      · have hx : (!inB z lo hi) = false := by assumption
        go_round
        case rel => exact ⟨k + 1, by omega, by go_num, all_snoc HZ.out HA.out (by simpa using hx)⟩
        case measure => simp [intOf]; omega
    · go_wp2
      go_ret
      exact ⟨ret_bool (all_full (by omega) HA.out).symm, rfl⟩
end Go.Proofs.YtkkdhmbkpebajaaDoor

/- Names: contracts of the functions that look at a string's bytes. -/
namespace Go.Proofs.YtkkdhmbkpebajaaDoor
set_option linter.unusedVariables false
set_option linter.unusedSimpArgs false
open Go.RowKit

theorem str_ext {a b : ByteArray} (h : a.toList = b.toList) : a = b := by
  rw [ByteArray.toList_eq, ByteArray.toList_eq] at h
  obtain ⟨a⟩ := a
  obtain ⟨b⟩ := b
  congr 1
  exact Array.ext' h
def nmB (c : UInt8) : Bool := (decide (65 ≤ c.toNat) && decide (c.toNat ≤ 90)) || (decide (48 ≤ c.toNat) && decide (c.toNat ≤ 57))
def nameB (s : ByteArray) : Bool := s.data.toList.all nmB && inB s.size 1 5
theorem byte_get (s : ByteArray) (k : Nat) (h : k < s.size) : s.data.toList[k]? = some s[k] := by
  rw [List.getElem?_eq_getElem (by simpa using h)]
  rfl
theorem byte_cases (c : Nat) : c < 48 ∨ (48 ≤ c ∧ c ≤ 57) ∨ (57 < c ∧ c < 65) ∨ (65 ≤ c ∧ c ≤ 90) ∨ 90 < c := by omega

set_option maxHeartbeats 1000000 in
theorem isElementName_any (s : ByteArray) (w : World) (hs : s.size ≤ maxLen) :
    Calls Tryd.prog 68 #[.string s] w fun e w' => e = .returned (.bool (nameB s)) ∧ w = w' := by
  unfold maxLen at hs
  go_enter Tryd.func68, Tryd.ntmps68
  go_wp2
  go_loop [3] (fun i => ∃ k : Nat, k ≤ s.size ∧ i = .int .i64 k ∧ (s.data.toList.take k).all nmB = true) (fun i => s.size - (intOf i).toNat)
  case atStart => exact ⟨0, Nat.zero_le _, rfl, rfl⟩
  case round =>
    obtain ⟨k, hk, rfl, ha⟩ := hrel
    have HA := Lib.hid ha
    clear ha
    by_cases hlt : k < s.size
    · have HZ := Lib.hid (byte_get s k hlt)
      have hlt' : (k : Int) < (s.size : Int) := by omega
      rcases byte_cases s[k].toNat with hc | hc | hc | hc | hc
      all_goals
        go_wp2
        first
          | (go_ret
             exact ⟨ret_bool (by unfold nameB; rw [all_not HZ.out (by unfold nmB; simp; omega)]; rfl), rfl⟩)
          | (go_round
             case rel => exact ⟨k + 1, by omega, by go_num, all_snoc HZ.out HA.out (by unfold nmB; simp; omega)⟩
             case measure => simp [intOf]; omega)
    · go_wp2_with (go_at_call 43; refine (within_any _ _ _ _).mono ?_; rintro e w' ⟨rfl, rfl⟩)
      go_ret
      exact ⟨ret_bool (by unfold nameB; rw [all_full (by simp; omega) HA.out]; simp), rfl⟩
set_option maxHeartbeats 1000000 in
theorem cdName_any (s : ByteArray) (w : World) (hs : s.size ≤ maxLen) :
    Calls Tryd.prog 76 #[.string s] w fun e w' => e = .returned (.bool (nameB s)) ∧ w = w' := by
  unfold maxLen at hs
  go_enter Tryd.func76, Tryd.ntmps76
  go_wp2
  go_loop [3] (fun i => ∃ k : Nat, k ≤ s.size ∧ i = .int .i64 k ∧ (s.data.toList.take k).all nmB = true) (fun i => s.size - (intOf i).toNat)
  case atStart => exact ⟨0, Nat.zero_le _, rfl, rfl⟩
  case round =>
    obtain ⟨k, hk, rfl, ha⟩ := hrel
    have HA := Lib.hid ha
    clear ha
    by_cases hlt : k < s.size
    · have HZ := Lib.hid (byte_get s k hlt)
      have hlt' : (k : Int) < (s.size : Int) := by omega
      rcases byte_cases s[k].toNat with hc | hc | hc | hc | hc
      all_goals
        go_wp2
        first
          | (go_ret
             exact ⟨ret_bool (by unfold nameB; rw [all_not HZ.out (by unfold nmB; simp; omega)]; rfl), rfl⟩)
          | (go_round
             case rel => exact ⟨k + 1, by omega, by go_num, all_snoc HZ.out HA.out (by unfold nmB; simp; omega)⟩
             case measure => simp [intOf]; omega)
    · go_wp2_with (go_at_call 58; refine (l1In_any _ _ _ _).mono ?_; rintro e w' ⟨rfl, rfl⟩)
      go_ret
      exact ⟨ret_bool (by unfold nameB; rw [all_full (by simp; omega) HA.out]; simp), rfl⟩
theorem itByte_any (c : UInt8) (w : World) :
    Calls Tryd.prog 54 #[.int .u8 c.toNat] w fun e w' => e = .returned (.bool (nmB c)) ∧ w = w' := by
  rcases byte_cases c.toNat with hc | hc | hc | hc | hc
  all_goals
    go_enter Tryd.func54, Tryd.ntmps54
    go_wp2
    go_ret
    refine ⟨?_, rfl⟩
    simp [nmB]
    try first | omega | (rw [Bool.eq_iff_iff]; simp; omega)
set_option maxHeartbeats 1000000 in
theorem itName_any (s : ByteArray) (w : World) (hs : s.size ≤ maxLen) :
    Calls Tryd.prog 57 #[.string s] w fun e w' => e = .returned (.bool (nameB s)) ∧ w = w' := by
  unfold maxLen at hs
  go_enter Tryd.func57, Tryd.ntmps57
  go_wp2
  go_loop [3] (fun i => ∃ k : Nat, k ≤ s.size ∧ i = .int .i64 k ∧ (s.data.toList.take k).all nmB = true) (fun i => s.size - (intOf i).toNat)
  case atStart => exact ⟨0, Nat.zero_le _, rfl, rfl⟩
  case round =>
    obtain ⟨k, hk, rfl, ha⟩ := hrel
    have HA := Lib.hid ha
    clear ha
    by_cases hlt : k < s.size
    · have HZ := Lib.hid (byte_get s k hlt)
      have hlt' : (k : Int) < (s.size : Int) := by omega
      by_cases hn : nmB s[k] = true
      all_goals
        try simp only [Bool.not_eq_true] at hn
        go_wp2_with (go_at_call 54; refine (itByte_any _ _).mono ?_; rintro e w' ⟨rfl, rfl⟩)
        first
          | (go_ret
             exact ⟨ret_bool (by unfold nameB; rw [all_not HZ.out hn]; rfl), rfl⟩)
          | (go_round
             case rel => exact ⟨k + 1, by omega, by go_num, all_snoc HZ.out HA.out hn⟩
             case measure => simp [intOf]; omega)
    · go_wp2_with (go_at_call 58; refine (l1In_any _ _ _ _).mono ?_; rintro e w' ⟨rfl, rfl⟩)
      go_ret
      exact ⟨ret_bool (by unfold nameB; rw [all_full (by simp; omega) HA.out]; simp), rfl⟩
theorem isName_any (s : ByteArray) (w : World) (hs : s.size ≤ maxLen) :
    Calls Tryd.prog 53 #[.string s] w fun e w' => e = .returned (.bool (nameB s)) ∧ w = w' := by
  go_enter Tryd.func53, Tryd.ntmps53
  go_wp2_with (go_at_call 68; refine (isElementName_any _ _ hs).mono ?_; rintro e w' ⟨rfl, rfl⟩)
  go_ret
  exact ⟨rfl, rfl⟩
end Go.Proofs.YtkkdhmbkpebajaaDoor

/- Texts, plain: the two readers of a text of a list, byte by byte. -/
namespace Go.Proofs.YtkkdhmbkpebajaaDoor
set_option linter.unusedVariables false
set_option linter.unusedSimpArgs false
set_option linter.unnecessarySimpa false

structure StS where
  at_ : Int
  names : Int
  bytes : Int
  lines : Int
structure StI where
  items : Int
  names : Int
  chars : Int
  stage : Int
def stepS (x : StS) (c : UInt8) : Option StS :=
  if (x.at_ = 0 ∨ x.at_ = 1) ∧ nmB c = true then (if x.at_ = 0 ∧ x.lines = 14 then none else some { x with at_ := 2, names := x.names + 1, bytes := 1 })
  else if x.at_ = 2 ∧ nmB c = true ∧ x.bytes < 5 then some { x with bytes := x.bytes + 1 }
  else if x.at_ = 2 ∧ (c.toNat = 60 ∨ c.toNat = 101 ∨ c.toNat = 42) then some { x with at_ := 3 }
  else if (x.at_ = 2 ∨ x.at_ = 3) ∧ c.toNat = 43 ∧ x.names < 3 then some { x with at_ := 1 }
  else if (x.at_ = 2 ∨ x.at_ = 3) ∧ c.toNat = 32 then some { x with at_ := 4 }
  else if x.at_ = 4 ∧ c.toNat = 120 then some { x with at_ := 5 }
  else if (x.at_ = 2 ∨ x.at_ = 3 ∨ x.at_ = 5) ∧ c.toNat = 10 then some { x with at_ := 0, names := 0, lines := x.lines + 1 }
  else none
def stepI (r : StI) (c : UInt8) : Option StI :=
  if r.stage = 2 then (if c.toNat = 120 then some { r with stage := 3 } else none)
  else if r.stage = 0 ∧ nmB c = true then (if r.chars + 1 ≤ 5 ∧ r.items < 14 then some { r with names := if r.names = 0 then 1 else r.names, chars := r.chars + 1 } else none)
  else if r.chars = 0 then none
  else if c.toNat = 10 then some ⟨r.items + 1, 0, 0, 0⟩
  else if r.stage = 3 then none
  else if c.toNat = 32 then some { r with stage := 2 }
  else if c.toNat = 43 then (if r.names + 1 ≤ 3 then some { r with names := r.names + 1, chars := 0, stage := 0 } else none)
  else if c.toNat = 60 ∨ c.toNat = 101 ∨ c.toNat = 42 then (if r.stage = 0 then some { r with stage := 1 } else none)
  else none
def nextP (p : Int × Int) (c : UInt8) : Int × Int := if c.toNat = 10 then (p.1 + 1, 1) else (p.1, p.2 + 1)
def posS : StS → List UInt8 → Int × Int → Int × Int
  | _, [], p => p
  | x, c :: l, p => match stepS x c with
    | none => p
    | some x' => posS x' l (nextP p c)
def posI : StI → List UInt8 → Int × Int → Int × Int
  | _, [], p => p
  | x, c :: l, p => match stepI x c with
    | none => p
    | some x' => posI x' l (nextP p c)
structure Alike (x : StS) (r : StI) : Prop where
  lines : x.lines = r.items
  lo : 0 ≤ r.items
  hi : r.items ≤ 14
  on : (x.at_ = 0 ∧ x.names = 0 ∧ r.names = 0 ∧ r.chars = 0 ∧ r.stage = 0) ∨
    (x.at_ = 1 ∧ r.names = x.names + 1 ∧ 1 ≤ x.names ∧ x.names ≤ 2 ∧ r.chars = 0 ∧ r.stage = 0 ∧ r.items < 14) ∨
    (x.at_ = 2 ∧ r.names = x.names ∧ 1 ≤ x.names ∧ x.names ≤ 3 ∧ r.chars = x.bytes ∧ 1 ≤ x.bytes ∧ x.bytes ≤ 5 ∧ r.stage = 0 ∧ r.items < 14) ∨
    (x.at_ = 3 ∧ r.names = x.names ∧ 1 ≤ x.names ∧ x.names ≤ 3 ∧ 1 ≤ r.chars ∧ r.stage = 1 ∧ r.items < 14) ∨
    (x.at_ = 4 ∧ r.stage = 2 ∧ 1 ≤ r.chars ∧ r.items < 14) ∨ (x.at_ = 5 ∧ r.stage = 3 ∧ 1 ≤ r.chars ∧ r.items < 14)
theorem nmB_nat {c : UInt8} (h : nmB c = true) : (65 ≤ c.toNat ∧ c.toNat ≤ 90) ∨ (48 ≤ c.toNat ∧ c.toNat ≤ 57) := by
  unfold nmB at h
  simpa using h
/-- What one step does. -/
def BothStep (x : Option StS) (r : Option StI) : Prop := (x = none ∧ r = none) ∨ ∃ x' r', x = some x' ∧ r = some r' ∧ Alike x' r'
theorem alike_step {x : StS} {r : StI} (h : Alike x r) (c : UInt8) : BothStep (stepS x c) (stepI r c) := by
  obtain ⟨hl, lo, hi, on⟩ := h
  obtain ⟨at_, names, bytes, lines⟩ := x
  obtain ⟨items, rn, chars, stage⟩ := r
  simp only at hl lo hi on
  subst hl
  have hN : nmB c = true → (65 ≤ c.toNat ∧ c.toNat ≤ 90) ∨ (48 ≤ c.toNat ∧ c.toNat ≤ 57) := nmB_nat
  rcases on with ⟨rfl, rfl, rfl, rfl, rfl⟩ | ⟨rfl, rfl, a, b, rfl, rfl, d⟩ | ⟨rfl, rfl, a, b, rfl, e, f, rfl, d⟩ | ⟨rfl, rfl, a, b, e, rfl, d⟩ | ⟨rfl, rfl, e, d⟩ | ⟨rfl, rfl, e, d⟩
  · by_cases hn : nmB c = true
    · by_cases h14 : lines = 14
      · exact .inl ⟨by simp [stepS, hn, h14], by simp [stepI, hn, h14]⟩
      · exact .inr ⟨_, _, by simp [stepS, hn, h14]; rfl, by simp [stepI, hn, show lines < 14 by omega]; rfl, ⟨rfl, lo, hi, by simp; omega⟩⟩
    · exact .inl ⟨by simp [stepS, hn], by simp [stepI, hn]⟩
  · by_cases hn : nmB c = true
    · exact .inr ⟨_, _, by simp [stepS, hn]; rfl, by simp [stepI, hn, d]; rfl, ⟨rfl, lo, hi, by simp; omega⟩⟩
    · exact .inl ⟨by simp [stepS, hn], by simp [stepI, hn]⟩
  · by_cases hn : nmB c = true
    · have hv := hN hn
      by_cases h5 : chars < 5
      · exact .inr ⟨_, _, by simp [stepS, hn, h5]; rfl, by simp [stepI, hn, d, show chars + 1 ≤ 5 by omega]; rfl, ⟨rfl, lo, hi, by simp; omega⟩⟩
      · exact .inl ⟨by simp [stepS, hn, h5, show ¬ c.toNat = 60 by omega, show ¬ c.toNat = 101 by omega, show ¬ c.toNat = 42 by omega, show ¬ c.toNat = 43 by omega, show ¬ c.toNat = 32 by omega, show ¬ c.toNat = 10 by omega], by simp [stepI, hn]; omega⟩
    · by_cases hs : c.toNat = 60 ∨ c.toNat = 101 ∨ c.toNat = 42
      · exact .inr ⟨_, _, by simp [stepS, hn, hs]; rfl, by simp [stepI, hn, hs, show ¬ chars = 0 by omega, show ¬ c.toNat = 10 by omega, show ¬ c.toNat = 32 by omega, show ¬ c.toNat = 43 by omega]; rfl, ⟨rfl, lo, hi, by simp; omega⟩⟩
      · by_cases h43 : c.toNat = 43
        · by_cases h3 : rn < 3
          · exact .inr ⟨_, _, by simp [stepS, hn, h43, h3]; rfl, by simp [stepI, hn, h43, show ¬ chars = 0 by omega, show rn + 1 ≤ 3 by omega]; rfl, ⟨rfl, lo, hi, by simp; omega⟩⟩
          · exact .inl ⟨by simp [stepS, hn, h43, h3], by simp [stepI, hn, h43]; omega⟩
        · by_cases h32 : c.toNat = 32
          · exact .inr ⟨_, _, by simp [stepS, hn, h32]; rfl, by simp [stepI, hn, h32, show ¬ chars = 0 by omega]; rfl, ⟨rfl, lo, hi, by simp; omega⟩⟩
          · by_cases h10 : c.toNat = 10
            · exact .inr ⟨_, _, by simp [stepS, hn, h10]; rfl, by simp [stepI, hn, h10, show ¬ chars = 0 by omega]; rfl, ⟨rfl, by simp; omega, by simp; omega, by simp⟩⟩
            · exact .inl ⟨by simp [stepS, hn, hs, h43, h32, h10], by simp [stepI, hn, hs, h43, h32, h10]⟩
  · by_cases h43 : c.toNat = 43
    · have hn : ¬ nmB c = true := fun hn => by have := hN hn; omega
      by_cases h3 : rn < 3
      · exact .inr ⟨_, _, by simp [stepS, h43, h3]; rfl, by simp [stepI, h43, show ¬ chars = 0 by omega, show rn + 1 ≤ 3 by omega]; rfl, ⟨rfl, lo, hi, by simp; omega⟩⟩
      · exact .inl ⟨by simp [stepS, h43, h3], by simp [stepI, h43]; omega⟩
    · by_cases h32 : c.toNat = 32
      · exact .inr ⟨_, _, by simp [stepS, h32]; rfl, by simp [stepI, h32, show ¬ chars = 0 by omega]; rfl, ⟨rfl, lo, hi, by simp; omega⟩⟩
      · by_cases h10 : c.toNat = 10
        · exact .inr ⟨_, _, by simp [stepS, h10]; rfl, by simp [stepI, h10, show ¬ chars = 0 by omega]; rfl, ⟨rfl, by simp; omega, by simp; omega, by simp⟩⟩
        · exact .inl ⟨by simp [stepS, h43, h32, h10], by simp [stepI, h43, h32, h10]⟩
  · by_cases h : c.toNat = 120
    · exact .inr ⟨_, _, by simp [stepS, h]; rfl, by simp [stepI, h]; rfl, ⟨rfl, lo, hi, by simp; omega⟩⟩
    · exact .inl ⟨by simp [stepS, h], by simp [stepI, h]⟩
  · by_cases h : c.toNat = 10
    · exact .inr ⟨_, _, by simp [stepS, h]; rfl, by simp [stepI, h, show ¬ chars = 0 by omega]; rfl, ⟨rfl, by simp; omega, by simp; omega, by simp⟩⟩
    · exact .inl ⟨by simp [stepS, h], by simp [stepI, h]⟩
theorem alike_pos : ∀ (l : List UInt8) {x : StS} {r : StI} (p : Int × Int), Alike x r → posI r l p = posS x l p
  | [], _, _, _, _ => rfl
  | c :: l, x, r, p, h => by
    unfold posI posS
    rcases alike_step h c with ⟨e1, e2⟩ | ⟨x', r', e1, e2, h'⟩
    · rw [e1, e2]
    · rw [e1, e2]
      exact alike_pos l _ h'
theorem alike_start : Alike ⟨0, 0, 0, 0⟩ ⟨0, 0, 0, 0⟩ := ⟨rfl, by decide, by decide, .inl ⟨rfl, rfl, rfl, rfl, rfl⟩⟩
def wrongP (l : List UInt8) : Int × Int := posS ⟨0, 0, 0, 0⟩ l (1, 1)
theorem wrongP_I (l : List UInt8) : posI ⟨0, 0, 0, 0⟩ l (1, 1) = wrongP l := alike_pos l _ alike_start
end Go.Proofs.YtkkdhmbkpebajaaDoor

/- Texts, plain: splitting at a byte, joining, numerals. -/
namespace Go.Proofs.YtkkdhmbkpebajaaDoor
set_option linter.unnecessarySimpa false
open Go.Lib
set_option linter.unusedVariables false
set_option linter.unusedSimpArgs false

/-! ### splitting -/
def splitOn (b : UInt8) : List UInt8 → List (List UInt8)
  | [] => [[]]
  | c :: r => if c = b then [] :: splitOn b r else match splitOn b r with
    | [] => [[c]]
    | h :: t => (c :: h) :: t
def prep (p : List UInt8) : List (List UInt8) → List (List UInt8)
  | [] => [p]
  | h :: t => (p ++ h) :: t
theorem splitOn_ne (b : UInt8) (l : List UInt8) : splitOn b l ≠ [] := by
  cases l with
  | nil => simp [splitOn]
  | cons c r =>
    unfold splitOn
    split
    · simp
    · split <;> simp
theorem prep_nil {L : List (List UInt8)} (h : L ≠ []) : prep [] L = L := by
  cases L with
  | nil => exact absurd rfl h
  | cons x t => simp [prep]
theorem splitOn_cons_ne {b c : UInt8} (h : c ≠ b) (r : List UInt8) : splitOn b (c :: r) = prep [c] (splitOn b r) := by
  rw [splitOn, if_neg h]
  cases hs : splitOn b r with
  | nil => rfl
  | cons x t => rfl
theorem splitOn_cons_eq (b : UInt8) (r : List UInt8) : splitOn b (b :: r) = [] :: splitOn b r := by
  rw [splitOn, if_pos rfl]
theorem prep_prep (p q : List UInt8) (L : List (List UInt8)) : prep p (prep q L) = prep (p ++ q) L := by
  cases L <;> simp [prep]
theorem splitOn_pre {b : UInt8} : ∀ {p : List UInt8}, b ∉ p → ∀ l, splitOn b (p ++ l) = prep p (splitOn b l)
  | [], _, l => by rw [List.nil_append, prep_nil (splitOn_ne _ _)]
  | c :: p, h, l => by
    have h1 : c ≠ b := fun e => h (by simp [e])
    have h2 : b ∉ p := fun e => h (by simp [e])
    rw [List.cons_append, splitOn_cons_ne h1, splitOn_pre h2, prep_prep]
    rfl
theorem splitOn_none {b : UInt8} {p : List UInt8} (h : b ∉ p) : splitOn b p = [p] := by
  have := splitOn_pre h []
  rw [List.append_nil] at this
  rw [this]
  simp [splitOn, prep]
theorem splitOn_hit {b : UInt8} {p : List UInt8} (h : b ∉ p) (l : List UInt8) : splitOn b (p ++ b :: l) = p :: splitOn b l := by
  rw [splitOn_pre h, splitOn_cons_eq]
  simp [prep]
theorem splitOn_snoc (b : UInt8) (p : List UInt8) : splitOn b (p ++ [b]) = splitOn b p ++ [[]] := by
  induction p with
  | nil => simp [splitOn]
  | cons c p ih =>
    by_cases h : c = b
    · subst h
      rw [List.cons_append, splitOn_cons_eq, splitOn_cons_eq, ih]
      rfl
    · rw [List.cons_append, splitOn_cons_ne h, splitOn_cons_ne h, ih]
      cases hs : splitOn b p with
      | nil => exact absurd hs (splitOn_ne _ _)
      | cons x t => rfl
theorem splitOn_last {b : UInt8} {p : List UInt8} {c : UInt8} (h : c ≠ b) : ∃ L x, splitOn b (p ++ [c]) = L ++ [x ++ [c]] := by
  induction p with
  | nil => exact ⟨[], [], by simp [splitOn, h]⟩
  | cons d p ih =>
    obtain ⟨L, x, e⟩ := ih
    by_cases hd : d = b
    · subst hd
      exact ⟨[] :: L, x, by rw [List.cons_append, splitOn_cons_eq, e]; rfl⟩
    · cases L with
      | nil => exact ⟨[], d :: x, by rw [List.cons_append, splitOn_cons_ne hd, e]; rfl⟩
      | cons y L => exact ⟨(d :: y) :: L, x, by rw [List.cons_append, splitOn_cons_ne hd, e]; rfl⟩
theorem splitOn_join (b : UInt8) (l : List UInt8) : join (splitOn b l) [b] = l := by
  induction l with
  | nil => rfl
  | cons c r ih =>
    by_cases h : c = b
    · subst h
      rw [splitOn_cons_eq, join_cons]
      cases hs : splitOn c r with
      | nil => exact absurd hs (splitOn_ne _ _)
      | cons x t =>
        rw [hs, join_cons] at ih
        have e : joinTail [c] (x :: t) = [c] ++ x ++ joinTail [c] t := by simp [joinTail]
        rw [e, List.append_assoc, ih]
        rfl
    · rw [splitOn_cons_ne h]
      cases hs : splitOn b r with
      | nil => exact absurd hs (splitOn_ne _ _)
      | cons x t =>
        rw [hs, join_cons] at ih
        rw [prep, join_cons, ← ih]
        rfl
theorem splitOn_mem {b : UInt8} : ∀ {l : List UInt8} {x : List UInt8}, x ∈ splitOn b l → b ∉ x
  | [], x, h => by simp [splitOn] at h; simp [h]
  | c :: r, x, h => by
    by_cases hc : c = b
    · subst hc
      rw [splitOn_cons_eq] at h
      rcases List.mem_cons.1 h with e | e
      · simp [e]
      · exact splitOn_mem e
    · rw [splitOn_cons_ne hc] at h
      cases hs : splitOn b r with
      | nil => exact absurd hs (splitOn_ne _ _)
      | cons y t =>
        rw [hs, prep] at h
        rcases List.mem_cons.1 h with e | e
        · have : b ∉ y := splitOn_mem (l := r) (by rw [hs]; exact List.mem_cons_self)
          subst e
          simp [this, Ne.symm hc]
        · exact splitOn_mem (l := r) (by rw [hs]; exact List.mem_cons_of_mem _ e)
/-- Words without the byte, joined by it, split into themselves. -/
theorem splitOn_of_join {b : UInt8} : ∀ {L : List (List UInt8)}, L ≠ [] → (∀ x ∈ L, b ∉ x) → splitOn b (join L [b]) = L
  | [], h, _ => absurd rfl h
  | [x], _, h => by rw [join_one]; exact splitOn_none (h x (by simp))
  | x :: y :: t, _, h => by
    have e : join (x :: y :: t) [b] = x ++ b :: join (y :: t) [b] := by
      rw [join_cons, join_cons]
      simp [joinTail]
    rw [e, splitOn_hit (h x (by simp)), splitOn_of_join (by simp) (fun z hz => h z (List.mem_cons_of_mem _ hz))]

theorem index_one (b : UInt8) (s : List UInt8) : (index s [b] = -1 ∧ b ∉ s) ∨ ∃ i : Nat, index s [b] = i ∧ i < s.length ∧ b ∉ s.take i ∧ s = s.take i ++ b :: s.drop (i + 1) := by
  rcases index_spec s [b] with ⟨h, hn⟩ | ⟨i, h, hi, ho, hn⟩
  · refine .inl ⟨h, fun hm => ?_⟩
    obtain ⟨j, hj⟩ := List.getElem?_of_mem hm
    have hlt := (List.getElem?_eq_some_iff.1 hj).1
    have := hn j (by omega)
    unfold occAt at this
    rw [List.drop_eq_getElem_cons hlt] at this
    have e := (List.getElem?_eq_some_iff.1 hj).2
    simp [List.isPrefixOf, e] at this
  · have hh := occAt_head (t := []) rfl ho
    obtain ⟨hlt, e⟩ := List.getElem?_eq_some_iff.1 hh
    refine .inr ⟨i, h, hlt, fun hm => ?_, ?_⟩
    · obtain ⟨j, hj⟩ := List.getElem?_of_mem hm
      have hji : j < i := by
        have := (List.getElem?_eq_some_iff.1 hj).1
        rw [List.length_take] at this
        omega
      rw [List.getElem?_take_of_lt hji] at hj
      have := hn j hji
      have hl := (List.getElem?_eq_some_iff.1 hj).1
      unfold occAt at this
      rw [List.drop_eq_getElem_cons hl] at this
      have e := (List.getElem?_eq_some_iff.1 hj).2
      simp [List.isPrefixOf, e] at this
    · conv => lhs; rw [← List.take_append_drop i s]
      rw [List.drop_eq_getElem_cons hlt, e]
theorem splitK_one (b : UInt8) : ∀ (n : Nat) (s : List UInt8), s.length ≤ n → splitK [b] 0 (count s [b]) s = splitOn b s
  | n, s, hl => by
    rcases index_one b s with ⟨h, hn⟩ | ⟨i, h, hi, hn, hs⟩
    · rw [count_miss h, splitOn_none hn]
      rfl
    · have hd : (s.drop (i + 1)).length < s.length := by rw [List.length_drop]; omega
      cases n with
      | zero => omega
      | succ n =>
        have ih := splitK_one b n (s.drop (i + 1)) (by omega)
        rw [count_hit (by simp) h, Nat.add_comm, splitK, if_neg (by rw [h]; intro e; have := beq_iff_eq.1 e; omega)]
        conv => rhs; rw [hs, splitOn_hit hn]
        have e : (index s [b]).toNat = i := by rw [h]; simp
        rw [e, Nat.add_zero]
        have e2 : i + [b].length = i + 1 := rfl
        rw [e2, ih]
theorem splitB_one (b : UInt8) (s : ByteArray) : (splitB ⟨#[b]⟩ 0 (countB s ⟨#[b]⟩) s).map (·.data.toList) = splitOn b s.data.toList := by
  rw [splitB_data]
  exact splitK_one b _ s.data.toList (Nat.le_refl _)
theorem splitOn_length_count (b : UInt8) (s : List UInt8) : (splitOn b s).length = s.count b + 1 := by
  induction s with
  | nil => rfl
  | cons c r ih =>
    by_cases h : c = b
    · subst h
      rw [splitOn_cons_eq, List.length_cons, ih, List.count_cons_self]
    · rw [splitOn_cons_ne h, List.count_cons_of_ne h]
      cases hs : splitOn b r with
      | nil => exact absurd hs (splitOn_ne _ _)
      | cons x t => rw [hs] at ih; simpa [prep] using ih
theorem splitOn_length_le (b : UInt8) (s : List UInt8) : (splitOn b s).length ≤ s.length + 1 := by
  rw [splitOn_length_count]
  have := List.count_le_length (a := b) (l := s)
  omega

/-! ### joining -/
theorem join_snoc (L : List (List UInt8)) (y sep : List UInt8) (h : L ≠ []) : join (L ++ [y]) sep = join L sep ++ sep ++ y := by
  cases L with
  | nil => exact absurd rfl h
  | cons x t =>
    rw [List.cons_append, join_cons, join_cons]
    simp [joinTail]

/-! ### numerals -/
def isDg (b : UInt8) : Bool := 48 ≤ b && b ≤ 57
/-- The numeral's value. -/
def dval (l : List UInt8) : Nat := l.foldl (fun n b => 10 * n + (b.toNat - 48)) 0
/-- A canonical numeral of at most k digits. -/
def readNum (k : Nat) (l : List UInt8) : Option Nat :=
  if l.length = 0 ∨ k < l.length ∨ (1 < l.length ∧ l.head? = some 48) ∨ l.all isDg = false then none else some (dval l)
theorem dval_snoc (l : List UInt8) (b : UInt8) : dval (l ++ [b]) = 10 * dval l + (b.toNat - 48) := by
  simp [dval]
theorem isDg_of {d : Nat} (h : d < 10) : isDg (UInt8.ofNat (48 + d)) = true := by
  have : ∀ d : Fin 10, isDg (UInt8.ofNat (48 + d.val)) = true := by decide
  exact this ⟨d, h⟩
theorem toNat_of {d : Nat} (h : d < 10) : (UInt8.ofNat (48 + d)).toNat = 48 + d := by
  have : ∀ d : Fin 10, (UInt8.ofNat (48 + d.val)).toNat = 48 + d.val := by decide
  exact this ⟨d, h⟩
theorem isDg_iff (b : UInt8) : isDg b = true ↔ 48 ≤ b.toNat ∧ b.toNat ≤ 57 := by
  unfold isDg
  simp [UInt8.le_iff_toNat_le]
theorem of_isDg {b : UInt8} (h : isDg b = true) : b = UInt8.ofNat (48 + (b.toNat - 48)) ∧ b.toNat - 48 < 10 := by
  have h' := (isDg_iff b).1 h
  refine ⟨?_, by omega⟩
  rw [show 48 + (b.toNat - 48) = b.toNat by omega]
  simp
theorem decDigits_small {u : Nat} (h : u < 10) : decDigits u = [UInt8.ofNat (48 + u)] := decDigits_one h
theorem decDigits_big {u : Nat} (h : ¬ u < 10) : decDigits u = decDigits (u / 10) ++ [UInt8.ofNat (48 + u % 10)] := by rw [decDigits, dif_neg h]
theorem decDigits_ne (u : Nat) : decDigits u ≠ [] := by
  by_cases h : u < 10
  · rw [decDigits_small h]; simp
  · rw [decDigits_big h]; simp
theorem decDigits_all (u : Nat) : (decDigits u).all isDg = true := by
  induction u using Nat.strongRecOn with
  | _ u ih =>
    by_cases h : u < 10
    · rw [decDigits_small h, List.all_cons, isDg_of h]; rfl
    · rw [decDigits_big h, List.all_append, ih (u / 10) (by omega), List.all_cons, isDg_of (Nat.mod_lt u (by decide : 0 < 10))]; rfl
theorem decDigits_val (u : Nat) : dval (decDigits u) = u := by
  induction u using Nat.strongRecOn with
  | _ u ih =>
    by_cases h : u < 10
    · rw [decDigits_small h]
      show 10 * 0 + ((UInt8.ofNat (48 + u)).toNat - 48) = u
      rw [toNat_of h]
      omega
    · rw [decDigits_big h, dval_snoc, ih (u / 10) (by omega), toNat_of (Nat.mod_lt u (by decide : 0 < 10))]
      omega
theorem decDigits_head (u : Nat) (h : 0 < u) : (decDigits u).head? ≠ some 48 := by
  induction u using Nat.strongRecOn with
  | _ u ih =>
    by_cases h' : u < 10
    · rw [decDigits_small h']
      have : ∀ d : Fin 10, 0 < d.val → ([UInt8.ofNat (48 + d.val)] : List UInt8).head? ≠ some 48 := by decide
      exact this ⟨u, h'⟩ h
    · rw [decDigits_big h']
      have hh := ih (u / 10) (by omega) (by omega)
      cases hd : decDigits (u / 10) with
      | nil => exact absurd hd (decDigits_ne _)
      | cons c r => rw [hd] at hh; simpa using hh
theorem decDigits_len {u k : Nat} (h : u < 10 ^ (k + 1)) : (decDigits u).length ≤ k + 1 := by
  induction k generalizing u with
  | zero => rw [decDigits_small (by simpa using h)]; simp
  | succ k ih =>
    by_cases h' : u < 10
    · rw [decDigits_small h']; simp
    · rw [decDigits_big h', List.length_append]
      have := ih (u := u / 10) (by rw [Nat.pow_succ] at h; omega)
      simp; omega
theorem readNum_dec {u k : Nat} (h : u < 10 ^ (k + 1)) : readNum (k + 1) (decDigits u) = some u := by
  unfold readNum
  rw [if_neg, decDigits_val]
  rintro (h1 | h1 | ⟨h1, h2⟩ | h1)
  · exact decDigits_ne u (List.eq_nil_of_length_eq_zero h1)
  · have := decDigits_len h; omega
  · by_cases h0 : u = 0
    · subst h0
      rw [decDigits_small (by decide)] at h1
      simp at h1
    · exact decDigits_head u (by omega) h2
  · rw [decDigits_all] at h1; cases h1
theorem snocInd {p : List UInt8 → Prop} (h0 : p []) (h1 : ∀ l b, p l → p (l ++ [b])) (l : List UInt8) : p l := by
  have h : ∀ r : List UInt8, p r.reverse := by
    intro r
    induction r with
    | nil => exact h0
    | cons b r ih => rw [List.reverse_cons]; exact h1 _ _ ih
  have := h l.reverse
  rwa [List.reverse_reverse] at this
theorem dval_pos : ∀ (l : List UInt8), l.all isDg = true → l ≠ [] → l.head? ≠ some 48 → 0 < dval l := by
  intro l
  induction l using snocInd with
  | h0 => intro _ h; exact absurd rfl h
  | h1 l b ih =>
    intro ha _ hh
    rw [dval_snoc]
    rw [List.all_append] at ha
    simp at ha
    cases l with
    | nil =>
      have hb := (isDg_iff b).1 ha.2
      have : b ≠ 48 := by simpa using hh
      have : b.toNat ≠ 48 := fun e => this (by rw [← UInt8.toNat_inj]; exact e)
      simp [dval]; omega
    | cons c r =>
      have := ih (List.all_eq_true.2 ha.1) (by simp) (by simpa using hh)
      omega
/-- What is read is the value's numeral. -/
theorem dec_of_read {k : Nat} {l : List UInt8} {u : Nat} (h : readNum k l = some u) : l = decDigits u ∧ l.length ≤ k := by
  unfold readNum at h
  split at h
  · cases h
  · rename_i hn
    simp only [not_or] at hn
    obtain ⟨h1, h2, h3, h4⟩ := hn
    have ha : l.all isDg = true := by simpa using h4
    have hu : dval l = u := Option.some.inj h
    refine ⟨?_, by omega⟩
    subst hu
    clear h2 h4 h
    induction l using snocInd with
    | h0 => simp at h1
    | h1 l b ih =>
      rw [List.all_append] at ha
      simp at ha
      obtain ⟨eb, hb⟩ := of_isDg ha.2
      rw [dval_snoc]
      cases l with
      | nil =>
        have e : 10 * dval [] + (b.toNat - 48) = b.toNat - 48 := by simp [dval]
        rw [e, decDigits_small hb, ← eb]
        rfl
      | cons c r =>
        have hall : (c :: r).all isDg = true := List.all_eq_true.2 ha.1
        have hc : (c :: r).head? ≠ some 48 := fun e => h3 ⟨by simp, by simpa using e⟩
        have hp := dval_pos (c :: r) hall (by simp) hc
        have ih' := ih (by simp) (fun e => hc e.2) hall
        rw [decDigits_big (by omega), show (10 * dval (c :: r) + (b.toNat - 48)) / 10 = dval (c :: r) by omega, show (10 * dval (c :: r) + (b.toNat - 48)) % 10 = b.toNat - 48 by omega, ← ih', ← eb]
end Go.Proofs.YtkkdhmbkpebajaaDoor

/- FnWrong: plain facts: what is before the wrong place is wrong only at its end. -/
namespace Go.Proofs.YtkkdhmbkpebajaaDoor
set_option linter.unusedVariables false
set_option linter.unusedSimpArgs false

theorem pos_cut : ∀ (l : List UInt8) (x : StS) (p : Int × Int), ∃ k, k ≤ l.length ∧ posS x l p = (l.take k).foldl nextP p ∧ posS x (l.take k) p = (l.take k).foldl nextP p
  | [], x, p => ⟨0, Nat.le_refl _, rfl, rfl⟩
  | c :: l, x, p => by
    cases hs : stepS x c with
    | none => exact ⟨0, Nat.zero_le _, by simp [posS, hs], rfl⟩
    | some x' =>
      obtain ⟨k, hk, e1, e2⟩ := pos_cut l x' (nextP p c)
      refine ⟨k + 1, by simp only [List.length_cons]; omega, ?_, ?_⟩
      · simp only [posS, hs, List.take_succ_cons, List.foldl_cons]; exact e1
      · simp only [posS, hs, List.take_succ_cons, List.foldl_cons]; exact e2
theorem nat10 {c : UInt8} : c.toNat = 10 ↔ c = 10 := by
  constructor
  · intro h; exact UInt8.toNat_inj.1 h
  · rintro rfl; rfl
/-- a text is cut behind its last line's end -/
theorem line_cut (t : List UInt8) : ∃ P Q, t = P ++ Q ∧ (P = [] ∨ ∃ P', P = P' ++ [10]) ∧ Q.count 10 = 0 ∧ t.foldl nextP (1, 1) = ((1 : Int) + ((P.count 10 : Nat) : Int), (1 : Int) + (Q.length : Int)) := by
  induction t using snocInd with
  | h0 => exact ⟨[], [], rfl, .inl rfl, rfl, rfl⟩
  | h1 t c ih =>
    obtain ⟨P, Q, e, h, hq, hp⟩ := ih
    rw [List.foldl_append, hp]
    simp only [List.foldl_cons, List.foldl_nil, nextP]
    by_cases hc : c.toNat = 10
    · have hc' := nat10.1 hc
      subst hc'
      refine ⟨t ++ [10], [], by simp, .inr ⟨t, rfl⟩, rfl, ?_⟩
      have hn : (t ++ [10]).count 10 = P.count 10 + 1 := by rw [List.count_append, e, List.count_append, hq]; rfl
      rw [if_pos hc, hn]
      simp only [List.length_nil, Prod.mk.injEq]
      omega
    · rw [if_neg hc]
      refine ⟨P, Q ++ [c], by rw [e]; simp, h, ?_, ?_⟩
      · rw [List.count_append, hq]
        have : c ≠ 10 := fun e => hc (nat10.2 e)
        simp [List.count_cons, this]
      · refine Prod.ext rfl ?_
        show (1 : Int) + (Q.length : Int) + 1 = 1 + ((Q ++ [c]).length : Int)
        rw [List.length_append, List.length_cons, List.length_nil]
        omega
/-- the wrong place of a text: its line, its byte, and what is before it -/
theorem wrong_cut (l : List UInt8) : ∃ (k : Nat) (P Q : List UInt8), k ≤ l.length ∧ l.take k = P ++ Q ∧ P.length + Q.length = k ∧ (P = [] ∨ ∃ P', P = P' ++ [10]) ∧ wrongP l = ((1 : Int) + ((P.count 10 : Nat) : Int), (1 : Int) + (Q.length : Int)) ∧ wrongP (l.take k) = wrongP l := by
  obtain ⟨k, hk, e1, e2⟩ := pos_cut l ⟨0, 0, 0, 0⟩ (1, 1)
  obtain ⟨P, Q, e, h, hq, hp⟩ := line_cut (l.take k)
  refine ⟨k, P, Q, hk, e, ?_, h, ?_, ?_⟩
  · have := congrArg List.length e
    rw [List.length_take, List.length_append] at this
    omega
  · unfold wrongP; rw [e1, hp]
  · unfold wrongP; rw [e1, e2]
theorem take_line {l P Q : List UInt8} {k : Nat} (h : l.take k = P ++ Q) (hk : P.length + Q.length = k) {j : Nat} (hj : j ≤ P.length) : l.take j = P.take j := by
  have : (l.take k).take j = (P ++ Q).take j := by rw [h]
  rw [List.take_take, Nat.min_eq_left (by omega), List.take_append_of_le_length hj] at this
  exact this
/-- the line's beginning is not reached yet: one more line's end is to come -/
theorem line_lt {l P Q : List UInt8} {k j : Nat} (h : l.take k = P ++ Q) (hk : P.length + Q.length = k) (hP : P = [] ∨ ∃ P', P = P' ++ [10]) (hj : j < P.length) : (l.take j).count 10 < P.count 10 := by
  rw [take_line h hk (by omega)]
  rcases hP with rfl | ⟨P', rfl⟩
  · simp at hj
  · rw [List.length_append, List.length_cons, List.length_nil] at hj
    rw [List.take_append_of_le_length (by omega), List.count_append]
    have := (List.take_sublist j P').count_le (a := (10 : UInt8))
    simp
    omega
theorem line_at {l P Q : List UInt8} {k : Nat} (h : l.take k = P ++ Q) (hk : P.length + Q.length = k) : (l.take P.length).count 10 = P.count 10 := by
  rw [take_line h hk (Nat.le_refl _), List.take_length]
theorem cnt_snoc_nl {l : List UInt8} {j : Nat} {c : UInt8} (h : l[j]? = some c) : (l.take (j + 1)).count 10 = (l.take j).count 10 + if c.toNat = 10 then 1 else 0 := by
  rw [List.take_add_one, h, List.count_append]
  by_cases hc : c.toNat = 10
  · rw [if_pos hc, nat10.1 hc]; rfl
  · rw [if_neg hc]
    have : c ≠ 10 := fun e => hc (nat10.2 e)
    simp [List.count_cons, this]
end Go.Proofs.YtkkdhmbkpebajaaDoor

/- Texts, plain: the text of points, and reading it. -/
namespace Go.Proofs.YtkkdhmbkpebajaaDoor
set_option linter.unusedVariables false
set_option linter.unusedSimpArgs false
set_option linter.unnecessarySimpa false
open Go.Lib

def ptN (u : Nat) : List UInt8 := decDigits (u / 100) ++ 46 :: (decDigits (u / 10 % 10) ++ decDigits (u % 10))
def ptxt (n : Int) : List UInt8 := if n < 0 then 45 :: ptN n.natAbs else ptN n.toNat
def ptGood (n : Int) : Prop := -1000000 ≤ n ∧ n ≤ 1000000
def IsRead (s : List UInt8) (v : Int) (ok : Bool) : Prop := (ok = true ∧ ptGood v ∧ ptxt v = s) ∨ (ok = false ∧ v = 0 ∧ ∀ n, ptGood n → ptxt n ≠ s)
theorem dg_notin {u : Nat} {b : UInt8} (h : isDg b = false) : b ∉ decDigits u := by
  intro hm
  have := List.all_eq_true.1 (decDigits_all u) b hm
  rw [h] at this
  cases this
theorem ptN_split (u : Nat) : splitOn 46 (ptN u) = [decDigits (u / 100), decDigits (u / 10 % 10) ++ decDigits (u % 10)] := by
  unfold ptN
  rw [splitOn_hit (dg_notin (by decide)), splitOn_none]
  intro hm
  rcases List.mem_append.1 hm with h | h
  · exact dg_notin (by decide) h
  · exact dg_notin (by decide) h
theorem ptN_head (u : Nat) : ∃ c r, ptN u = c :: r ∧ isDg c = true := by
  unfold ptN
  cases h : decDigits (u / 100) with
  | nil => exact absurd h (decDigits_ne _)
  | cons c r =>
    refine ⟨c, r ++ 46 :: (decDigits (u / 10 % 10) ++ decDigits (u % 10)), rfl, ?_⟩
    have := decDigits_all (u / 100)
    rw [h] at this
    simp at this
    exact this.1
theorem ptN_ne (u : Nat) (r : List UInt8) : ptN u ≠ 45 :: r := by
  obtain ⟨c, r', e, hc⟩ := ptN_head u
  rw [e]
  intro h
  injection h with h1 h2
  subst h1
  revert hc
  decide
theorem ptN_inj {u v : Nat} (h : ptN u = ptN v) : u = v := by
  have h1 : splitOn 46 (ptN u) = splitOn 46 (ptN v) := by rw [h]
  rw [ptN_split, ptN_split] at h1
  injection h1 with a b
  injection b with b _
  have ha := congrArg dval a
  rw [decDigits_val, decDigits_val] at ha
  have small : ∀ w : Nat, decDigits (w / 10 % 10) ++ decDigits (w % 10) = [UInt8.ofNat (48 + w / 10 % 10), UInt8.ofNat (48 + w % 10)] := by
    intro w
    rw [decDigits_small (Nat.mod_lt _ (by decide)), decDigits_small (Nat.mod_lt _ (by decide))]
    rfl
  rw [small u, small v] at b
  injection b with b1 b2
  injection b2 with b2 _
  have c1 := congrArg UInt8.toNat b1
  have c2 := congrArg UInt8.toNat b2
  rw [toNat_of (Nat.mod_lt _ (by decide)), toNat_of (Nat.mod_lt _ (by decide))] at c1
  rw [toNat_of (Nat.mod_lt _ (by decide)), toNat_of (Nat.mod_lt _ (by decide))] at c2
  omega
theorem ptxt_inj {a b : Int} (h : ptxt a = ptxt b) : a = b := by
  unfold ptxt at h
  by_cases ha : a < 0 <;> by_cases hb : b < 0
  · rw [if_pos ha, if_pos hb] at h
    injection h with _ h
    have := ptN_inj h
    omega
  · rw [if_pos ha, if_neg hb] at h
    exact absurd h.symm (ptN_ne _ _)
  · rw [if_neg ha, if_pos hb] at h
    exact absurd h (ptN_ne _ _)
  · rw [if_neg ha, if_neg hb] at h
    have := ptN_inj h
    omega
theorem IsRead.same {s : List UInt8} {v v' : Int} {ok ok' : Bool} (h : IsRead s v ok) (h' : IsRead s v' ok') : v = v' ∧ ok = ok' := by
  rcases h with ⟨rfl, g, e⟩ | ⟨rfl, rfl, n⟩ <;> rcases h' with ⟨rfl, g', e'⟩ | ⟨rfl, rfl, n'⟩
  · exact ⟨ptxt_inj (e.trans e'.symm), rfl⟩
  · exact absurd e (n' _ g)
  · exact absurd e' (n _ g')
  · exact ⟨rfl, rfl⟩
/-- What stands behind the sign, and whether there is one. -/
theorem ptxt_sign (n : Int) : trimPrefix (ptxt n) [45] = ptN n.natAbs ∧ hasPrefix (ptxt n) [45] = decide (n < 0) := by
  unfold ptxt trimPrefix hasPrefix
  by_cases h : n < 0
  · rw [if_pos h]
    simp [List.isPrefixOf, h]
  · rw [if_neg h]
    obtain ⟨c, r, e, hc⟩ := ptN_head n.toNat
    have hne : (45 == c) = false := by
      rw [beq_eq_false_iff_ne]
      rintro rfl
      revert hc
      decide
    have e2 : n.natAbs = n.toNat := by omega
    rw [e2, e]
    simp [List.isPrefixOf, hne, h]
theorem ptN_cut (u : Nat) : cut (ptN u) [46] = (decDigits (u / 100), decDigits (u / 10 % 10) ++ decDigits (u % 10), true) := by
  rcases index_one 46 (ptN u) with ⟨_, h⟩ | ⟨i, hi, hlt, hn, hs⟩
  · exact absurd (by simp [ptN]) h
  · have h2 : splitOn 46 (ptN u) = (ptN u).take i :: splitOn 46 ((ptN u).drop (i + 1)) := by
      conv => lhs; rw [hs, splitOn_hit hn]
    rw [ptN_split] at h2
    injection h2 with a b
    have e3 : splitOn 46 ((ptN u).drop (i + 1)) = [(ptN u).drop (i + 1)] := by
      have hj := splitOn_join 46 ((ptN u).drop (i + 1))
      rw [← b, join_one] at hj
      rw [← b, hj]
    rw [e3] at b
    injection b with b _
    unfold cut
    rw [if_pos (by omega), hi]
    simp only [Int.toNat_natCast, List.length_cons, List.length_nil]
    rw [← a, ← b]
theorem two_digits (u : Nat) : decDigits (u / 10 % 10) ++ decDigits (u % 10) = [UInt8.ofNat (48 + u / 10 % 10), UInt8.ofNat (48 + u % 10)] := by
  rw [decDigits_small (Nat.mod_lt _ (by decide)), decDigits_small (Nat.mod_lt _ (by decide))]
  rfl
/-- The cents, read without a leading zero. -/
theorem cents_read (u : Nat) : readNum 12 (trimPrefix (decDigits (u / 10 % 10) ++ decDigits (u % 10)) [48]) = some (u % 100) := by
  rw [two_digits]
  have h : ∀ a b : Fin 10, readNum 12 (trimPrefix [UInt8.ofNat (48 + a.val), UInt8.ofNat (48 + b.val)] [48]) = some (a.val * 10 + b.val) := by decide
  have := h ⟨u / 10 % 10, Nat.mod_lt _ (by decide)⟩ ⟨u % 10, Nat.mod_lt _ (by decide)⟩
  simp only at this
  rw [this]
  congr 1
  omega
end Go.Proofs.YtkkdhmbkpebajaaDoor
