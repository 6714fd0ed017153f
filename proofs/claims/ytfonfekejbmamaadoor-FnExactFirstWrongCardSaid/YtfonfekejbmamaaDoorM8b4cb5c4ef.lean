/- Contracts of functions that the proof leans on. No condition. -/
import Derived.Test.YtfonfekejbmamaaDoorM31effbdf08
import Derived.Deep.DeepCutAuto
import Derived.Deep.RegionHeld3
import Derived.Test.YtfonfekejbmamaaDoorRows
import Derived.WalkKit
import Derived.ProofKit
import Derived.OpenShut
import Derived.ShutString
import Derived.ChangeOld
import Derived.Below
import Derived.LaidMore
import Derived.Lay
import Derived.MakeChecks
import Derived.Stop.LaidErr
import Derived.Shelf.Vars
import Derived.Lib.LaidTab
import Derived.OpenVars
import Derived.Test.YtfonfekejbmamaaDoorShelf
/- Texts: numerals read, a text split: the reference's and the program's. -/
namespace Go.Proofs.YtfonfekejbmamaaDoor
set_option linter.unusedVariables false
set_option linter.unusedSimpArgs false
set_option linter.unnecessarySimpa false
open Go.RowKit Go.Lib

theorem dval_lt' (l : List UInt8) (h : l.all isDg = true) : dval l < 10 ^ l.length := by
  induction l using snocInd with
  | h0 => decide
  | h1 l b ih =>
    rw [List.all_append] at h
    simp at h
    have hb := (isDg_iff b).1 h.2
    have := ih (by simpa using h.1)
    rw [dval_snoc, List.length_append, List.length_singleton, Nat.pow_succ]
    omega
theorem dval_take {s : ByteArray} {k m : Nat} (hk : k ≤ m) (hm : m ≤ 12) (h : (s.data.toList.take k).all isDg = true) : dval (s.data.toList.take k) < 1000000000000 := by
  have h1 := dval_lt' _ h
  have h2 : (s.data.toList.take k).length ≤ 12 := by rw [List.length_take]; omega
  exact Nat.lt_of_lt_of_le h1 (Nat.pow_le_pow_right (by decide) h2)
def ntB (k : Nat) (s : ByteArray) : Bool := (readNum k s.data.toList).isSome
def ntV (k : Nat) (s : ByteArray) : Int := ((readNum k s.data.toList).getD 0 : Nat)
theorem nt_none {k : Nat} {s : ByteArray} (h : readNum k s.data.toList = none) : (0 : Int) = ntV k s ∧ false = ntB k s := by unfold ntV ntB; rw [h]; exact ⟨rfl, rfl⟩
theorem nt_some {k : Nat} {s : ByteArray} {n : Nat} (h : readNum k s.data.toList = some n) : (n : Int) = ntV k s ∧ true = ntB k s := by unfold ntV ntB; rw [h]; exact ⟨rfl, rfl⟩
theorem rn_big {k : Nat} {l : List UInt8} (h : l.length = 0 ∨ k < l.length) : readNum k l = none := by
  unfold readNum
  rw [if_pos]
  rcases h with h | h
  · exact .inl h
  · exact .inr (.inl h)
theorem rn_zero {k : Nat} {l : List UInt8} (h : 1 < l.length) (h0 : l[0]? = some 48) : readNum k l = none := by
  unfold readNum
  rw [if_pos]
  exact .inr (.inr (.inl ⟨h, by rw [List.head?_eq_getElem?, h0]⟩))
theorem rn_bad {k j : Nat} {l : List UInt8} {b : UInt8} (h : l[j]? = some b) (hb : isDg b = false) : readNum k l = none := by
  unfold readNum
  rw [if_pos]
  refine .inr (.inr (.inr ?_))
  rw [Bool.eq_false_iff]
  intro ha
  have := List.all_eq_true.1 ha b (List.mem_of_getElem? h)
  rw [hb] at this
  cases this
theorem rn_ok {k : Nat} {l : List UInt8} (h1 : 0 < l.length) (h2 : l.length ≤ k) (h3 : 1 < l.length → l[0]? ≠ some 48) (h4 : l.all isDg = true) : readNum k l = some (dval l) := by
  unfold readNum
  rw [if_neg]
  rintro (h | h | ⟨a, b⟩ | h)
  · omega
  · omega
  · rw [List.head?_eq_getElem?] at b; exact h3 a b
  · rw [h4] at h; cases h
theorem dg_of {b : UInt8} (h1 : 48 ≤ b.toNat) (h2 : b.toNat ≤ 57) : isDg b = true := (isDg_iff b).2 ⟨h1, h2⟩
theorem dg_not {b : UInt8} (h : b.toNat < 48 ∨ 57 < b.toNat) : isDg b = false := by
  rw [Bool.eq_false_iff]
  intro hb
  have := (isDg_iff b).1 hb
  omega
theorem dv_snoc {l : List UInt8} {k : Nat} {b : UInt8} (h : l[k]? = some b) : dval (l.take (k + 1)) = 10 * dval (l.take k) + (b.toNat - 48) := by
  rw [take_snoc h, dval_snoc]
theorem ret_ibT {a a' : Int} {b b' : Bool} (h : a = a' ∧ b = b') : Ending.returned (.tuple #[.int .i64 a, .bool b]) = .returned (.tuple #[.int .i64 a', .bool b']) := by rw [h.1, h.2]
theorem ret_i {a a' : Int} (h : a = a') : Ending.returned (.int .i64 a) = .returned (.int .i64 a') := by rw [h]
theorem byte3 (c : Nat) : c < 48 ∨ 57 < c ∨ (48 ≤ c ∧ c ≤ 57) := by omega
theorem ne_zero {s : ByteArray} (h : s ≠ ⟨#[]⟩) : 0 < s.size := by
  rcases Nat.eq_zero_or_pos s.size with h0 | h0
  · exact absurd (ByteArray.ext (Array.eq_empty_of_size_eq_zero h0)) h
  · exact h0
/-- what a reading of at most k digits gives: the number, or -1 -/
def rdV (k : Nat) (s : ByteArray) : Int := match readNum k s.data.toList with | none => -1 | some n => (n : Int)
theorem rd_none {k : Nat} {s : ByteArray} (h : readNum k s.data.toList = none) : (-1 : Int) = rdV k s := by unfold rdV; rw [h]
theorem rd_some {k : Nat} {s : ByteArray} {n : Nat} (h : readNum k s.data.toList = some n) : (n : Int) = rdV k s := by unfold rdV; rw [h]
set_option maxHeartbeats 4000000 in
theorem natural_any (s : ByteArray) (w : World) (hs : s.size ≤ maxLen) :
    Calls Tryd.prog 101 #[.string s] w fun e w' => e = .returned (.tuple #[.int .i64 (ntV 12 s), .bool (ntB 12 s)]) ∧ w = w' := by
  unfold maxLen at hs
  have hlen : s.data.toList.length = s.size := by rw [size_eq]
  have HL := Lib.hid hlen
  clear hlen
  by_cases h0 : s = ⟨#[]⟩
  · subst h0
    go_enter Tryd.func101, Tryd.ntmps101
    go_wp2
    go_ret2
    exact ⟨ret_ibT <| nt_none (rn_big (.inl rfl)), rfl⟩
  have hp := ne_zero h0
  have he : s.toList.isEmpty = false := by
    rw [toList_data]
    cases hq : s.data.toList with
    | nil => have := HL.out; rw [hq] at this; simp at this; omega
    | cons _ _ => rfl
  by_cases hk : 12 < s.size
  · go_enter Tryd.func101, Tryd.ntmps101
    go_wp2
    go_ret2
    exact ⟨ret_ibT <| nt_none (rn_big (.inr (by rw [HL.out]; exact hk))), rfl⟩
  have HZ0 := Lib.hid (byte_get s 0 hp)
  by_cases h1 : 1 < s.size ∧ s[0].toNat = 48
  · obtain ⟨h1, h2⟩ := h1
    have hq : ((s[0].toNat : Int) == 48) = true := (by rw [beq_iff_eq]; omega)
    go_enter Tryd.func101, Tryd.ntmps101
    go_wp2
    go_ret2
    exact ⟨ret_ibT <| nt_none (rn_zero (by rw [HL.out]; exact h1) (by rw [HZ0.out]; exact congrArg some (UInt8.toNat_inj.1 h2))), rfl⟩
  have H3 : Hid (1 < s.data.toList.length → s.data.toList[0]? ≠ some 48) := Lib.hid (fun a b => h1 ⟨by rw [← HL.out]; exact a, by rw [HZ0.out] at b; rw [Option.some.inj b]; rfl⟩)
  have hcase : (s.size < 2 ∧ s[0].toNat < 48) ∨ (s.size < 2 ∧ s[0].toNat = 48) ∨ (s.size < 2 ∧ 48 < s[0].toNat) ∨ (1 < s.size ∧ s[0].toNat < 48) ∨ (1 < s.size ∧ 48 < s[0].toNat) := by omega
  clear h1
  rcases hcase with ⟨h1, h2⟩ | ⟨h1, h2⟩ | ⟨h1, h2⟩ | ⟨h1, h2⟩ | ⟨h1, h2⟩
  all_goals
    first
      | have hq : ((s[0].toNat : Int) == 48) = false := (by rw [beq_eq_false_iff_ne]; omega)
      | have hq : ((s[0].toNat : Int) == 48) = true := (by rw [beq_iff_eq]; omega)
    go_enter Tryd.func101, Tryd.ntmps101
    go_wp2
    go_loop [4, 5] (fun n i => ∃ k : Nat, k ≤ s.size ∧ i = .int .i64 k ∧ n = .int .i64 (dval (s.data.toList.take k) : Nat) ∧ (s.data.toList.take k).all isDg = true) (fun _ i => s.size - (RowKit.intOf i).toNat)
    case atStart => exact ⟨0, Nat.zero_le _, rfl, rfl, rfl⟩
    case round =>
      obtain ⟨k, hk2, rfl, rfl, ha⟩ := hrel
      have hv := dval_take hk2 (by omega) ha
      have HA := Lib.hid ha
      clear ha
      by_cases hlt : k < s.size
      · have HZ := Lib.hid (byte_get s k hlt)
        have HD := Lib.hid (dv_snoc HZ.out)
        have hlt' : (k : Int) < (s.size : Int) := by omega
        rcases byte3 s[k].toNat with hc | hc | hc
        · generalize dval (s.data.toList.take k) = v at *
          go_wp2
          go_ret2
          exact ⟨ret_ibT <| nt_none (rn_bad HZ.out (dg_not (.inl hc))), rfl⟩
        · generalize dval (s.data.toList.take k) = v at *
          go_wp2
          go_ret2
          exact ⟨ret_ibT <| nt_none (rn_bad HZ.out (dg_not (.inr hc))), rfl⟩
        · generalize dval (s.data.toList.take k) = v at *
          go_wp2
          go_round
          case rel => exact ⟨k + 1, by omega, by go_num, by rw [HD.out]; go_num, all_snoc HZ.out HA.out (dg_of hc.1 hc.2)⟩
          case measure => simp [RowKit.intOf]; omega
      · obtain rfl : k = s.size := by omega
        have e : s.data.toList.take s.size = s.data.toList := List.take_of_length_le (by rw [HL.out]; exact Nat.le_refl _)
        rw [e] at HA hv ⊢
        have HE := Lib.hid (rn_ok (k := 12) (by rw [HL.out]; omega) (by rw [HL.out]; omega) H3.out HA.out)
        generalize dval s.data.toList = v at *
        go_wp2
        go_ret2
        exact ⟨ret_ibT <| nt_some HE.out, rfl⟩
set_option maxHeartbeats 4000000 in
theorem l1Read_any (s : ByteArray) (w : World) (hs : s.size ≤ maxLen) :
    Calls Tryd.prog 81 #[.string s] w fun e w' => e = .returned (.int .i64 (rdV 6 s)) ∧ w = w' := by
  unfold maxLen at hs
  have hlen : s.data.toList.length = s.size := by rw [size_eq]
  have HL := Lib.hid hlen
  clear hlen
  by_cases h0 : s = ⟨#[]⟩
  · subst h0
    have HI : Hid (inB 0 1 6 = false) := Lib.hid rfl
    go_enter Tryd.func81, Tryd.ntmps81
    go_wp2_with (go_at_call 71; refine (l1In_any _ _ _ _).mono ?_; rintro e w' ⟨rfl, rfl⟩; rw [HI.out])
    go_ret
    exact ⟨ret_i <| rd_none (rn_big (.inl rfl)), rfl⟩
  have hp := ne_zero h0
  have he : s.toList.isEmpty = false := by
    rw [toList_data]
    cases hq : s.data.toList with
    | nil => have := HL.out; rw [hq] at this; simp at this; omega
    | cons _ _ => rfl
  by_cases hk : 6 < s.size
  · have HI : Hid (inB (s.size : Int) 1 6 = false) := Lib.hid (by unfold inB; simp; omega)
    go_enter Tryd.func81, Tryd.ntmps81
    go_wp2_with (go_at_call 71; refine (l1In_any _ _ _ _).mono ?_; rintro e w' ⟨rfl, rfl⟩; rw [HI.out])
    go_ret
    exact ⟨ret_i <| rd_none (rn_big (.inr (by rw [HL.out]; exact hk))), rfl⟩
  have HI : Hid (inB (s.size : Int) 1 6 = true) := Lib.hid (by unfold inB; simp; omega)
  have HZ0 := Lib.hid (byte_get s 0 hp)
  by_cases h1 : 1 < s.size ∧ s[0].toNat = 48
  · obtain ⟨h1, h2⟩ := h1
    have hq : ((s[0].toNat : Int) == 48) = true := (by rw [beq_iff_eq]; omega)
    go_enter Tryd.func81, Tryd.ntmps81
    go_wp2_with (go_at_call 71; refine (l1In_any _ _ _ _).mono ?_; rintro e w' ⟨rfl, rfl⟩; rw [HI.out])
    go_ret
    exact ⟨ret_i <| rd_none (rn_zero (by rw [HL.out]; exact h1) (by rw [HZ0.out]; exact congrArg some (UInt8.toNat_inj.1 h2))), rfl⟩
  have H3 : Hid (1 < s.data.toList.length → s.data.toList[0]? ≠ some 48) := Lib.hid (fun a b => h1 ⟨by rw [← HL.out]; exact a, by rw [HZ0.out] at b; rw [Option.some.inj b]; rfl⟩)
  have hcase : (s.size < 2 ∧ s[0].toNat < 48) ∨ (s.size < 2 ∧ s[0].toNat = 48) ∨ (s.size < 2 ∧ 48 < s[0].toNat) ∨ (1 < s.size ∧ s[0].toNat < 48) ∨ (1 < s.size ∧ 48 < s[0].toNat) := by omega
  clear h1
  rcases hcase with ⟨h1, h2⟩ | ⟨h1, h2⟩ | ⟨h1, h2⟩ | ⟨h1, h2⟩ | ⟨h1, h2⟩
  all_goals
    first
      | have hq : ((s[0].toNat : Int) == 48) = false := (by rw [beq_eq_false_iff_ne]; omega)
      | have hq : ((s[0].toNat : Int) == 48) = true := (by rw [beq_iff_eq]; omega)
    go_enter Tryd.func81, Tryd.ntmps81
    go_wp2_with (go_at_call 71; refine (l1In_any _ _ _ _).mono ?_; rintro e w' ⟨rfl, rfl⟩; rw [HI.out])
    go_loop [3, 4] (fun n i => ∃ k : Nat, k ≤ s.size ∧ i = .int .i64 k ∧ n = .int .i64 (dval (s.data.toList.take k) : Nat) ∧ (s.data.toList.take k).all isDg = true) (fun _ i => s.size - (RowKit.intOf i).toNat)
    case atStart => exact ⟨0, Nat.zero_le _, rfl, rfl, rfl⟩
    case round =>
      obtain ⟨k, hk2, rfl, rfl, ha⟩ := hrel
      have hv := dval_take hk2 (by omega) ha
      have HA := Lib.hid ha
      clear ha
      by_cases hlt : k < s.size
      · have HZ := Lib.hid (byte_get s k hlt)
        have HD := Lib.hid (dv_snoc HZ.out)
        have hlt' : (k : Int) < (s.size : Int) := by omega
        rcases byte3 s[k].toNat with hc | hc | hc
        · generalize dval (s.data.toList.take k) = v at *
          go_wp2
          go_ret
          exact ⟨ret_i <| rd_none (rn_bad HZ.out (dg_not (.inl hc))), rfl⟩
        · generalize dval (s.data.toList.take k) = v at *
          go_wp2
          go_ret
          exact ⟨ret_i <| rd_none (rn_bad HZ.out (dg_not (.inr hc))), rfl⟩
        · generalize dval (s.data.toList.take k) = v at *
          go_wp2
          go_round
          case rel => exact ⟨k + 1, by omega, by go_num, by rw [HD.out]; go_num, all_snoc HZ.out HA.out (dg_of hc.1 hc.2)⟩
          case measure => simp [RowKit.intOf]; omega
      · obtain rfl : k = s.size := by omega
        have e : s.data.toList.take s.size = s.data.toList := List.take_of_length_le (by rw [HL.out]; exact Nat.le_refl _)
        rw [e] at HA hv ⊢
        have HE := Lib.hid (rn_ok (k := 6) (by rw [HL.out]; omega) (by rw [HL.out]; omega) H3.out HA.out)
        generalize dval s.data.toList = v at *
        go_wp2
        go_ret
        exact ⟨ret_i <| rd_some HE.out, rfl⟩
end Go.Proofs.YtfonfekejbmamaaDoor

/- Texts: a text split at a byte, the reference's way. -/
namespace Go.Proofs.YtfonfekejbmamaaDoor
set_option linter.unusedVariables false
set_option linter.unusedSimpArgs false
set_option linter.unnecessarySimpa false
open Go.RowKit Go.Lib

theorem splitOn_snoc_ne {b c : UInt8} (hc : c ≠ b) : ∀ {p : List UInt8} {L : List (List UInt8)} {x : List UInt8}, splitOn b p = L ++ [x] → splitOn b (p ++ [c]) = L ++ [x ++ [c]]
  | [], L, x, h => by
    have e : ([[]] : List (List UInt8)) = L ++ [x] := h
    cases L with
    | nil => simp at e; subst e; simp [splitOn, hc]
    | cons y L => simp at e
  | d :: p, L, x, h => by
    by_cases hd : d = b
    · subst hd
      rw [splitOn_cons_eq] at h
      cases L with
      | nil => simp at h; exact absurd h.2 (splitOn_ne _ _)
      | cons y L =>
        simp only [List.cons_append, List.cons.injEq] at h
        obtain ⟨h1, h2⟩ := h
        subst h1
        rw [List.cons_append, splitOn_cons_eq, splitOn_snoc_ne hc h2]
        rfl
    · rw [splitOn_cons_ne hd] at h
      cases hs : splitOn b p with
      | nil => exact absurd hs (splitOn_ne _ _)
      | cons y t =>
        rw [hs, prep] at h
        cases L with
        | nil =>
          simp at h
          obtain ⟨h1, h2⟩ := h
          subst h1 h2
          rw [List.cons_append, splitOn_cons_ne hd, splitOn_snoc_ne (L := []) (x := y) hc (by rw [hs]; rfl)]
          rfl
        | cons z L =>
          simp at h
          obtain ⟨h1, h2⟩ := h
          subst h1 h2
          rw [List.cons_append, splitOn_cons_ne hd, splitOn_snoc_ne (L := y :: L) (x := x) hc (by rw [hs]; rfl)]
          rfl
/-- the piece from a to b -/
def pc (s : ByteArray) (a b : Nat) : List UInt8 := (s.data.toList.take b).drop a
theorem pc_ext (s : ByteArray) (a b : Nat) : s.extract a b = tx (pc s a b) := by
  apply ByteArray.ext
  apply Array.ext'
  unfold pc tx
  simp [List.extract_eq_take_drop, List.drop_take]
theorem pc_size (s : ByteArray) (a b : Nat) (h : b ≤ s.size) : (pc s a b).length = b - a := by
  unfold pc
  rw [List.length_drop, List.length_take, ← size_eq, Nat.min_eq_left h]
theorem pc_snoc {s : ByteArray} {a k : Nat} {c : UInt8} (h : s.data.toList[k]? = some c) (hk : k ≤ s.size) (ha : a ≤ k) : pc s a (k + 1) = pc s a k ++ [c] := by
  unfold pc
  rw [take_snoc h, List.drop_append_of_le_length (by rw [List.length_take, ← size_eq]; omega)]
theorem pc_none (s : ByteArray) (k : Nat) : pc s k k = [] := by
  unfold pc
  exact List.drop_of_length_le (by rw [List.length_take]; omega)
theorem pc_all (s : ByteArray) (a : Nat) : pc s a s.size = s.data.toList.drop a := by
  unfold pc
  rw [List.take_of_length_le (by rw [size_eq]; exact Nat.le_refl _)]
def spB (b : UInt8) (s : ByteArray) : List ByteArray := (splitOn b s.data.toList).map tx
set_option maxRecDepth 100000 in
set_option maxHeartbeats 8000000 in
theorem l1Split_any (s : ByteArray) (b : UInt8) (w : World) (hs : s.size ≤ 1048576) :
    Calls Tryd.prog 54 #[.string s, .int .u8 b.toNat] w fun e w' => ∃ v', e = .returned v' ∧ OwnS w' w.heap.size v' (spB b s) ∧ Kept w w' := by
  have HS := Lib.hid hs
  go_enter Tryd.func54, Tryd.ntmps54
  go_wp2_with fail
  go_loopw [5, 6, 7] (fun s5 s6 s7 wr => ∃ (k a : Nat) (L : List (List UInt8)), k ≤ s.size ∧ a ≤ k ∧ s7 = .int .i64 k ∧ s6 = .int .i64 a ∧ splitOn b (s.data.toList.take k) = L ++ [pc s a k] ∧ OwnS wr w.heap.size s5 (L.map tx) ∧ Kept w wr) (fun _ _ i _ => s.size - (RowKit.intOf i).toNat)
  case atStart => exact ⟨0, 0, [], Nat.zero_le _, Nat.le_refl _, rfl, rfl, rfl, nilS _ _, Kept.refl _⟩
  case round =>
    obtain ⟨k, a, L, hk, ha, rfl, rfl, hsp, ho, hkept⟩ := hrel
    have hll : L.length ≤ k := by
      have h1 := splitOn_length_le b (s.data.toList.take k)
      rw [hsp, List.length_append, List.length_singleton, List.length_take, ← size_eq] at h1
      omega
    have HO := Lib.hid ho
    have HSP := Lib.hid hsp
    have hps : (tx (pc s a k)).size ≤ maxLen := by rw [tx_size, pc_size s a k hk]; unfold maxLen; omega
    have HPS := Lib.hid hps
    clear ho hsp hps
    by_cases hlt : k < s.size
    · have HZ := Lib.hid (byte_get s k hlt)
      have hlt' : (k : Int) < (s.size : Int) := by omega
      by_cases hc : s[k] = b
      · have hcb : s[k].toNat = b.toNat := by rw [hc]
        have HSN : Hid (splitOn b (s.data.toList.take (k + 1)) = (L ++ [pc s a k]) ++ [pc s (k + 1) (k + 1)]) := Lib.hid (by rw [take_snoc HZ.out, hc, splitOn_snoc, HSP.out, pc_none])
        have HC := Lib.hid hc
        have HE := Lib.hid (pc_ext s a k)
        have ha' : (a : Int) ≤ (k : Int) := by omega
        clear hc
        go_wp2_with (at_builtin; refine wpList_append_SL _ rfl _ _ rfl w.heap.size _ (L.map tx) rfl (HO.out.kept ((Kept.refl _).alloc _)) _ [tx (pc s a k)] rfl (by first | (rw [HE.out]; exact strs_box1 (Box.new _ _ _ _ rfl) HPS.out) | exact strs_box1 (HE.out ▸ Box.new _ _ _ _ rfl) HPS.out) (by rw [List.length_map]; simp only [List.length_cons, List.length_nil]; omega) (by have := hkept.size; simp; omega) ?_; intro v3 w3 o3 g3 n3)
        have k3 := (hkept.alloc (.cells #[.string (s.extract a k)] 9)).grew (HO.out.kept ((Kept.refl _).alloc _)).1 g3 (Nat.le_refl _)
        have O3 : Hid (OwnS w3 w.heap.size v3 ((L ++ [pc s a k]).map tx)) := Lib.hid (by rw [List.map_append]; exact o3)
        clear o3 n3 g3
        go_wp2_with fail
        go_roundw
        case rel => exact ⟨k + 1, k + 1, _, by omega, Nat.le_refl _, by go_num, by go_num, HSN.out, O3.out, k3⟩
        case measure => simp [RowKit.intOf]; omega
      · have hcb : ¬ s[k].toNat = b.toNat := fun e => hc (UInt8.toNat_inj.1 e)
        have HSN : Hid (splitOn b (s.data.toList.take (k + 1)) = L ++ [pc s a (k + 1)]) := Lib.hid (by rw [take_snoc HZ.out, splitOn_snoc_ne hc HSP.out, pc_snoc HZ.out hk ha])
        clear hc
        go_wp2_with fail
        go_roundw
        case rel => exact ⟨k + 1, a, L, by omega, by omega, by go_num, rfl, HSN.out, HO.out, hkept⟩
        case measure => simp [RowKit.intOf]; omega
    · obtain rfl : k = s.size := by omega
      have HE := Lib.hid (pc_ext s a s.size)
      have ha' : (a : Int) ≤ (s.size : Int) := by omega
      have HF : Hid ((L.map tx) ++ [tx (pc s a s.size)] = spB b s) := Lib.hid (by
        unfold spB
        have e : s.data.toList.take s.size = s.data.toList := List.take_of_length_le (by rw [size_eq]; exact Nat.le_refl _)
        have h1 := HSP.out
        rw [e] at h1
        rw [h1, List.map_append]
        rfl)
      go_wp2_with (at_builtin; refine wpList_append_SL _ rfl _ _ rfl w.heap.size _ (L.map tx) rfl (HO.out.kept ((Kept.refl _).alloc _)) _ [tx (pc s a s.size)] rfl (by first | (rw [HE.out]; exact strs_box1 (Box.new _ _ _ _ rfl) HPS.out) | exact strs_box1 (HE.out ▸ Box.new _ _ _ _ rfl) HPS.out) (by rw [List.length_map]; simp only [List.length_cons, List.length_nil]; omega) (by have := hkept.size; simp; omega) ?_; intro v3 w3 o3 g3 n3)
      have k3 := (hkept.alloc (.cells #[.string (s.extract a s.size)] 9)).grew (HO.out.kept ((Kept.refl _).alloc _)).1 g3 (Nat.le_refl _)
      rw [HF.out] at o3
      have O3 := Lib.hid o3
      clear o3 n3 g3
      go_wp2_with fail
      go_ret
      exact ⟨_, rfl, O3.out, k3⟩
end Go.Proofs.YtfonfekejbmamaaDoor

/- Points: reading their text: plain laws; the reference's side. -/
namespace Go.Proofs.YtfonfekejbmamaaDoor
set_option linter.unusedVariables false
set_option linter.unusedSimpArgs false
set_option linter.unnecessarySimpa false
open Go.RowKit Go.Lib

theorem tp_hit {l : List UInt8} (h : l[0]? = some 45) : trimPrefix l [45] = l.drop 1 ∧ hasPrefix l [45] = true := by
  cases l with
  | nil => cases h
  | cons c r =>
    have hc : c = 45 := by simpa using h
    subst hc
    unfold trimPrefix hasPrefix
    simp [List.isPrefixOf]
theorem tp_miss {l : List UInt8} (h : l[0]? ≠ some 45) : trimPrefix l [45] = l ∧ hasPrefix l [45] = false := by
  cases l with
  | nil => exact ⟨rfl, rfl⟩
  | cons c r =>
    have hc : c ≠ 45 := by simpa using h
    have hne : (45 == c) = false := beq_eq_false_iff_ne.2 (Ne.symm hc)
    unfold trimPrefix hasPrefix
    simp [List.isPrefixOf, hne]
def dg2 (p q : UInt8) : Nat := 10 * (p.toNat - 48) + (q.toNat - 48)
theorem pt_shape {l : List UInt8} {n : Int} (hg : ptGood n) (h : ptxt n = l) :
    ∃ u : Nat, u ≤ 1000000 ∧ splitOn 46 (trimPrefix l [45]) = [decDigits (u / 100), [UInt8.ofNat (48 + u / 10 % 10), UInt8.ofNat (48 + u % 10)]] ∧ hasPrefix l [45] = decide (n < 0) ∧ n = if hasPrefix l [45] then -(u : Int) else (u : Int) := by
  subst h
  obtain ⟨h1, h2⟩ := ptxt_sign n
  unfold ptGood at hg
  refine ⟨n.natAbs, by omega, by rw [h1, ptN_split, two_digits], h2, ?_⟩
  rw [h2]
  by_cases hn : n < 0
  · rw [decide_eq_true hn]; simp; omega
  · rw [decide_eq_false hn]; simp; omega
/-- where one of the steps fails, there is no number with the text -/
theorem rd_no {l : List UInt8} (h : ∀ p c d a, splitOn 46 (trimPrefix l [45]) = [p, [c, d]] → readNum 6 p = some a → isDg c = true → isDg d = true → False) : IsRead l 0 false := by
  refine .inr ⟨rfl, rfl, fun n hg e => ?_⟩
  obtain ⟨u, hu, hs, _, _⟩ := pt_shape hg e
  exact h _ _ _ (u / 100) hs (readNum_dec (k := 5) (by omega)) (isDg_of (Nat.mod_lt _ (by decide))) (isDg_of (Nat.mod_lt _ (by decide)))
/-- what the steps compute is the only candidate -/
theorem rd_only {l p : List UInt8} {c d : UInt8} {a : Nat} {n : Int} (hs : splitOn 46 (trimPrefix l [45]) = [p, [c, d]]) (ha : readNum 6 p = some a) (hg : ptGood n) (e : ptxt n = l) :
    n = if hasPrefix l [45] then -((100 * a + dg2 c d : Nat) : Int) else ((100 * a + dg2 c d : Nat) : Int) := by
  obtain ⟨u, hu, hs', _, hn⟩ := pt_shape hg e
  rw [hs] at hs'
  simp only [List.cons.injEq, and_true] at hs'
  obtain ⟨rfl, rfl, rfl⟩ := hs'
  rw [readNum_dec (k := 5) (by omega)] at ha
  have ha := Option.some.inj ha
  have hd : 100 * a + dg2 (UInt8.ofNat (48 + u / 10 % 10)) (UInt8.ofNat (48 + u % 10)) = u := by
    unfold dg2
    rw [toNat_of (Nat.mod_lt _ (by decide)), toNat_of (Nat.mod_lt _ (by decide))]
    omega
  rw [hd]
  exact hn
theorem rd_yes {l p : List UInt8} {c d : UInt8} {a : Nat} {v : Int} (hs : splitOn 46 (trimPrefix l [45]) = [p, [c, d]]) (ha : readNum 6 p = some a)
    (hv : v = if hasPrefix l [45] then -((100 * a + dg2 c d : Nat) : Int) else ((100 * a + dg2 c d : Nat) : Int)) :
    (ptGood v ∧ ptxt v = l → IsRead l v true) ∧ (¬ (ptGood v ∧ ptxt v = l) → IsRead l 0 false) := by
  refine ⟨fun h => .inl ⟨rfl, h.1, h.2⟩, fun h => .inr ⟨rfl, rfl, fun n hg e => ?_⟩⟩
  have := rd_only hs ha hg e
  rw [← hv] at this
  subst this
  exact h ⟨hg, e⟩
theorem rdV_neg {k : Nat} {s : ByteArray} : rdV k s < 0 ↔ readNum k s.data.toList = none := by
  unfold rdV
  cases readNum k s.data.toList with
  | none => simp
  | some n => simp
end Go.Proofs.YtfonfekejbmamaaDoor

/- Texts, plain: the text of an item and of a list of items, and parsing them. -/
namespace Go.Proofs.YtfonfekejbmamaaDoor
set_option linter.unusedVariables false
set_option linter.unusedSimpArgs false
set_option linter.unnecessarySimpa false
open Go.Lib

def signL (m : Int) : List UInt8 := if m = 1 then [60] else if m = 2 then [101] else if m = 3 then [42] else []
def wordI (p : ByteArray × Int) : List UInt8 := p.1.data.toList ++ signL p.2
def itW (it : ItemD) : List (List UInt8) := (it.names.zip it.marks).map wordI
def lateL (b : Bool) : List UInt8 := if b then [32, 120] else []
def itTxt (it : ItemD) : List UInt8 := join (itW it) [43] ++ lateL it.late
def endM (w : List UInt8) : Int := match w.getLast? with
  | some b => if b = 60 then 1 else if b = 101 then 2 else if b = 42 then 3 else 0
  | none => 0
def cutM (w : List UInt8) : List UInt8 := if endM w = 0 then w else w.dropLast
def nameM (w : List UInt8) : ByteArray := ⟨(cutM w).toArray⟩
def itP (s : List UInt8) : ItemD := ⟨(splitOn 43 (trimSuffix s [32, 120])).map nameM, (splitOn 43 (trimSuffix s [32, 120])).map endM, hasSuffix s [32, 120]⟩
theorem endM_snoc (w : List UInt8) (b : UInt8) : endM (w ++ [b]) = if b = 60 then 1 else if b = 101 then 2 else if b = 42 then 3 else 0 := by
  unfold endM
  simp
theorem endM_nil : endM [] = 0 := rfl
theorem wordI_P (w : List UInt8) : wordI (nameM w, endM w) = w := by
  unfold wordI nameM cutM
  induction w using snocInd with
  | h0 => rfl
  | h1 w b _ =>
    simp only [endM_snoc]
    by_cases h1 : b = 60
    · subst h1; simp [signL]
    · by_cases h2 : b = 101
      · subst h2; simp [signL]
      · by_cases h3 : b = 42
        · subst h3; simp [signL]
        · simp [h1, h2, h3, signL]
theorem suffix_back (s p : List UInt8) : trimSuffix s p ++ (if hasSuffix s p then p else []) = s := by
  unfold trimSuffix hasSuffix
  split
  · rename_i h
    have hs := List.isSuffixOf_iff_suffix.1 h
    obtain ⟨t, rfl⟩ := hs
    simp
  · simp
theorem zip_maps {α β γ : Type} (f : α → β) (g : α → γ) : ∀ L : List α, (L.map f).zip (L.map g) = L.map fun x => (f x, g x)
  | [] => rfl
  | x :: L => by simp [zip_maps f g L]
/-- The text of what is parsed. -/
theorem itTxt_P (s : List UInt8) : itTxt (itP s) = s := by
  unfold itTxt itW itP
  simp only [zip_maps, List.map_map]
  have e : (wordI ∘ fun x => (nameM x, endM x)) = id := by funext w; exact wordI_P w
  rw [e, List.map_id, splitOn_join]
  exact suffix_back s [32, 120]

theorem nmB_cases {c : UInt8} (h : nmB c = true) : c ≠ 60 ∧ c ≠ 101 ∧ c ≠ 42 ∧ c ≠ 43 ∧ c ≠ 120 ∧ c ≠ 10 ∧ c ≠ 32 := by
  have hk : ∀ k : UInt8, nmB k = false → c ≠ k := fun k hk e => by rw [e, hk] at h; cases h
  exact ⟨hk _ (by decide), hk _ (by decide), hk _ (by decide), hk _ (by decide), hk _ (by decide), hk _ (by decide), hk _ (by decide)⟩
theorem name_of {s : ByteArray} (h : nameB s = true) : (∀ c ∈ s.data.toList, nmB c = true) ∧ s.data.toList ≠ [] := by
  unfold nameB at h
  simp only [Bool.and_eq_true] at h
  refine ⟨fun c hc => List.all_eq_true.1 h.1 c hc, fun e => ?_⟩
  have h2 := h.2
  unfold inB at h2
  rw [size_eq, e] at h2
  simp at h2
theorem sign_of {m : Int} (h : inB m 0 3 = true) : m = 0 ∨ m = 1 ∨ m = 2 ∨ m = 3 := by
  unfold inB at h
  simp at h
  omega
/-- A word of a valid item: it is cut into what it was made of; none of its bytes is a '+', a line's end; it does not end with an 'x'. -/
theorem word_back {s : ByteArray} {m : Int} (h : nameB s = true) (hm : inB m 0 3 = true) : nameM (wordI (s, m)) = s ∧ endM (wordI (s, m)) = m ∧ (∀ c ∈ wordI (s, m), c ≠ 43 ∧ c ≠ 10 ∧ c ≠ 32) ∧ ∃ w c, wordI (s, m) = w ++ [c] ∧ c ≠ 120 := by
  obtain ⟨ha, hne⟩ := name_of h
  obtain ⟨w, c, hw⟩ : ∃ w c, s.data.toList = w ++ [c] := ⟨_, _, (List.dropLast_concat_getLast hne).symm⟩
  have hc := nmB_cases (ha c (by rw [hw]; simp))
  have hall : ∀ x ∈ s.data.toList, x ≠ 43 ∧ x ≠ 10 ∧ x ≠ 32 := fun x hx => by have := nmB_cases (ha x hx); exact ⟨this.2.2.2.1, this.2.2.2.2.2.1, this.2.2.2.2.2.2⟩
  have hs : (⟨s.data.toList.toArray⟩ : ByteArray) = s := mk_data s
  unfold nameM cutM wordI
  rcases sign_of hm with rfl | rfl | rfl | rfl
  · have e : endM (s.data.toList ++ signL 0) = 0 := by
      simp only [signL]
      simp only [show ¬ ((0 : Int) = 1) by decide, show ¬ ((0 : Int) = 2) by decide, show ¬ ((0 : Int) = 3) by decide, if_false, List.append_nil]
      rw [hw, endM_snoc, if_neg hc.1, if_neg hc.2.1, if_neg hc.2.2.1]
    refine ⟨by rw [e]; simpa [signL] using hs, e, by simpa [signL] using hall, w, c, by simpa [signL] using hw, hc.2.2.2.2.1⟩
  · refine ⟨by rw [show signL 1 = [60] from rfl, endM_snoc]; simpa using hs, by rw [show signL 1 = [60] from rfl, endM_snoc]; rfl, ?_, s.data.toList, 60, rfl, by decide⟩
    intro x hx
    rcases List.mem_append.1 hx with h | h
    · exact hall x h
    · have : x = 60 := by simpa [signL] using h
      subst this; decide
  · refine ⟨by rw [show signL 2 = [101] from rfl, endM_snoc]; simpa using hs, by rw [show signL 2 = [101] from rfl, endM_snoc]; rfl, ?_, s.data.toList, 101, rfl, by decide⟩
    intro x hx
    rcases List.mem_append.1 hx with h | h
    · exact hall x h
    · have : x = 101 := by simpa [signL] using h
      subst this; decide
  · refine ⟨by rw [show signL 3 = [42] from rfl, endM_snoc]; simpa using hs, by rw [show signL 3 = [42] from rfl, endM_snoc]; rfl, ?_, s.data.toList, 42, rfl, by decide⟩
    intro x hx
    rcases List.mem_append.1 hx with h | h
    · exact hall x h
    · have : x = 42 := by simpa [signL] using h
      subst this; decide
theorem words_back : ∀ {ns : List ByteArray} {ms : List Int}, (∀ s ∈ ns, nameB s = true) → (∀ m ∈ ms, inB m 0 3 = true) → ms.length = ns.length →
    ((ns.zip ms).map wordI).map nameM = ns ∧ ((ns.zip ms).map wordI).map endM = ms ∧ ∀ x ∈ (ns.zip ms).map wordI, (∀ c ∈ x, c ≠ 43 ∧ c ≠ 10 ∧ c ≠ 32) ∧ ∃ w c, x = w ++ [c] ∧ c ≠ 120
  | [], [], _, _, _ => ⟨rfl, rfl, fun x hx => by simp at hx⟩
  | s :: ns, m :: ms, h1, h2, h3 => by
    obtain ⟨a, b, c⟩ := words_back (ns := ns) (ms := ms) (fun x hx => h1 x (List.mem_cons_of_mem _ hx)) (fun x hx => h2 x (List.mem_cons_of_mem _ hx)) (by simpa using h3)
    obtain ⟨a', b', c'⟩ := word_back (h1 s (by simp)) (h2 m (by simp))
    refine ⟨by simp only [List.zip_cons_cons, List.map_cons]; rw [a, a'], by simp only [List.zip_cons_cons, List.map_cons]; rw [b, b'], fun x hx => ?_⟩
    simp only [List.zip_cons_cons, List.map_cons] at hx
    rcases List.mem_cons.1 hx with rfl | hx
    · exact c'
    · exact c x hx
theorem join_end : ∀ {L : List (List UInt8)} {sep : List UInt8}, L ≠ [] → (∀ x ∈ L, ∃ w c, x = w ++ [c] ∧ c ≠ 120) → ∃ w c, join L sep = w ++ [c] ∧ c ≠ 120 := by
  intro L sep
  induction L with
  | nil => intro h; exact absurd rfl h
  | cons x t ih =>
    intro _ h
    cases t with
    | nil => rw [join_one]; exact h x (by simp)
    | cons y t =>
      obtain ⟨w, c, e, hc⟩ := ih (by simp) (fun z hz => h z (List.mem_cons_of_mem _ hz))
      refine ⟨x ++ sep ++ w, c, ?_, hc⟩
      rw [join_cons] at e ⊢
      simp only [joinTail, List.map_cons, List.flatten_cons] at e ⊢
      rw [List.append_assoc, e]
      simp
theorem item_of {it : ItemD} (h : itemB it = true) : (∀ s ∈ it.names, nameB s = true) ∧ (∀ m ∈ it.marks, inB m 0 3 = true) ∧ it.marks.length = it.names.length ∧ it.names ≠ [] ∧ it.names.length ≤ 3 := by
  unfold itemB at h
  simp only [Bool.and_eq_true] at h
  obtain ⟨⟨⟨h1, h2⟩, h3⟩, h4⟩ := h
  refine ⟨List.all_eq_true.1 h1, List.all_eq_true.1 h4, by simpa using h3, fun e => ?_, ?_⟩
  · rw [e] at h2; unfold inB at h2; simp at h2
  · unfold inB at h2; simp at h2; omega
/-- Parsing a valid item's text. -/
theorem itP_Txt {it : ItemD} (h : itemB it = true) : itP (itTxt it) = it := by
  obtain ⟨h1, h2, h3, h4, _⟩ := item_of h
  obtain ⟨a, b, c⟩ := words_back h1 h2 h3
  have hW : itW it ≠ [] := by
    unfold itW
    intro e
    rw [e] at a
    exact h4 a.symm
  obtain ⟨w, d, e, hd⟩ := join_end (sep := [43]) hW (fun x hx => (c x hx).2)
  have hsplit : splitOn 43 (join (itW it) [43]) = itW it := splitOn_of_join hW (fun x hx hm => ((c x hx).1 43 hm).1 rfl)
  have hT : trimSuffix (itTxt it) [32, 120] = join (itW it) [43] ∧ hasSuffix (itTxt it) [32, 120] = it.late := by
    unfold itTxt lateL trimSuffix hasSuffix
    cases it.late with
    | true =>
      have : [32, 120].isSuffixOf (join (itW it) [43] ++ [32, 120]) = true := List.isSuffixOf_iff_suffix.2 ⟨_, rfl⟩
      simp only [if_true, this]
      simp
    | false =>
      have : [32, 120].isSuffixOf (join (itW it) [43]) = false := by
        rw [Bool.eq_false_iff]
        intro hx
        obtain ⟨t, ht⟩ := List.isSuffixOf_iff_suffix.1 hx
        rw [e] at ht
        have : (t ++ [32]) ++ [120] = w ++ [d] := by simpa using ht
        have := (List.append_inj' this rfl).2
        injection this with this
        exact hd this.symm
      simp [this]
  unfold itP
  rw [hT.1, hT.2, hsplit]
  show (⟨(itW it).map nameM, (itW it).map endM, it.late⟩ : ItemD) = it
  unfold itW
  rw [a, b]
/-- A valid item's text bears no line's end. -/
theorem itTxt_line {it : ItemD} (h : itemB it = true) : 10 ∉ itTxt it := by
  obtain ⟨h1, h2, h3, h4, _⟩ := item_of h
  obtain ⟨a, b, c⟩ := words_back h1 h2 h3
  have hj : ∀ (L : List (List UInt8)), (∀ x ∈ L, ∀ d ∈ x, d ≠ 43 ∧ d ≠ 10 ∧ d ≠ 32) → 10 ∉ join L [43] := by
    intro L
    induction L with
    | nil => intro _ hm; simp [join_nil] at hm
    | cons x t ih =>
      intro hL hm
      cases t with
      | nil =>
        rw [join_one] at hm
        exact (hL x (by simp) 10 hm).2.1 rfl
      | cons y t =>
        have e : join (x :: y :: t) [43] = x ++ [43] ++ join (y :: t) [43] := by rw [join_cons, join_cons]; simp [joinTail]
        rw [e] at hm
        rcases List.mem_append.1 hm with hm | hm
        · rcases List.mem_append.1 hm with hm | hm
          · exact (hL x (by simp) 10 hm).2.1 rfl
          · simp at hm
        · exact ih (fun z hz => hL z (List.mem_cons_of_mem _ hz)) hm
  unfold itTxt
  intro hm
  rcases List.mem_append.1 hm with hm | hm
  · exact hj _ (fun x hx => (c x hx).1) hm
  · unfold lateL at hm
    cases it.late <;> simp at hm

/-! ### lists -/
def itsTxt (its : List ItemD) : List UInt8 := (its.map fun it => itTxt it ++ [10]).flatten
/-- Does a text end with a line's end, or is it empty? -/
def lnOk (s : List UInt8) : Bool := match s.getLast? with | none => true | some b => b == 10
def lns (s : List UInt8) : List (List UInt8) := (splitOn 10 s).dropLast
def psOk (s : List UInt8) : Bool := lnOk s && (decide ((lns s).length ≤ 14) && (lns s).all fun l => itemB (itP l))
def psV (s : List UInt8) : List ItemD := if psOk s then (lns s).map itP else []
theorem lns_nil : lns [] = [] := rfl
theorem lns_snoc (p : List UInt8) : lns (p ++ [10]) = splitOn 10 p := by unfold lns; rw [splitOn_snoc, List.dropLast_concat]
theorem lnOk_snoc (p : List UInt8) (b : UInt8) : lnOk (p ++ [b]) = (b == 10) := by unfold lnOk; simp
theorem lns_txt {its : List ItemD} (h : ∀ it ∈ its, itemB it = true) : lns (itsTxt its) = its.map itTxt ∧ lnOk (itsTxt its) = true := by
  have hs : ∀ its : List ItemD, (∀ it ∈ its, itemB it = true) → splitOn 10 (itsTxt its) = its.map itTxt ++ [[]] := by
    intro its
    induction its with
    | nil => intro _; rfl
    | cons it t ih =>
      intro h
      have e : itsTxt (it :: t) = itTxt it ++ 10 :: itsTxt t := by unfold itsTxt; simp
      rw [e, splitOn_hit (itTxt_line (h it (by simp))), ih (fun x hx => h x (List.mem_cons_of_mem _ hx))]
      rfl
  refine ⟨by unfold lns; rw [hs its h, List.dropLast_concat], ?_⟩
  clear h hs
  rcases List.eq_nil_or_concat its with rfl | ⟨t, it, rfl⟩
  · rfl
  · have e : itsTxt (t ++ [it]) = (itsTxt t ++ itTxt it) ++ [10] := by unfold itsTxt; simp
    rw [List.concat_eq_append] at *
    rw [e, lnOk_snoc]
    rfl
/-- Parsing a valid list's text. -/
theorem psV_txt {its : List ItemD} (h : itemsB its = true) : psOk (itsTxt its) = true ∧ psV (itsTxt its) = its := by
  unfold itemsB at h
  simp only [Bool.and_eq_true] at h
  have ha := List.all_eq_true.1 h.1
  obtain ⟨e1, e2⟩ := lns_txt ha
  have hm : (its.map itTxt).map itP = its := by
    rw [List.map_map]
    conv => rhs; rw [← List.map_id its]
    exact List.map_congr_left fun it hit => itP_Txt (ha it hit)
  have hok : psOk (itsTxt its) = true := by
    unfold psOk
    rw [e1, e2]
    simp only [Bool.true_and, Bool.and_eq_true, List.length_map, List.all_map]
    refine ⟨by simpa using h.2, List.all_eq_true.2 fun it hit => ?_⟩
    show itemB (itP (itTxt it)) = true
    rw [itP_Txt (ha it hit)]
    exact ha it hit
  refine ⟨hok, ?_⟩
  unfold psV
  rw [hok, if_pos rfl, e1, hm]
end Go.Proofs.YtfonfekejbmamaaDoor

/- Items: the text of an item, both sides. -/
namespace Go.Proofs.YtfonfekejbmamaaDoor
set_option linter.unusedVariables false
set_option linter.unusedSimpArgs false
set_option linter.unnecessarySimpa false
open Go.RowKit Go.Lib

def itT (it : ItemD) : ByteArray := tx (itTxt it)
def sgB (m : Nat) : ByteArray := tx (signL (m : Int))
theorem sgB_size (m : Nat) : (sgB m).size ≤ 1 := by
  unfold sgB
  rw [tx_size]
  unfold signL
  split
  · simp
  · split
    · simp
    · split <;> simp
theorem itW_length {it : ItemD} (h : it.marks.length = it.names.length) : (itW it).length = it.names.length := by
  unfold itW
  rw [List.length_map, List.length_zip]
  omega
theorem itW_get {it : ItemD} {k : Nat} {s : ByteArray} {m : Nat} (h1 : it.names[k]? = some s) (h2 : it.marks[k]? = some (m : Int)) : (itW it)[k]? = some (s.data.toList ++ signL (m : Int)) := by
  unfold itW
  rw [List.getElem?_map, (List.getElem?_zip_eq_some (z := (s, (m : Int)))).2 ⟨h1, h2⟩]
  rfl
/-- The text of the first k words. -/
def jW (it : ItemD) (k : Nat) : ByteArray := tx (join ((itW it).take k) [43])
theorem jW_zero (it : ItemD) : jW it 0 = ⟨#[]⟩ := rfl
theorem jW_one {it : ItemD} {s : ByteArray} {m : Nat} (h1 : it.names[0]? = some s) (h2 : it.marks[0]? = some (m : Int)) : jW it 1 = s ++ sgB m := by
  unfold jW
  rw [take_snoc (itW_get h1 h2), List.take_zero, List.nil_append, join_one, ← tx_app, tx_of]
  rfl
theorem jW_succ {it : ItemD} {k : Nat} {s : ByteArray} {m : Nat} (hk : 0 < k) (h1 : it.names[k]? = some s) (h2 : it.marks[k]? = some (m : Int)) : jW it (k + 1) = jW it k ++ ⟨#[43]⟩ ++ (s ++ sgB m) := by
  have hg := itW_get h1 h2
  have hne : (itW it).take k ≠ [] := by
    intro e
    have h0 := congrArg List.length e
    have hlt := (List.getElem?_eq_some_iff.1 hg).1
    rw [List.length_take, List.length_nil] at h0
    omega
  unfold jW
  rw [take_snoc hg, join_snoc _ _ _ hne]
  show tx (_ ++ [43] ++ _) = tx _ ++ tx [43] ++ (s ++ sgB m)
  rw [tx_app]
  rw [← tx_app]
  congr 1
theorem word_size {it : ItemD} (hb : itemB it = true) {k : Nat} {s : ByteArray} (h : it.names[k]? = some s) : s.size ≤ 5 := by
  have hn := (item_of hb).1 s (List.mem_of_getElem? h)
  unfold nameB at hn
  simp only [Bool.and_eq_true] at hn
  have := inB_true hn.2
  omega
theorem jW_size {it : ItemD} (hb : itemB it = true) : ∀ k, k ≤ it.names.length → (jW it k).size ≤ 7 * k
  | 0, _ => by rw [jW_zero]; exact Nat.le_refl 0
  | k + 1, hk => by
    obtain ⟨_, hm, hl, _, _⟩ := item_of hb
    have h1 : it.names[k]? = some it.names[k] := List.getElem?_eq_getElem (by omega)
    have h2 : it.marks[k]? = some it.marks[k] := List.getElem?_eq_getElem (by omega)
    have hmm := hm _ (List.mem_of_getElem? h2)
    obtain ⟨m, e⟩ : ∃ m : Nat, it.marks[k] = (m : Int) := by
      rcases sign_of hmm with e | e | e | e
      · exact ⟨0, e⟩
      · exact ⟨1, e⟩
      · exact ⟨2, e⟩
      · exact ⟨3, e⟩
    rw [e] at h2
    have ih := jW_size hb k (by omega)
    have hs := word_size hb h1
    have hg := sgB_size m
    rcases Nat.eq_zero_or_pos k with h0 | h0
    · subst h0
      rw [jW_one h1 h2, ByteArray.size_append]
      omega
    · rw [jW_succ h0 h1 h2, ByteArray.size_append, ByteArray.size_append, ByteArray.size_append]
      have e1 : (⟨#[43]⟩ : ByteArray).size = 1 := rfl
      omega
theorem itT_of {it : ItemD} (hb : itemB it = true) : itT it = if it.late then jW it it.names.length ++ ⟨#[32, 120]⟩ else jW it it.names.length := by
  have hl := (item_of hb).2.2.1
  have e : (itW it).take it.names.length = itW it := List.take_of_length_le (by rw [itW_length hl]; exact Nat.le_refl _)
  unfold itT itTxt jW lateL
  rw [e]
  cases it.late with
  | true =>
    show tx (_ ++ [32, 120]) = tx _ ++ tx [32, 120]
    rw [tx_app]
  | false =>
    show tx (_ ++ []) = _
    rw [List.append_nil]
    rfl
theorem itT_size {it : ItemD} (hb : itemB it = true) : (itT it).size ≤ 23 := by
  have h1 := jW_size hb it.names.length (Nat.le_refl _)
  have h2 := (item_of hb).2.2.2.2
  rw [itT_of hb]
  cases it.late with
  | true =>
    show (_ ++ _ : ByteArray).size ≤ 23
    rw [ByteArray.size_append]
    have e : (⟨#[32, 120]⟩ : ByteArray).size = 2 := rfl
    omega
  | false => show (jW it it.names.length).size ≤ 23; omega
theorem mark_nat {it : ItemD} (hb : itemB it = true) {k : Nat} {z : Int} (h : it.marks[k]? = some z) : ∃ m : Nat, z = (m : Int) ∧ m ≤ 3 := by
  have := sign_of ((item_of hb).2.1 z (List.mem_of_getElem? h))
  rcases this with rfl | rfl | rfl | rfl
  · exact ⟨0, rfl, by omega⟩
  · exact ⟨1, rfl, by omega⟩
  · exact ⟨2, rfl, by omega⟩
  · exact ⟨3, rfl, by omega⟩
def sgCells : Array Value := #[.string ⟨#[]⟩, .string ⟨#[60]⟩, .string ⟨#[101]⟩, .string ⟨#[42]⟩]
theorem sgCells_at {m : Nat} (h : m ≤ 3) : sgCells.toList[m]? = some (.string (sgB m)) := by
  have hm : m = 0 ∨ m = 1 ∨ m = 2 ∨ m = 3 := by omega
  rcases hm with rfl | rfl | rfl | rfl <;> rfl
theorem itSigns_any (w : World) :
    Calls Tryd.prog 60 #[] w fun e w' => e = .returned (.slice (some ⟨w.heap.size, 0, none⟩) 4 4) ∧ Box w' w.heap.size 9 sgCells ∧ Kept w w' := by
  go_enter Tryd.func60, Tryd.ntmps60
  go_wp2_with fail
  go_ret
  exact ⟨rfl, Box.new w _ _ _ rfl, (Kept.refl w).alloc _⟩
set_option maxRecDepth 100000 in
set_option maxHeartbeats 8000000 in
theorem itText_any (v : Value) (it : ItemD) (w : World) (h : ItemAt w v it) (hb : itemB it = true) :
    Calls Tryd.prog 62 #[v] w fun e w' => e = .returned (.string (itT it)) ∧ Kept w w' := by
  obtain ⟨nv, mv, rfl, q1, q2⟩ := h
  obtain ⟨A1, c1, rfl, hnc1, hcm1, _⟩ := q1.1.out
  obtain ⟨A2, c2, rfl, hnc2, hcm2, _⟩ := q2.out
  unfold maxLen at hcm1 hcm2
  have H1 := Lib.hid q1
  have H2 := Lib.hid q2
  have HB := Lib.hid hb
  obtain ⟨_, _, hml, hne, hn3⟩ := item_of hb
  have HML := Lib.hid hml
  have hn1 : 0 < it.names.length := by cases hq : it.names with | nil => exact absurd hq hne | cons _ _ => simp
  clear q1 q2 hb hml hne
  go_enter Tryd.func62, Tryd.ntmps62
  have B0 := Box.new w w.heap.size 25 #[.slice A1 it.names.length c1, .slice A2 it.marks.length c2, .bool it.late] rfl
  have K0 : Kept w (w.alloc (.cells #[.slice A1 it.names.length c1, .slice A2 it.marks.length c2, .bool it.late] 25)) := (Kept.refl w).alloc _
  go_wp2_with fail
  generalize w.alloc (.cells #[.slice A1 it.names.length c1, .slice A2 it.marks.length c2, .bool it.late] 25) = w0 at *
  go_loopw [3, 9] (fun s3 s9 wr => ∃ k : Nat, k ≤ it.names.length ∧ s9 = .int .i64 k ∧ s3 = .string (jW it k) ∧ Kept w0 wr) (fun _ i _ => it.names.length - (RowKit.intOf i).toNat)
  case atStart => exact ⟨0, Nat.zero_le _, rfl, by rw [jW_zero], Kept.refl _⟩
  case round =>
    obtain ⟨k, hk, rfl, rfl, hkept⟩ := hrel
    by_cases hlt : k < it.names.length
    · obtain ⟨b, o, s, rfl, hbb, hs, hc⟩ := strs_at (H1.out.1.addr.kept (K0.trans hkept)) hlt
      obtain ⟨b2, o2, z, rfl, hb2, hz, hc2⟩ := ints_at (H2.out.addr.kept (K0.trans hkept)) (k := k) (by rw [HML.out]; exact hlt)
      obtain ⟨m, rfl, hm3⟩ := mark_nat HB.out hz
      have hmk : (k : Int) < (it.marks.length : Int) := by rw [HML.out]; omega
      have hmk2 : k < it.marks.length := by rw [HML.out]; exact hlt
      have hm4 : (m : Int) < 4 := by omega
      have hs5 := word_size HB.out hs
      have hsg := sgB_size m
      have hj := jW_size HB.out k hk
      have hBk := B0.kept hkept
      obtain ⟨x0, y0⟩ := hBk.three
      have AW := Lib.hid (cat_run (x := s) (y := sgB m) rfl (by omega))
      have HS := Lib.hid hs
      have HZ := Lib.hid hz
      clear hs hz
      by_cases hk0 : k = 0
      · have hd : decide ((0 : Int) < (k : Int)) = false := by simp; omega
        have hd2 : decide (0 < k) = false := by simp; omega
        have AJ : Hid (Op.stringOp .add (jW it k) (s ++ sgB m) = pure (.string (jW it (k + 1)))) := Lib.hid (by
          subst hk0
          refine cat_run ?_ (by rw [ByteArray.size_append]; omega)
          rw [jW_one HS.out HZ.out, jW_zero]
          show tx [] ++ _ = _
          rw [← tx_of (s ++ sgB m), tx_app]
          rfl)
        clear hk0
        have aw := AW.out
        have aj := AJ.out
        go_wp2_with fail
        clear hd hd2
        go_region_with (go_at_call 60; (with_reducible refine (itSigns_any _).mono ?_); rintro e w1 ⟨rfl, b1, k1⟩; have kk := hkept.trans ((Kept.refl _).drew.trans k1); obtain ⟨x1, y1⟩ := (B0.kept kk).three; have hc3 := (((Kept.refl _).drew.trans k1).cell (p := ⟨b2, o2 + k, none⟩) hb2).trans hc2; have hc4 : w1.cell? ⟨wr.heap.size, m, none⟩ = some (.string (sgB m)) := b1.at_ (sgCells_at hm3); clear y1 b1)
        all_goals
          go_wp2_with fail
          go_roundw
          case rel => exact ⟨k + 1, by omega, by go_num, rfl, kk⟩
          case measure => simp [RowKit.intOf]; omega
      · have hd : (0 : Int) < (k : Int) := by omega
        have hd2 : 0 < k := by omega
        have AP := Lib.hid (cat_run (x := jW it k) (y := ⟨#[43]⟩) rfl (by have e : (⟨#[43]⟩ : ByteArray).size = 1 := rfl; omega))
        have AJ : Hid (Op.stringOp .add (jW it k ++ ⟨#[43]⟩) (s ++ sgB m) = pure (.string (jW it (k + 1)))) := Lib.hid (cat_run (jW_succ hd2 HS.out HZ.out).symm (by rw [ByteArray.size_append, ByteArray.size_append]; have e : (⟨#[43]⟩ : ByteArray).size = 1 := rfl; omega))
        clear hk0
        have ap := AP.out
        go_wp2_with fail
        clear ap
        have aw := AW.out
        have aj := AJ.out
        go_region_with (go_at_call 60; (with_reducible refine (itSigns_any _).mono ?_); rintro e w1 ⟨rfl, b1, k1⟩; have kk := hkept.trans ((Kept.refl _).drew.trans k1); obtain ⟨x1, y1⟩ := (B0.kept kk).three; have hc3 := (((Kept.refl _).drew.trans k1).cell (p := ⟨b2, o2 + k, none⟩) hb2).trans hc2; have hc4 : w1.cell? ⟨wr.heap.size, m, none⟩ = some (.string (sgB m)) := b1.at_ (sgCells_at hm3); clear y1 b1)
        all_goals
          go_wp2_with fail
          go_roundw
          case rel => exact ⟨k + 1, by omega, by go_num, rfl, kk⟩
          case measure => simp [RowKit.intOf]; omega
    · obtain rfl : k = it.names.length := by omega
      have hBk := B0.kept hkept
      obtain ⟨x0, y0⟩ := hBk.three
      have HT := Lib.hid (itT_of HB.out)
      have hj := jW_size HB.out it.names.length (Nat.le_refl _)
      have AL := Lib.hid (cat_run (x := jW it it.names.length) (y := ⟨#[32, 120]⟩) rfl (by have e : (⟨#[32, 120]⟩ : ByteArray).size = 2 := rfl; omega))
      have al := AL.out
      cases hla : it.late with
      | true =>
        rw [hla] at x0
        have HLA := Lib.hid hla
        clear hla
        go_wp2_with fail
        go_ret
        exact ⟨ret_str (by rw [HT.out, HLA.out]; rfl), K0.trans hkept⟩
      | false =>
        rw [hla] at x0
        have HLA := Lib.hid hla
        clear hla
        go_wp2_with fail
        go_ret
        exact ⟨ret_str (by rw [HT.out, HLA.out]; rfl), K0.trans hkept⟩
end Go.Proofs.YtfonfekejbmamaaDoor

/- The rows' step for statements that list package-level variables: the wrap with the listed variables and the world's shape; what the listed variables give a walk. -/
namespace Go.Proofs.YtfonfekejbmamaaDoor
set_option linter.unusedVariables false
set_option linter.unusedSimpArgs false
set_option linter.unnecessarySimpa false
open Go.ChangeShapes Go.WideShapes Go.ChangeAt Go.RowKit

theorem returns_lot {H : Type} {enc : TypeId × Value → H} {a : Assume} {C : Checked} {os : Os} {f : FuncId} {fn : Func} {s : ChangeSpec} {conds : List PathCond} {apart fresh handsOn again : Bool} {X : World → Array Value → Prop}
    (hX : ∀ (w w' : World) (args : Array Value), w.heap = w'.heap → X w args → X w' args)
    (own : ownKnob C.prog.godebug = none) (started : os.Started) (noInit : C.prog.inits.idxOf? f = none) (hfn : C.prog.funcs[f]? = some fn)
    (witness : ∃ (w : World) (tape : Tape) (i : Input), w.os = os ∧ (w.forCall tape i).Shaped C.prog ∧ i.vars = [] ∧ Input.okWide C.prog (w.forCall tape i) .any w.heap.size f i ∧
      ((s.pre enc C.prog fn conds apart (w.forCall tape i).memory i.args ∧ X (w.forCall tape i).memory i.args) ∧ sizedMet enc C.prog fn (OpenSpec.ofChange s) apart (w.forCall tape i).memory i.args) ∧ a.holds C.prog (lone (Frame.enter C.prog f i.args .normal) [] (w.forCall tape i)))
    (contract : ∀ (W : World) (base : Nat) (args : Array Value) (ds gs : List (DataW H)) (before : List MemPlace),
      (∀ (j : Nat) t v, fn.params[j]? = some t → args[j]? = some v → Value.okWide C.prog W .any base t v) →
      DataW.Whole enc C.prog fn.params.toList s.vars apart W args.toList ds gs before →
      X W args → W.ShapedOpen C.prog →
      Calls C.prog f args W fun e W' => ∃ v, e = .returned v ∧ s.post enc C.prog fn apart fresh handsOn again W args v W') :
    ReturnsInHanded a C os f .any (fun w args => (s.pre enc C.prog fn conds apart w args ∧ X w args) ∧ sizedMet enc C.prog fn (OpenSpec.ofChange s) apart w args) (s.post enc C.prog fn apart fresh handsOn again) := by
  refine returnsInHanded_of_calls own started noInit witness ?_
  intro w tape i _ hsh _ hok hpre hholds
  obtain ⟨_, _, _, fn', hfn', _, _, _, _, hval⟩ := hok
  have e : fn' = fn := Option.some.inj (hfn'.symm.trans hfn)
  subst e
  obtain ⟨⟨⟨ds, gs, before, hw, hc⟩, hx⟩, hz⟩ := hpre
  have hw' := DataW.Whole.of_heap (w' := w.forCall tape i) (by rfl) hw
  refine (contract (w.forCall tape i) w.heap.size i.args ds gs before hval hw' (hX _ _ _ (by rfl) hx) hsh).mono fun e W' ⟨v, he, hp⟩ => ?_
  subst he
  exact ChangeSpec.post_blind hp
theorem tab_of {W : World} (h : laidMet Tryd.prog [("math/bits.deBruijn32tab", Rows.laid_math_bits_deBruijn32tab), ("math/bits.deBruijn64tab", Rows.laid_math_bits_deBruijn64tab), ("internal/strconv.uint64pow10", Rows.laid_internal_strconv_uint64pow10)] W) : HasTab W := by
  have h3 := h.tail.tail
  have e : (Rows.laid_internal_strconv_uint64pow10 : DataW Unit) = Lib.tabData .u64 Lib.pow10Tab := by kernel_rfl
  rw [e] at h3
  have hg : Tryd.prog.globalNamed "internal/strconv.uint64pow10" = some 4 := by kernel_rfl
  have ht := Lib.tabIs_of_head (g := 4) hg (by kernel_rfl) Tryd.underlying140 Tryd.underlying126 (by kernel_rfl) (by kernel_rfl) h3
  refine ⟨ht, ?_⟩
  have hv := ht.cell hg 0 (by decide)
  unfold World.cell? at hv
  cases hh : W.heap[4]? with
  | none => rw [hh] at hv; cases hv
  | some o => exact (Array.getElem?_eq_some_iff.1 hh).1
def HasMax (w : World) : Prop := ∃ m, w.cell? ⟨1, 0, none⟩ = some (.int .i64 m)
theorem cell_lt {w : World} {g o : Nat} {v : Value} (h : w.cell? ⟨g, o, none⟩ = some v) : g < w.heap.size := by
  unfold World.cell? at h
  cases hh : w.heap[g]? with
  | none => simp [hh] at h
  | some o => exact (Array.getElem?_eq_some_iff.1 hh).1
theorem HasMax.kept {w w' : World} (h : HasMax w) (k : Kept w w') : HasMax w' := by
  obtain ⟨m, hm⟩ := h
  exact ⟨m, (k.cell (p := ⟨1, 0, none⟩) (cell_lt hm)).trans hm⟩
theorem max_of {W : World} (h : W.ShapedOpen Tryd.prog) : HasMax W :=
  Go.Proofs.cell_of_shapedOpen_int (zero := #[.int .i64 0]) (t := 3) h (of_decide_eq_true (by kernel_rfl)) (by kernel_rfl) rfl (by kernel_rfl) (by kernel_rfl) Tryd.underlying3
end Go.Proofs.YtfonfekejbmamaaDoor

/- The marks' signs: what the listed variable gives a walk. -/
namespace Go.Proofs.YtfonfekejbmamaaDoor
set_option linter.unusedVariables false
set_option linter.unusedSimpArgs false
set_option linter.unnecessarySimpa false
open Go.ChangeShapes Go.WideShapes Go.ChangeAt Go.RowKit Go.Lib

/-- the marks' signs read as their initialiser lays them -/
def HasSigns (w : World) : Prop := ∀ m, m ≤ 3 → w.cell? ⟨0, m, none⟩ = some (.string (sgB m))
theorem HasSigns.kept {w w' : World} (h : HasSigns w) (k : Kept w w') : HasSigns w' := fun m hm =>
  (k.cell (p := ⟨0, m, none⟩) (cell_lt (h m hm))).trans (h m hm)
theorem signs_head {W : World} {rest : List (String × DataW Unit)} (h : laidMet Tryd.prog (("loop.example/g00912/impl.markSigns", Rows.laid_loop_example_g00912_impl_markSigns) :: rest) W) : HasSigns W := by
  intro r hr
  obtain ⟨ps, ⟨g, t, cs, fuel, p, q, hg, ht, hv, hd, _, _⟩, _, _⟩ := h
  obtain rfl := Option.some.inj ((show Tryd.prog.globalNamed "loop.example/g00912/impl.markSigns" = some 0 by kernel_rfl).symm.trans hg)
  obtain rfl := Option.some.inj ((show (Tryd.prog.globals[0]?).map (·.type) = some 55 by kernel_rfl).symm.trans ht)
  obtain ⟨xs, m, _, ex, _, hl, hel⟩ := DataW.trod_array Tryd.underlying55 hd
  have c5 : Tryd.prog.cellsOf 9 = 1 := by kernel_rfl
  have hE := hel r (by omega)
  rw [c5, Nat.mul_one, List.getElem?_eq_getElem (by omega)] at hE
  obtain ⟨z, e1, e2, _⟩ := DataW.trod_string Tryd.underlying9 hE
  have e3 : (xs.map (·.1)) = [.lit (.string []), .lit (.string [60]), .lit (.string [101]), .lit (.string [42])] := (DataW.agg.inj (Prod.mk.inj ex).1).symm
  have e4 : (xs.map (·.1))[r]? = some (.lit (.string (signL (r : Int)))) := by
    rw [e3]
    have hm : r = 0 ∨ r = 1 ∨ r = 2 ∨ r = 3 := by omega
    rcases hm with rfl | rfl | rfl | rfl <;> rfl
  rw [List.getElem?_map, List.getElem?_eq_getElem (by omega : r < xs.length), e2] at e4
  simp only [Option.map_some, Option.some.injEq, DataW.lit.injEq, Lit.string.injEq] at e4
  have hz : z = sgB r := by unfold sgB; rw [← e4, tx_of]
  rw [World.var?_cell hg hv r, ← hz]
  have : cs.toList[r]? = some (.string z) := by
    have h0 : ((cs.toList.drop r).take 1)[0]? = some (.string z) := by rw [e1]; rfl
    simpa using h0
  simpa using this
theorem signs_of0 {W : World} (h : laidMet Tryd.prog [("loop.example/g00912/impl.markSigns", Rows.laid_loop_example_g00912_impl_markSigns)] W) : HasSigns W := signs_head h
theorem signs_of1 {W : World} {x y : String × DataW Unit} (h : laidMet Tryd.prog [x, ("loop.example/g00912/impl.markSigns", Rows.laid_loop_example_g00912_impl_markSigns), y] W) : HasSigns W := signs_head h.tail
end Go.Proofs.YtfonfekejbmamaaDoor

/- Items: the text of an item, the program's side. -/
namespace Go.Proofs.YtfonfekejbmamaaDoor
set_option linter.unusedVariables false
set_option linter.unusedSimpArgs false
set_option linter.unnecessarySimpa false
open Go.RowKit Go.Lib

def wB (it : ItemD) : List ByteArray := (itW it).map tx
theorem wB_len {it : ItemD} (hl : it.marks.length = it.names.length) : (wB it).length = it.names.length := by
  unfold wB
  rw [List.length_map, itW_length hl]
theorem wB_snoc {it : ItemD} {k : Nat} {s : ByteArray} {m : Nat} (h1 : it.names[k]? = some s) (h2 : it.marks[k]? = some (m : Int)) : (wB it).take (k + 1) = (wB it).take k ++ [s ++ sgB m] := by
  have e : (wB it)[k]? = some (s ++ sgB m) := by
    unfold wB
    rw [List.getElem?_map, itW_get h1 h2]
    show some (tx (_ ++ _)) = _
    rw [← tx_app, tx_of]
    rfl
  exact take_snoc e
theorem wB_join (it : ItemD) : Lib.join ((wB it).map (·.data.toList)) [43] = join (itW it) [43] := by
  unfold wB
  rw [List.map_map]
  have e : ((fun x : ByteArray => x.data.toList) ∘ tx) = id := by funext l; rfl
  rw [e, List.map_id]
end Go.Proofs.YtfonfekejbmamaaDoor
