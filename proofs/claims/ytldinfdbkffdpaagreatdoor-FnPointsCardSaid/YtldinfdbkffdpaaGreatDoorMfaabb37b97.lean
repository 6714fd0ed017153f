/- Contracts of functions that the proof leans on. No condition. -/
import Derived.Test.YtldinfdbkffdpaaGreatDoorMc299962693
import Derived.Test.YtldinfdbkffdpaaGreatDoorShelf
import Derived.Deep.RegionHeld3
import Derived.Deep.DeepCutAuto
/- Contracts of chapter 1: lists of points. -/
namespace Go.Proofs.YtldinfdbkffdpaaGreatDoor
set_option linter.unusedVariables false
set_option linter.unusedSimpArgs false
open Go.RowKit
theorem sum_bd (zs : List Int) (M : Int) (hM : 0 ≤ M) (h : ∀ z ∈ zs, -M ≤ z ∧ z ≤ M) (k : Nat) : -((k : Int) * M) ≤ (zs.take k).sum ∧ (zs.take k).sum ≤ (k : Int) * M := by
  induction zs generalizing k with
  | nil =>
    have : 0 ≤ (k : Int) * M := Int.mul_nonneg (by omega) hM
    simp
    omega
  | cons z zs ih =>
    cases k with
    | zero => simp
    | succ k =>
      have h1 := h z (by simp)
      have h2 := ih (fun y hy => h y (by simp [hy])) k
      have h3 : ((k + 1 : Nat) : Int) * M = (k : Int) * M + M := by rw [Int.natCast_add, Int.add_mul]; simp
      rw [List.take_succ_cons, List.sum_cons, h3]
      omega
theorem poSum_any (v : Value) (zs : List Int) (w : World) (h : Ints w v zs) (hn : zs.length ≤ 60) (hp : zs.all (inB · (-1000000) 1000000) = true) :
    Calls Tryz.prog 55 #[v] w fun e w' => e = .returned (.int .i64 zs.sum) ∧ w = w' := by
  obtain ⟨A, c, rfl, hnc, hcm, hl⟩ := h.out
  unfold maxLen at hcm
  have HL := Lib.hid hl
  have HP := Lib.hid hp
  clear hl h hp
  go_enter Tryz.func55, Tryz.ntmps55
  go_wp2
  go_loop [3, 8] (fun s i => ∃ k : Nat, k ≤ zs.length ∧ i = .int .i64 k ∧ s = .int .i64 (zs.take k).sum) (fun _ i => zs.length - (intOf i).toNat)
  case atStart => exact ⟨0, Nat.zero_le _, rfl, rfl⟩
  case round =>
    obtain ⟨k, hk, rfl, rfl⟩ := hrel
    have hb1 := sum_bd zs 1000000 (by omega) (fun z hz => inB_true (List.all_eq_true.1 HP.out z hz)) k
    by_cases hlt : k < zs.length
    · obtain ⟨b, o, z, rfl, hb, hz, hc⟩ := ints_at HL.out hlt
      have hzb := inB_true (List.all_eq_true.1 HP.out z (List.mem_of_getElem? hz))
      have HZ := Lib.hid hz
      clear hz
      go_wp2
      go_round
      case rel => exact ⟨k + 1, by omega, by go_num, by rw [take_snoc HZ.out, List.sum_append]; simp⟩
      case measure => simp [intOf]; omega
    · go_wp2
      go_ret
      exact ⟨ret_int (by rw [List.take_of_length_le (by omega)]), rfl⟩
theorem sumInts_any (v : Value) (zs : List Int) (w : World) (h : Ints w v zs) (hn : zs.length ≤ 60) (hp : zs.all (inB · (-1000000) 1000000) = true) :
    Calls Tryz.prog 44 #[v] w fun e w' => e = .returned (.int .i64 zs.sum) ∧ w = w' := by
  obtain ⟨A, c, rfl, hnc, hcm, hl⟩ := h.out
  unfold maxLen at hcm
  have HL := Lib.hid hl
  have HP := Lib.hid hp
  clear hl h hp
  go_enter Tryz.func44, Tryz.ntmps44
  go_wp2
  go_loop [3, 8] (fun s i => ∃ k : Nat, k ≤ zs.length ∧ i = .int .i64 k ∧ s = .int .i64 (zs.take k).sum) (fun _ i => zs.length - (intOf i).toNat)
  case atStart => exact ⟨0, Nat.zero_le _, rfl, rfl⟩
  case round =>
    obtain ⟨k, hk, rfl, rfl⟩ := hrel
    have hb1 := sum_bd zs 1000000 (by omega) (fun z hz => inB_true (List.all_eq_true.1 HP.out z hz)) k
    by_cases hlt : k < zs.length
    · obtain ⟨b, o, z, rfl, hb, hz, hc⟩ := ints_at HL.out hlt
      have hzb := inB_true (List.all_eq_true.1 HP.out z (List.mem_of_getElem? hz))
      have HZ := Lib.hid hz
      clear hz
      go_wp2
      go_round
      case rel => exact ⟨k + 1, by omega, by go_num, by rw [take_snoc HZ.out, List.sum_append]; simp⟩
      case measure => simp [intOf]; omega
    · go_wp2
      go_ret
      exact ⟨ret_int (by rw [List.take_of_length_le (by omega)]), rfl⟩
theorem arePoints_any (v : Value) (zs : List Int) (w : World) (h : Ints w v zs) :
    Calls Tryz.prog 26 #[v] w fun e w' => e = .returned (.bool (zs.all (inB · (-1000000) 1000000))) ∧ w = w' := by
  have HI := Lib.hid h
  clear h
  go_enter Tryz.func26, Tryz.ntmps26
  go_wp2_with (go_at_call 56; refine (allWithin_any _ _ _ _ _ HI.out).mono ?_; rintro e w' ⟨rfl, rfl⟩)
  go_ret
  exact ⟨rfl, rfl⟩
theorem ints_one (w : World) (x : Int) (t : TypeId) : Ints (w.alloc (.cells #[.int .i64 x] t)) (.slice (some ⟨w.heap.size, 0, none⟩) 1 1) [x] :=
  ⟨_, 1, rfl, Nat.le_refl _, by decide, (fun h => by cases h), fun _ => ⟨w.heap.size, 0, rfl, by simp, fun j u hu => by
    have hj : j = 0 := by
      have := (List.getElem?_eq_some_iff.1 hu).1
      simpa using this
    subst hj
    simp at hu
    subst hu
    simp⟩⟩
theorem ints_new (w : World) (b : Nat) (hb : b = w.heap.size) (x : Int) (t : TypeId) : Ints (w.alloc (.cells #[.int .i64 x] t)) (.slice (some ⟨b, 0, none⟩) 1 1) [x] := by
  subst hb
  exact ints_one w x t
theorem poGood_any (n : Int) (w : World) :
    Calls Tryz.prog 28 #[.int .i64 n] w fun e w' => e = .returned (.bool (inB n (-1000000) 1000000)) ∧ w = w' := by
  go_enter Tryz.func28, Tryz.ntmps28
  go_wp2_with (go_at_call 49; refine (l1In_any _ _ _ _).mono ?_; rintro e w' ⟨rfl, rfl⟩)
  go_ret
  exact ⟨rfl, rfl⟩
def ptsB (zs : List Int) : Bool := decide (zs.length ≤ 60) && zs.all (inB · (-1000000) 1000000)
theorem ptsB_true {zs : List Int} (h : ptsB zs = true) : zs.length ≤ 60 ∧ zs.all (inB · (-1000000) 1000000) = true := by
  unfold ptsB at h
  rw [Bool.and_eq_true] at h
  exact ⟨by simpa using h.1, h.2⟩
theorem poList_any (v : Value) (zs : List Int) (w : World) (h : Ints w v zs) :
    Calls Tryz.prog 42 #[v] w fun e w' => e = .returned (.bool (ptsB zs)) ∧ w = w' := by
  have h0 := h
  obtain ⟨A, c, rfl, hnc, hcm, _⟩ := h0.out
  unfold maxLen at hcm
  have HI := Lib.hid h
  clear h h0
  go_enter Tryz.func42, Tryz.ntmps42
  go_wp2_with (go_at_call 67; refine (l1All_any _ _ _ _ _ HI.out).mono ?_; rintro e w' ⟨rfl, rfl⟩)
  all_goals
    go_ret
    exact ⟨ret_bool (by simp [ptsB]; omega), rfl⟩
theorem isPointsList_any (v : Value) (zs : List Int) (w : World) (h : Ints w v zs) :
    Calls Tryz.prog 38 #[v] w fun e w' => e = .returned (.bool (ptsB zs)) ∧ w = w' := by
  have h0 := h
  obtain ⟨A, c, rfl, hnc, hcm, _⟩ := h0.out
  unfold maxLen at hcm
  have HI := Lib.hid h
  clear h h0
  go_enter Tryz.func38, Tryz.ntmps38
  go_wp2_with (go_at_call 26; refine (arePoints_any _ _ _ HI.out).mono ?_; rintro e w' ⟨rfl, rfl⟩)
  all_goals
    go_ret
    exact ⟨ret_bool (by simp [ptsB]; omega), rfl⟩
end Go.Proofs.YtldinfdbkffdpaaGreatDoor

/- Points: their text, the reference's and the program's. -/
namespace Go.Proofs.YtldinfdbkffdpaaGreatDoor
set_option linter.unusedVariables false
set_option linter.unusedSimpArgs false
set_option linter.unnecessarySimpa false
open Go.RowKit Go.Lib

def tx (l : List UInt8) : ByteArray := ⟨l.toArray⟩
theorem tx_data (l : List UInt8) : (tx l).data.toList = l := rfl
theorem tx_toList (l : List UInt8) : (tx l).toList = l := by rw [toList_data]; rfl
theorem tx_of (s : ByteArray) : tx s.data.toList = s := mk_data s
theorem tx_app (a b : List UInt8) : tx a ++ tx b = tx (a ++ b) := by
  apply ByteArray.ext
  simp [tx]
theorem tx_size (l : List UInt8) : (tx l).size = l.length := by rw [size_eq]; rfl
theorem tx_inj {a b : List UInt8} (h : tx a = tx b) : a = b := by rw [← tx_data a, ← tx_data b, h]
theorem conv_box {W : World} {g : Nat} {c : UInt8} {n : Int} (h : W.cell? ⟨g, 0, none⟩ = some (.int .u8 n)) (hn : n = c.toNat) :
    (convert 22 9 (.slice (some ⟨g, 0, none⟩) 1 1)).run Tryz.prog W = .ok (.string ⟨#[c]⟩) W := by
  subst hn
  exact run_convert_bytes_back (P := Tryz.prog) W 22 9 5 ⟨g, 0, none⟩ 1 [c] Tryz.underlying22 Tryz.underlying5 Tryz.underlying9 (fun j hj => by
    obtain rfl : j = 0 := by simpa using hj
    simpa [Addr.add] using h)
def numT (n : Nat) : ByteArray := tx (decDigits n)
theorem numT_small {n : Nat} (h : n < 10) : numT n = ⟨#[UInt8.ofNat (48 + n)]⟩ := by unfold numT; rw [decDigits_small h]; rfl
theorem numT_big {n : Nat} (h : ¬ n < 10) : numT n = numT (n / 10) ++ ⟨#[UInt8.ofNat (48 + n % 10)]⟩ := by
  unfold numT
  rw [decDigits_big h, ← tx_app]
  rfl
theorem ret_str {a b : ByteArray} (h : a = b) : Ending.returned (.string a) = .returned (.string b) := by rw [h]
theorem cat_run {x y z : ByteArray} (hz : x ++ y = z) (h : x.size + y.size ≤ 1099511627776) : Op.stringOp .add x y = pure (.string z) := by
  subst hz
  unfold Op.stringOp
  have : ¬ ((x.size + y.size : Nat) : Int) > IntKind.i64.max := by
    have : IntKind.i64.max = 9223372036854775807 := by decide
    omega
  simp only [if_neg this]
theorem numT_len {n : Nat} (h : n ≤ 1000000000) : (numT n).size ≤ 10 := by
  unfold numT
  rw [tx_size]
  exact decDigits_len (k := 9) (by omega)
set_option maxRecDepth 100000 in
set_option maxHeartbeats 2000000 in
theorem l1Num_any (n : Nat) : n ≤ 1000000000 → ∀ w : World, Calls Tryz.prog 58 #[.int .i64 (n : Int)] w fun e w' => e = .returned (.string (numT n)) ∧ Kept w w' := by
  induction n using Nat.strongRecOn with
  | _ n ih =>
    intro hn w
    by_cases h10 : n < 10
    · have HN := Lib.hid (numT_small h10)
      have hq : (48 + (n : Int)) = ((UInt8.ofNat (48 + n)).toNat : Int) := by rw [toNat_of h10]; omega
      have HQ := Lib.hid hq
      clear ih hq
      generalize hcc : UInt8.ofNat (48 + n) = cc at *
      have HCC := Lib.hid hcc
      clear hcc
      have hcv := conv_box (W := w.alloc (.cells #[.int .u8 (48 + (n : Int))] 5)) (g := w.heap.size) (c := cc) (n := 48 + (n : Int)) (by simp) HQ.out
      go_enter Tryz.func58, Tryz.ntmps58
      go_wp2_with fail
      go_ret
      exact ⟨ret_str (HN.out.trans (by first | rfl | rw [HCC.out])).symm, (Kept.refl w).alloc _⟩
    · have HN := Lib.hid (numT_big h10)
      have e10 : ((n / 10 : Nat) : Int) = (n : Int) / 10 := by omega
      have c := ih (n / 10) (by omega) (by omega)
      rw [e10] at c
      have C := Lib.hid c
      have hm : n % 10 < 10 := Nat.mod_lt _ (by decide)
      have hd0 : (0 : Int) ≤ (n : Int) % 10 := by omega
      have hd1 : (n : Int) % 10 < 10 := by omega
      have hq : (48 + (n : Int) % 10) = ((UInt8.ofNat (48 + n % 10)).toNat : Int) := by rw [toNat_of hm]; omega
      have HQ := Lib.hid hq
      clear ih c e10 hq
      generalize hcc : UInt8.ofNat (48 + n % 10) = cc at *
      have HCC := Lib.hid hcc
      clear hcc
      have hcv := conv_box (W := (w.alloc (.cells #[.int .u8 (48 + (n : Int) % 10)] 5)).drew) (g := w.heap.size) (c := cc) (n := 48 + (n : Int) % 10) (by simp) HQ.out
      have hct : Op.stringOp .add (numT (n / 10)) ⟨#[cc]⟩ = pure (.string (numT n)) := cat_run HN.out.symm (by have := numT_len (n := n / 10) (by omega); have e : (⟨#[cc]⟩ : ByteArray).size = 1 := rfl; omega)
      have ht : (n : Int).tmod 10 = (n : Int) % 10 := Int.tmod_eq_emod_of_nonneg (by omega)
      have hw1 : IntKind.i64.wrap ((n : Int) / 10) = (n : Int) / 10 := IntWalk.i64_in _ (by omega)
      have hw8 : IntKind.u8.wrap (48 + (n : Int) % 10) = 48 + (n : Int) % 10 := IntWalk.u8_in _ (by omega)
      have hwq : IntKind.i64.wrap (48 + (n : Int) % 10) = 48 + (n : Int) % 10 := IntWalk.i64_in _ (by omega)
      go_enter Tryz.func58, Tryz.ntmps58
      go_wp2_with fail
      go_region_with (first | (go_at_call 58; (with_reducible refine (C.out w.drew).mono ?_); rintro e w1 ⟨rfl, k1⟩; have kk : Kept w (w1.alloc (.cells #[.int .u8 (48 + (n : Int) % 10)] 5)) := ((Kept.refl w).drew.trans k1).alloc _; have hcv1 := conv_box (W := w1.alloc (.cells #[.int .u8 (48 + (n : Int) % 10)] 5)) (g := w1.heap.size) (c := cc) (n := 48 + (n : Int) % 10) (by simp) HQ.out) | (go_at_call 58; (with_reducible refine (C.out (w.alloc (.cells #[.int .u8 (48 + (n : Int) % 10)] 5)).drew).mono ?_); rintro e w1 ⟨rfl, k1⟩; have kk : Kept w w1 := ((Kept.refl w).alloc _).drew.trans k1; have hcv2 := conv_box (W := w1) (g := w.heap.size) (c := cc) (n := 48 + (n : Int) % 10) ((k1.cell (p := ⟨w.heap.size, 0, none⟩) (by simp)).trans (by simp)) HQ.out))
      all_goals
        go_wp2_with fail
        go_ret
        exact ⟨rfl, kk⟩
end Go.Proofs.YtldinfdbkffdpaaGreatDoor

/- Points: PointsText, both sides and the law. -/
namespace Go.Proofs.YtldinfdbkffdpaaGreatDoor
set_option linter.unusedVariables false
set_option linter.unusedSimpArgs false
set_option linter.unnecessarySimpa false
open Go.RowKit Go.Lib

theorem kept_grow (w : World) (k : Nat) (os : Array Obj) : Kept w (Go.Sort.grow (w.drewN k) os) :=
  ⟨rfl, rfl, rfl, by simp [Go.Sort.grow, World.drewN], fun i hi => by
    show (w.heap ++ os)[i]? = w.heap[i]?
    rw [Array.getElem?_append, if_pos hi]⟩
/-- the library's table of powers of ten reads as its initialiser lays it -/
def HasTab (w : World) : Prop := TabIs Tryz.prog w "internal/strconv.uint64pow10" .u64 pow10Tab ∧ 1 < w.heap.size
theorem HasTab.kept {w w' : World} (h : HasTab w) (k : Kept w w') : HasTab w' := by
  refine ⟨?_, Nat.lt_of_lt_of_le h.2 k.size⟩
  have hg : Tryz.prog.globalNamed "internal/strconv.uint64pow10" = some 1 := by kernel_rfl
  have h1 := h.1
  unfold TabIs World.var? at h1 ⊢
  rw [hg] at h1 ⊢
  simp only [Option.bind_eq_bind, Option.bind_some] at h1 ⊢
  rw [k.block _ h.2]
  exact h1
theorem itoa_nat (n : Nat) : itoa (n : Int) = decDigits n := by
  unfold itoa
  rw [if_neg (by omega)]
  simp
theorem itoa_any (n : Nat) (w : World) (h : HasTab w) (hn : n ≤ 1000000000000) :
    Calls Tryz.prog 57 #[.int .i64 (n : Int)] w fun e w' => e = .returned (.string (numT n)) ∧ Kept w w' := by
  refine (Tryz.strconv_Itoa (n : Int) (by omega) (by omega) w h.1).mono ?_
  rintro e w' ⟨rfl, k, os, rfl⟩
  exact ⟨by rw [itoa_nat]; rfl, kept_grow w k os⟩
def ptT (n : Int) : ByteArray := tx (ptxt n)
theorem ptT_nat {n : Int} {u : Nat} (hn : n = u) : ptT n = numT (u / 100) ++ ⟨#[46]⟩ ++ numT (u / 10 % 10) ++ numT (u % 10) := by
  subst hn
  unfold ptT ptxt
  rw [if_neg (by omega), Int.toNat_natCast]
  unfold ptN numT
  show _ = tx _ ++ tx [46] ++ tx _ ++ tx _
  rw [tx_app, tx_app, tx_app]
  simp
theorem ptT_neg {n : Int} {u : Nat} (hn : n = -(u : Int)) (hu : 0 < u) : ptT n = ⟨#[45]⟩ ++ ptT u := by
  unfold ptT ptxt
  rw [if_pos (by omega), if_neg (by omega), Int.toNat_natCast]
  show _ = tx [45] ++ tx _
  rw [tx_app, show n.natAbs = u by omega]
  rfl
theorem numT_one {n : Nat} (h : n < 10) : (numT n).size = 1 := by rw [numT_small h]; rfl
set_option maxHeartbeats 2000000 in
theorem poText_nat (u : Nat) (hu : u ≤ 2000000) (w : World) :
    Calls Tryz.prog 29 #[.int .i64 (u : Int)] w fun e w' => e = .returned (.string (ptT u)) ∧ Kept w w' := by
  have e1 : ((u / 100 : Nat) : Int) = (u : Int) / 100 := by omega
  have e2 : ((u / 10 % 10 : Nat) : Int) = (u : Int) / 10 % 10 := by omega
  have e3 : ((u % 10 : Nat) : Int) = (u : Int) % 10 := by omega
  have c1 := l1Num_any (u / 100) (by omega)
  have c2 := l1Num_any (u / 10 % 10) (by omega)
  have c3 := l1Num_any (u % 10) (by omega)
  rw [e1] at c1
  rw [e2] at c2
  rw [e3] at c3
  have C1 := Lib.hid c1
  have C2 := Lib.hid c2
  have C3 := Lib.hid c3
  have s1 := numT_len (n := u / 100) (by omega)
  have s2 : (numT (u / 10 % 10)).size = 1 := numT_one (by omega)
  have s3 : (numT (u % 10)).size = 1 := numT_one (by omega)
  have s4 : (⟨#[46]⟩ : ByteArray).size = 1 := rfl
  have HT := Lib.hid (ptT_nat (n := (u : Int)) (u := u) rfl)
  have a1 : Op.stringOp .add (numT (u / 100)) ⟨#[46]⟩ = pure (.string (numT (u / 100) ++ ⟨#[46]⟩)) := cat_run rfl (by omega)
  have a2 : Op.stringOp .add (numT (u / 100) ++ ⟨#[46]⟩) (numT (u / 10 % 10)) = pure (.string (numT (u / 100) ++ ⟨#[46]⟩ ++ numT (u / 10 % 10))) := cat_run rfl (by rw [ByteArray.size_append]; omega)
  have a3 : Op.stringOp .add (numT (u / 100) ++ ⟨#[46]⟩ ++ numT (u / 10 % 10)) (numT (u % 10)) = pure (.string (ptT u)) := cat_run HT.out.symm (by rw [ByteArray.size_append, ByteArray.size_append]; omega)
  have A1 := Lib.hid a1
  have A2 := Lib.hid a2
  have A3 := Lib.hid a3
  clear c1 c2 c3 e1 e2 e3 s1 s2 s3 s4 a1 a2 a3
  go_enter Tryz.func29, Tryz.ntmps29
  go_wp2_with fail
  refine (C1.out _).mono ?_
  rintro e w1 ⟨rfl, k1⟩
  have a1 := A1.out
  go_wp2_with fail
  refine (C2.out _).mono ?_
  rintro e w2 ⟨rfl, k2⟩
  have a2 := A2.out
  clear a1
  go_wp2_with fail
  refine (C3.out _).mono ?_
  rintro e w3 ⟨rfl, k3⟩
  have a3 := A3.out
  clear a2
  go_wp2_with fail
  go_ret
  exact ⟨rfl, (k1.trans k2).trans k3⟩
set_option maxHeartbeats 2000000 in
theorem poText_wide (n : Int) (hn : -2000000 ≤ n ∧ n ≤ 2000000) (w : World) :
    Calls Tryz.prog 29 #[.int .i64 n] w fun e w' => e = .returned (.string (ptT n)) ∧ Kept w w' := by
  obtain ⟨h0, h1⟩ := hn
  by_cases hneg : n < 0
  · obtain ⟨u, rfl⟩ : ∃ u : Nat, n = -(u : Int) := ⟨n.natAbs, by omega⟩
    have hu : 0 < u := by omega
    have C1 := Lib.hid (poText_nat u (by omega))
    have hs : (⟨#[45]⟩ : ByteArray).size + (ptT u).size ≤ 1099511627776 := by
      have e := ptT_nat (n := (u : Int)) (u := u) rfl
      rw [e]
      have s1 := numT_len (n := u / 100) (by omega)
      have s2 : (numT (u / 10 % 10)).size = 1 := numT_one (by omega)
      have s3 : (numT (u % 10)).size = 1 := numT_one (by omega)
      have s4 : (⟨#[46]⟩ : ByteArray).size = 1 := rfl
      have s5 : (⟨#[45]⟩ : ByteArray).size = 1 := rfl
      rw [ByteArray.size_append, ByteArray.size_append, ByteArray.size_append]
      omega
    have A1 := Lib.hid (cat_run (ptT_neg (n := -(u : Int)) rfl hu).symm hs)
    clear hs
    have hw : IntKind.i64.wrap (u : Int) = (u : Int) := IntWalk.i64_in _ (by omega)
    go_enter Tryz.func29, Tryz.ntmps29
    go_wp2_with fail
    refine (C1.out _).mono ?_
    rintro e w1 ⟨rfl, k1⟩
    have a1 := A1.out
    go_wp2_with fail
    go_ret
    exact ⟨rfl, k1⟩
  · obtain ⟨u, rfl⟩ : ∃ u : Nat, n = (u : Int) := ⟨n.toNat, by omega⟩
    exact poText_nat u (by omega) w
theorem poText_any (n : Int) (hn : -1000000 ≤ n ∧ n ≤ 1000000) (w : World) :
    Calls Tryz.prog 29 #[.int .i64 n] w fun e w' => e = .returned (.string (ptT n)) ∧ Kept w w' := poText_wide n (by omega) w
def ptV (n : Int) : ByteArray := if inB n (-1000000) 1000000 then ptT n else ⟨#[]⟩
theorem ptV_yes {n : Int} (h : inB n (-1000000) 1000000 = true) : ptV n = ptT n := by unfold ptV; rw [h]; rfl
theorem ptV_no {n : Int} (h : inB n (-1000000) 1000000 = false) : ptV n = ⟨#[]⟩ := by unfold ptV; rw [h]; rfl
theorem ret_sb {a a' : ByteArray} {b b' : Bool} (h : a = a') (h2 : b = b') : Ending.returned (.tuple #[.string a, .bool b]) = .returned (.tuple #[.string a', .bool b']) := by rw [h, h2]
set_option maxHeartbeats 1000000 in
theorem specPointsText_any (n : Int) (w : World) :
    Calls Tryz.prog 7 #[.int .i64 n] w fun e w' => e = .returned (.tuple #[.string (ptV n), .bool (inB n (-1000000) 1000000)]) ∧ Kept w w' := by
  by_cases hb : inB n (-1000000) 1000000 = true
  · have HB := Lib.hid hb
    have hn := inB_true hb
    clear hb
    go_enter Tryz.func7, Tryz.ntmps7
    go_wp2_with fail
    refine (poGood_any n _).mono ?_
    rintro e w' ⟨rfl, rfl⟩
    rw [HB.out]
    go_wp2_with fail
    refine (poText_any n hn _).mono ?_
    rintro e w1 ⟨rfl, k1⟩
    go_wp2_with fail
    go_ret2
    exact ⟨ret_sb (ptV_yes HB.out).symm HB.out.symm, k1⟩
  · simp only [Bool.not_eq_true] at hb
    have HB := Lib.hid hb
    clear hb
    go_enter Tryz.func7, Tryz.ntmps7
    go_wp2_with fail
    refine (poGood_any n _).mono ?_
    rintro e w' ⟨rfl, rfl⟩
    rw [HB.out]
    go_wp2_with fail
    go_ret2
    exact ⟨ret_sb (ptV_no HB.out).symm HB.out.symm, Kept.refl _⟩
set_option maxHeartbeats 2000000 in
theorem pointsText_any (n : Int) (hn : -1000000 ≤ n ∧ n ≤ 1000000) (w : World) (ht : HasTab w) :
    Calls Tryz.prog 27 #[.int .i64 n] w fun e w' => e = .returned (.string (ptT n)) ∧ Kept w w' := by
  obtain ⟨h0, h1⟩ := hn
  have HTB := Lib.hid ht
  clear ht
  obtain ⟨u, sg, hu, hsg, HN⟩ : ∃ (u : Nat) (sg : ByteArray), u ≤ 1000000 ∧ sg.size ≤ 1 ∧ Hid ((n < 0 ∧ n = -(u : Int) ∧ sg = ⟨#[45]⟩ ∧ 0 < u) ∨ (¬ n < 0 ∧ n = (u : Int) ∧ sg = ⟨#[]⟩)) := by
    by_cases hneg : n < 0
    · exact ⟨n.natAbs, ⟨#[45]⟩, by omega, Nat.le_refl _, Lib.hid (.inl ⟨hneg, by omega, rfl, by omega⟩)⟩
    · exact ⟨n.toNat, ⟨#[]⟩, by omega, Nat.zero_le _, Lib.hid (.inr ⟨hneg, by omega, rfl⟩)⟩
  have HR : Hid (sg ++ numT (u / 100) ++ ⟨#[46]⟩ ++ numT (u / 10 % 10) ++ numT (u % 10) = ptT n) := by
    rcases HN.out with ⟨_, e, rfl, hp⟩ | ⟨_, e, rfl⟩
    · show _ = _
      rw [ptT_neg e hp, ptT_nat rfl, ByteArray.append_assoc, ByteArray.append_assoc, ByteArray.append_assoc, ByteArray.append_assoc, ByteArray.append_assoc]
    · show _ = _
      rw [ptT_nat e]
      have : (⟨#[]⟩ : ByteArray) ++ numT (u / 100) = numT (u / 100) := by show tx [] ++ tx _ = _; rw [tx_app]; rfl
      rw [this]
  have e1 : ((u / 100 : Nat) : Int) = (u : Int) / 100 := by omega
  have e2 : ((u / 10 % 10 : Nat) : Int) = (u : Int) / 10 % 10 := by omega
  have e3 : ((u % 10 : Nat) : Int) = (u : Int) % 10 := by omega
  have c1 := fun w h => itoa_any (u / 100) w h (by omega)
  have c2 := fun w h => itoa_any (u / 10 % 10) w h (by omega)
  have c3 := fun w h => itoa_any (u % 10) w h (by omega)
  rw [e1] at c1
  rw [e2] at c2
  rw [e3] at c3
  have C1 := Lib.hid c1
  have C2 := Lib.hid c2
  have C3 := Lib.hid c3
  have s1 := numT_len (n := u / 100) (by omega)
  have s2 : (numT (u / 10 % 10)).size = 1 := numT_one (by omega)
  have s3 : (numT (u % 10)).size = 1 := numT_one (by omega)
  have s4 : (⟨#[46]⟩ : ByteArray).size = 1 := rfl
  have A0 := Lib.hid (cat_run (x := sg) (y := numT (u / 100)) rfl (by omega))
  have A1 := Lib.hid (cat_run (x := sg ++ numT (u / 100)) (y := ⟨#[46]⟩) rfl (by rw [ByteArray.size_append]; omega))
  have A2 := Lib.hid (cat_run (x := sg ++ numT (u / 100) ++ ⟨#[46]⟩) (y := numT (u / 10 % 10)) rfl (by rw [ByteArray.size_append, ByteArray.size_append]; omega))
  have A3 := Lib.hid (cat_run (x := sg ++ numT (u / 100) ++ ⟨#[46]⟩ ++ numT (u / 10 % 10)) (y := numT (u % 10)) HR.out (by rw [ByteArray.size_append, ByteArray.size_append, ByteArray.size_append]; omega))
  clear c1 c2 c3 e1 e2 e3 s1 s2 s3 s4 HR
  have hw : IntKind.i64.wrap (u : Int) = (u : Int) := IntWalk.i64_in _ (by omega)
  rcases HN.out with ⟨hneg, rfl, hs, hp⟩ | ⟨hneg, rfl, hs⟩
  all_goals
    clear HN
    have HS := Lib.hid hs
    clear hs
    go_enter Tryz.func27, Tryz.ntmps27
    go_wp2_with fail
    refine (C1.out _ HTB.out).mono ?_
    rintro e w1 ⟨rfl, k1⟩
    have a0 := A0.out
    have a1 := A1.out
    rw [HS.out] at a0 a1
    go_wp2_with fail
    refine (C2.out _ (HTB.out.kept k1)).mono ?_
    rintro e w2 ⟨rfl, k2⟩
    have a2 := A2.out
    rw [HS.out] at a2
    clear a0 a1
    go_wp2_with fail
    refine (C3.out _ (HTB.out.kept (k1.trans k2))).mono ?_
    rintro e w3 ⟨rfl, k3⟩
    have a3 := A3.out
    rw [HS.out] at a3
    clear a2
    go_wp2_with fail
    go_ret
    exact ⟨rfl, (k1.trans k2).trans k3⟩
set_option maxHeartbeats 1000000 in
theorem implPointsText_any (n : Int) (w : World) (ht : HasTab w) :
    Calls Tryz.prog 6 #[.int .i64 n] w fun e w' => e = .returned (.tuple #[.string (ptV n), .bool (inB n (-1000000) 1000000)]) ∧ Kept w w' := by
  have HTB := Lib.hid ht
  clear ht
  have K0 : Kept w (w.alloc (.cells #[.int .i64 n] 3)) := (Kept.refl w).alloc _
  have C0 := Lib.hid (arePoints_any _ [n] _ (ints_one w n 3))
  have he : [n].all (inB · (-1000000) 1000000) = inB n (-1000000) 1000000 := by simp
  rw [he] at C0
  clear he
  by_cases hb : inB n (-1000000) 1000000 = true
  · have HB := Lib.hid hb
    have hn := inB_true hb
    clear hb
    go_enter Tryz.func6, Tryz.ntmps6
    go_wp2_with fail
    refine (C0.out).mono ?_
    rintro e w' ⟨rfl, rfl⟩
    rw [HB.out]
    go_wp2_with fail
    refine (pointsText_any n hn _ (HTB.out.kept K0)).mono ?_
    rintro e w1 ⟨rfl, k1⟩
    go_wp2_with fail
    go_ret2
    exact ⟨ret_sb (ptV_yes HB.out).symm HB.out.symm, K0.trans k1⟩
  · simp only [Bool.not_eq_true] at hb
    have HB := Lib.hid hb
    clear hb
    go_enter Tryz.func6, Tryz.ntmps6
    go_wp2_with fail
    refine (C0.out).mono ?_
    rintro e w' ⟨rfl, rfl⟩
    rw [HB.out]
    go_wp2_with fail
    go_ret2
    exact ⟨ret_sb (ptV_no HB.out).symm HB.out.symm, K0⟩
end Go.Proofs.YtldinfdbkffdpaaGreatDoor

/- Draws of texts of points. -/
namespace Go.Proofs.YtldinfdbkffdpaaGreatDoor
set_option linter.unusedVariables false
set_option linter.unusedSimpArgs false
set_option linter.unnecessarySimpa false
open Go.RowKit Go.Lib

theorem ptT_wide {n : Int} (h : -2000000 ≤ n ∧ n ≤ 2000000) : (ptT n).size ≤ 20 := by
  have hN : ∀ u : Nat, u ≤ 2000000 → (ptT (u : Int)).size ≤ 13 := fun u hu => by
    have s1 := numT_len (n := u / 100) (by omega)
    have s2 : (numT (u / 10 % 10)).size = 1 := numT_one (by omega)
    have s3 : (numT (u % 10)).size = 1 := numT_one (by omega)
    have s4 : (⟨#[46]⟩ : ByteArray).size = 1 := rfl
    rw [ptT_nat (n := (u : Int)) (u := u) rfl, ByteArray.size_append, ByteArray.size_append, ByteArray.size_append]
    omega
  by_cases hneg : n < 0
  · obtain ⟨u, rfl⟩ : ∃ u : Nat, n = -(u : Int) := ⟨n.natAbs, by omega⟩
    have s5 : (⟨#[45]⟩ : ByteArray).size = 1 := rfl
    have := hN u (by omega)
    rw [ptT_neg (n := -(u : Int)) rfl (by omega), ByteArray.size_append]
    omega
  · obtain ⟨u, rfl⟩ : ∃ u : Nat, n = (u : Int) := ⟨n.toNat, by omega⟩
    have := hN u (by omega)
    omega
set_option maxHeartbeats 2000000 in
theorem drawPointsText_any (v : Value) (w : World) (h : Byts w v) :
    Calls Tryz.prog 5 #[v] w fun e w' => (∃ a : Int, e = .returned (.int .i64 a) ∧ -1000001 ≤ a ∧ a ≤ 1000001) ∧ Kept w w' := by
  obtain ⟨A, n, c, rfl, hnc, hcm, hb⟩ := h
  go_enter Tryz.func5, Tryz.ntmps5
  go_wp2_with fail
  obtain ⟨w0, hw0⟩ : ∃ x : World, x = w.alloc (.cells #[.slice A n c, .int .i64 0, .int .u64 0] 46) := ⟨_, rfl⟩
  rw [← hw0]
  have C0 : Hid (Cur w0 w.heap.size 0) := Lib.hid (hw0 ▸ Cur.init hnc hcm hb)
  have K0 : Hid (Kept w w0) := Lib.hid (hw0 ▸ (Kept.refl w).alloc _)
  clear hw0 hb
  obtain ⟨p, hp⟩ : ∃ p, p = w.heap.size := ⟨_, rfl⟩
  rw [← hp] at C0 ⊢
  have hpw : w.heap.size ≤ p := Nat.le_of_eq hp.symm
  clear hp
  have N0 : Hid (Only [p] w0 w0) := Lib.hid (Only.refl _ _)
  with_reducible refine (points_any p _ w0 C0.out (by omega)).mono ?_
  rintro e w1 ⟨⟨a1, rfl, ha1, hb1⟩, c1, on1⟩
  have C2 := Lib.hid c1
  have N2 := Lib.hid (N0.out.trans on1)
  clear c1 on1
  go_wp2_with fail
  go_ret
  exact ⟨⟨_, rfl, ha1, hb1⟩, N2.out.above K0.out (fun x hx => by rw [List.mem_singleton] at hx; subst hx; exact hpw)⟩
set_option maxHeartbeats 2000000 in
theorem drawPercent_any (v : Value) (w : World) (h : Byts w v) :
    Calls Tryz.prog 18 #[v] w fun e w' => (∃ a b c : Int, e = .returned (.tuple #[.int .i64 a, .int .i64 b, .int .i64 c])) ∧ Kept w w' := by
  obtain ⟨A, n, c, rfl, hnc, hcm, hb⟩ := h
  go_enter Tryz.func18, Tryz.ntmps18
  go_wp2_with fail
  obtain ⟨w0, hw0⟩ : ∃ x : World, x = w.alloc (.cells #[.slice A n c, .int .i64 0, .int .u64 0] 46) := ⟨_, rfl⟩
  rw [← hw0]
  have C0 : Hid (Cur w0 w.heap.size 0) := Lib.hid (hw0 ▸ Cur.init hnc hcm hb)
  have K0 : Hid (Kept w w0) := Lib.hid (hw0 ▸ (Kept.refl w).alloc _)
  clear hw0 hb
  obtain ⟨p, hp⟩ : ∃ p, p = w.heap.size := ⟨_, rfl⟩
  rw [← hp] at C0 ⊢
  have hpw : w.heap.size ≤ p := Nat.le_of_eq hp.symm
  clear hp
  have N0 : Hid (Only [p] w0 w0) := Lib.hid (Only.refl _ _)
  with_reducible refine (points_any p _ w0 C0.out (by omega)).mono ?_
  rintro e w1 ⟨⟨a1, rfl, ha1, hb1⟩, c1, on1⟩
  have C2 := Lib.hid c1
  have N2 := Lib.hid (N0.out.trans on1)
  clear c1 on1
  go_wp2_with fail
  obtain ⟨wb3, hwb3⟩ : ∃ x : World, x = w1.alloc (.cells #[.int .i64 0, .int .i64 1, .int .i64 10, .int .i64 33, .int .i64 50, .int .i64 100, .int .i64 110, .int .i64 1000, .int .i64 1001, .int .i64 (-1)] 3) := ⟨_, rfl⟩
  rw [← hwb3]
  have kb3 : Kept w1 wb3 := hwb3 ▸ (Kept.refl w1).alloc _
  have B3 : Box wb3 w1.heap.size 3 #[.int .i64 0, .int .i64 1, .int .i64 10, .int .i64 33, .int .i64 50, .int .i64 100, .int .i64 110, .int .i64 1000, .int .i64 1001, .int .i64 (-1)] := hwb3 ▸ Box.new w1 _ _ _ rfl
  have C3 := Lib.hid (C2.out.kept kb3)
  have N3 := Lib.hid (N2.out.trans (kb3.only _))
  have hp3 : w1.heap.size ≠ p := Nat.ne_of_gt C2.out.lt
  clear hwb3 kb3
  with_reducible refine (among_lit p _ w1.heap.size 10 [0, 1, 10, 33, 50, 100, 110, 1000, 1001, (-1)] wb3 C3.out (by omega) B3 hp3 rfl (by omega) (by omega)).mono ?_
  rintro e w4 ⟨x4, rfl, hx4, c4, on4⟩
  have C5 := Lib.hid c4
  have N5 := Lib.hid (N3.out.trans on4)
  clear c4 on4
  go_wp2_with fail
  with_reducible refine (pick_any p _ 4 w4 C5.out (by omega) (by omega)).mono ?_
  rintro e w6 ⟨x6, rfl, ⟨lo6, hi6⟩, c6, on6⟩
  have C7 := Lib.hid c6
  have N7 := Lib.hid (N5.out.trans on6)
  clear c6 on6
  go_wp2_with fail
  with_reducible refine (pick_any p _ 24 w6 C7.out (by omega) (by omega)).mono ?_
  rintro e w8 ⟨x8, rfl, ⟨lo8, hi8⟩, c8, on8⟩
  have C9 := Lib.hid c8
  have N9 := Lib.hid (N7.out.trans on8)
  clear c8 on8
  go_wp2_with fail
  go_ret3
  exact ⟨⟨_, _, _, rfl⟩, N9.out.above K0.out (fun x hx => by rw [List.mem_singleton] at hx; subst hx; exact hpw)⟩
theorem drawSorted_any (v : Value) (w : World) (h : Byts w v) :
    Calls Tryz.prog 11 #[v] w fun e w' => RowPost w e w' ∧ Kept w w' := by
  have C := Lib.hid (drawSum_any v w h)
  go_enter Tryz.func11, Tryz.ntmps11
  go_wp2_with fail
  refine (C.out).mono ?_
  rintro e w1 ⟨⟨v1, zs, rfl, o1, hz⟩, k1⟩
  have O1 := Lib.hid o1
  clear o1
  go_wp2_with fail
  go_ret
  exact ⟨⟨_, zs, rfl, O1.out, hz⟩, k1⟩
/-- a list and a number -/
def RowIPost (w : World) (e : Ending) (w' : World) : Prop := ∃ v' zs n, e = .returned (.tuple #[v', .int .i64 n]) ∧ OwnI w' w.heap.size v' zs ∧ zs.length ≤ 61
set_option maxHeartbeats 2000000 in
theorem drawPlace_any (v : Value) (w : World) (h : Byts w v) :
    Calls Tryz.prog 21 #[v] w fun e w' => RowIPost w e w' ∧ Kept w w' := by
  obtain ⟨A, n, c, rfl, hnc, hcm, hb⟩ := h
  go_enter Tryz.func21, Tryz.ntmps21
  go_wp2_with fail
  obtain ⟨w0, hw0⟩ : ∃ x : World, x = w.alloc (.cells #[.slice A n c, .int .i64 0, .int .u64 0] 46) := ⟨_, rfl⟩
  rw [← hw0]
  have C0 : Hid (Cur w0 w.heap.size 0) := Lib.hid (hw0 ▸ Cur.init hnc hcm hb)
  have K0 : Hid (Kept w w0) := Lib.hid (hw0 ▸ (Kept.refl w).alloc _)
  clear hw0 hb
  obtain ⟨p, hp⟩ : ∃ p, p = w.heap.size := ⟨_, rfl⟩
  rw [← hp] at C0 ⊢
  have hpw : w.heap.size ≤ p := Nat.le_of_eq hp.symm
  clear hp
  have N0 : Hid (Only [p] w0 w0) := Lib.hid (Only.refl _ _)
  have hpl := C0.out.lt
  with_reducible refine (pointsList_any p _ w0 C0.out (by omega)).mono ?_
  rintro e w1 ⟨⟨v1, zs, rfl, o1, hz⟩, c1, on1⟩
  have C2 := Lib.hid c1
  have N2 := Lib.hid (N0.out.trans on1)
  clear c1 on1
  obtain ⟨Al, cl, rfl, hnl, hml, _⟩ := own_form o1
  unfold maxLen at hml
  have hks := K0.out.size
  have HO := Lib.hid o1
  clear o1
  by_cases h0 : 0 < zs.length
  case neg =>
    have h0' : ¬ (0 : Int) < (zs.length : Int) := by omega
    go_wp2_with fail
    with_reducible refine (points_any p _ w1 C2.out (by omega)).mono ?_
    rintro e w3 ⟨⟨a3, rfl, ha3, hb3⟩, c3, on3⟩
    have C4 := Lib.hid c3
    have N4 := Lib.hid (N2.out.trans on3)
    replace HO := Lib.hid (HO.out.drawn on3 hpl)
    clear c3 on3
    go_wp2_with fail
    go_ret2
    exact ⟨⟨_, zs, _, rfl, own_base HO.out hks, hz⟩, N4.out.above K0.out (fun x hx => by rw [List.mem_singleton] at hx; subst hx; exact hpw)⟩
  have h0' : (0 : Int) < (zs.length : Int) := by omega
  go_wp2_with fail
  with_reducible refine (one_any p _ 2 w1 C2.out (by omega) (by omega)).mono ?_
  rintro e w3 ⟨b3, rfl, c3, on3⟩
  have C4 := Lib.hid c3
  have N4 := Lib.hid (N2.out.trans on3)
  replace HO := Lib.hid (HO.out.drawn on3 hpl)
  clear c3 on3
  cases b3 with
  | false =>
    go_wp2_with fail
    with_reducible refine (points_any p _ w3 C4.out (by omega)).mono ?_
    rintro e w5 ⟨⟨a5, rfl, ha5, hb5⟩, c5, on5⟩
    have C6 := Lib.hid c5
    have N6 := Lib.hid (N4.out.trans on5)
    replace HO := Lib.hid (HO.out.drawn on5 hpl)
    clear c5 on5
    go_wp2_with fail
    go_ret2
    exact ⟨⟨_, zs, _, rfl, own_base HO.out hks, hz⟩, N6.out.above K0.out (fun x hx => by rw [List.mem_singleton] at hx; subst hx; exact hpw)⟩
  | true =>
    go_upto_region 4 with (fail)
    have C5 := Lib.hid (C4.out.kept (Kept.refl w3).drew)
    have HO5 := Lib.hid (HO.out.kept (Kept.refl w3).drew)
    have N5 := Lib.hid (N4.out.trans ((Kept.refl w3).drew.only [p]))
    go_region_with (first | (go_at_call 34; (with_reducible refine (pick_any p _ zs.length _ C5.out (by omega) (by omega)).mono ?_); rintro e w5 ⟨x5, rfl, ⟨lo5, hi5⟩, c5, on5⟩; obtain ⟨j, rfl⟩ : ∃ j : Nat, x5 = (j : Int) := ⟨x5.toNat, by omega⟩; have hj : j < zs.length := (by have := hi5 (by omega); omega); have HO6 := Lib.hid (HO5.out.drawn on5 hpl); obtain ⟨b', o', z, rfl, hb', hz', hc'⟩ := ints_at HO6.out.ints.addr hj; clear hz'; have N6 := Lib.hid (N5.out.trans on5)))
    all_goals
      go_wp2_with fail
      go_ret2
      exact ⟨⟨_, zs, _, rfl, own_base HO6.out hks, hz⟩, N6.out.above K0.out (fun x hx => by rw [List.mem_singleton] at hx; subst hx; exact hpw)⟩
theorem ext_size (x : ByteArray) (a b : Nat) (h : b ≤ x.size) : (x.extract a b).size = b - a := by rw [ByteArray.size_extract]; omega
set_option maxRecDepth 100000 in
set_option maxHeartbeats 8000000 in
theorem spoilt_any (p m : Nat) (t wi : ByteArray) (w : World) (h : Cur w p m) (hm : m ≤ 1000000000) (ht : t.size ≤ 1000000) (hw0 : 0 < wi.size) (hw1 : wi.size ≤ 1000) :
    Calls Tryz.prog 35 #[.pointer (some ⟨p, 0, none⟩), .string t, .string wi] w fun e w' => (∃ x : ByteArray, e = .returned (.string x) ∧ x.size ≤ t.size + 2) ∧ Cur w' p (m + 20) ∧ Only [p] w w' := by
  have C0 := Lib.hid h
  clear h
  go_enter Tryz.func35, Tryz.ntmps35
  go_wp2_with fail
  with_reducible refine (pick_any p _ 2 w C0.out (by omega) (by omega)).mono ?_
  rintro e w1 ⟨x1, rfl, ⟨lo1, hi1⟩, c1, on1⟩
  have hi2 : x1 < 2 := hi1 (by omega)
  obtain ⟨k0, rfl⟩ : ∃ k : Nat, x1 = (k : Int) := ⟨x1.toNat, by omega⟩
  have C1 := Lib.hid c1
  have N1 := Lib.hid on1
  clear c1 on1 hi1
  go_wp2_with fail
  go_loopw [1, 7] (fun s1 s7 wr => ∃ (k : Nat) (x : ByteArray), s7 = .int .i64 k ∧ s1 = .string x ∧ k ≤ 2 ∧ x.size + k ≤ t.size + 2 ∧ Cur wr p (m + 2 + 6 * (2 - k)) ∧ Only [p] w wr) (fun _ i _ => (RowKit.intOf i).toNat)
  case atStart => exact ⟨k0 + 1, t, by (first | rfl | (congr 1; omega)), rfl, by omega, by omega, C1.out.le (by omega), N1.out⟩
  case round =>
    clear C1 N1
    obtain ⟨k, x, rfl, rfl, hk2, hxs, hc, hon⟩ := hrel
    have HC := Lib.hid hc
    have HON := Lib.hid hon
    clear hc hon
    by_cases hk : 0 < k
    · have hk' : (0 : Int) < (k : Int) := by omega
      by_cases hx : 0 < x.size
      · have hx' : (0 : Int) < (x.size : Int) := by omega
        go_wp2_with fail
        with_reducible refine (pick_any p _ x.size wr HC.out (by omega) (by omega)).mono ?_
        rintro e w2 ⟨x2, rfl, ⟨lo2, hi2⟩, c2, on2⟩
        obtain ⟨i, rfl⟩ : ∃ i : Nat, x2 = (i : Int) := ⟨x2.toNat, by omega⟩
        have hix : i < x.size := by have := hi2 (by omega); omega
        have C2 := Lib.hid c2
        have N2 := Lib.hid (HON.out.trans on2)
        clear c2 on2 hi2
        go_wp2_with fail
        with_reducible refine (pick_any p _ wi.size w2 C2.out (by omega) (by omega)).mono ?_
        rintro e w3 ⟨x3, rfl, ⟨lo3, hi3⟩, c3, on3⟩
        obtain ⟨j, rfl⟩ : ∃ j : Nat, x3 = (j : Int) := ⟨x3.toNat, by omega⟩
        have hjw : j < wi.size := by have := hi3 (by omega); omega
        have C3 := Lib.hid (c3.kept ((Kept.refl w3).alloc (.cells #[.int .u8 ((wi[j]'hjw).toNat : Int)] 5)))
        have N3 := Lib.hid ((N2.out.trans on3).trans (((Kept.refl w3).alloc (.cells #[.int .u8 ((wi[j]'hjw).toNat : Int)] 5)).only [p]))
        have hcv : (convert 22 9 (.slice (some ⟨w3.heap.size, 0, none⟩) 1 1)).run Tryz.prog (w3.alloc (.cells #[.int .u8 ((wi[j]'hjw).toNat : Int)] 5)) = .ok (.string (tx [wi[j]'hjw])) (w3.alloc (.cells #[.int .u8 ((wi[j]'hjw).toNat : Int)] 5)) := conv_box (W := w3.alloc (.cells #[.int .u8 ((wi[j]'hjw).toNat : Int)] 5)) (g := w3.heap.size) (c := wi[j]'hjw) (n := ((wi[j]'hjw).toNat : Int)) (by simp) rfl
        clear c3 on3 hi3
        go_wp2_with fail
        clear hcv
        obtain ⟨w4, hw4⟩ : ∃ u : World, u = w3.alloc (.cells #[.int .u8 ((wi[j]'hjw).toNat : Int)] 5) := ⟨_, rfl⟩
        rw [← hw4] at C3 N3 ⊢
        clear hw4
        obtain ⟨y, hy⟩ : ∃ y : ByteArray, y = tx [wi[j]'hjw] := ⟨_, rfl⟩
        have hys : y.size = 1 := by rw [hy]; rfl
        rw [← hy]
        clear hy
        with_reducible refine (pick_any p _ 3 w4 C3.out (by omega) (by omega)).mono ?_
        rintro e w5 ⟨q, rfl, ⟨lo5, hi5⟩, c5, on5⟩
        have hq3 : q < 3 := hi5 (by omega)
        have C5 := Lib.hid c5
        have N5 := Lib.hid (N3.out.trans on5)
        clear c5 on5 hi5 C3 N3
        have g1 : (i : Int) ≤ (x.size : Int) := by omega
        have g2 : (i : Int) + 1 ≤ (x.size : Int) := by omega
        have e1 := ext_size x 0 i (by omega)
        have e2 := ext_size x i x.size (Nat.le_refl _)
        have e3 := ext_size x (i + 1) x.size (Nat.le_refl _)
        have A1 := Lib.hid (cat_run (x := x.extract 0 i) (y := y) rfl (by omega))
        have A2 := Lib.hid (cat_run (x := x.extract 0 i ++ y) (y := x.extract i x.size) rfl (by rw [ByteArray.size_append]; omega))
        have A3 := Lib.hid (cat_run (x := x.extract 0 i ++ y) (y := x.extract (i + 1) x.size) rfl (by rw [ByteArray.size_append]; omega))
        have A4 := Lib.hid (cat_run (x := x.extract 0 i) (y := x.extract (i + 1) x.size) rfl (by omega))
        have a1 := A1.out
        have a2 := A2.out
        have a3 := A3.out
        have a4 := A4.out
        have SZ : Hid ((x.extract 0 i ++ y ++ x.extract i x.size).size = x.size + 1 ∧ (x.extract 0 i ++ y ++ x.extract (i + 1) x.size).size = x.size ∧ (x.extract 0 i ++ x.extract (i + 1) x.size).size = x.size - 1) := Lib.hid (by simp only [ByteArray.size_append]; omega)
        clear A1 A2 A3 A4 e1 e2 e3
        by_cases q0 : q = 0
        · have tq0 : (q == 0) = true := by rw [q0]; rfl
          clear q0
          go_wp2_with fail
          go_quiet (fail)
          go_wp2_with fail
          go_roundw
          case rel => exact ⟨k - 1, _, by (first | go_num | (congr 1; omega)), rfl, by omega, by have := SZ.out.1; omega, (C5.out.kept ((Kept.refl _).drewN _)).le (by omega), N5.out.trans (((Kept.refl _).drewN _).only _)⟩
          case measure => simp [RowKit.intOf]; omega
        · have tq0 : (q == 0) = false := beq_eq_false_iff_ne.2 q0
          by_cases q1 : q = 1
          · have tq1 : (q == 1) = true := by rw [q1]; rfl
            clear q0 q1
            go_wp2_with fail
            go_quiet (fail)
            go_wp2_with fail
            go_roundw
            case rel => exact ⟨k - 1, _, by (first | go_num | (congr 1; omega)), rfl, by omega, by have := SZ.out.2.1; omega, (C5.out.kept ((Kept.refl _).drewN _)).le (by omega), N5.out.trans (((Kept.refl _).drewN _).only _)⟩
            case measure => simp [RowKit.intOf]; omega
          · have tq1 : (q == 1) = false := beq_eq_false_iff_ne.2 q1
            clear q0 q1
            go_wp2_with fail
            go_quiet (fail)
            go_wp2_with fail
            go_roundw
            case rel => exact ⟨k - 1, _, by (first | go_num | (congr 1; omega)), rfl, by omega, by have := SZ.out.2.2; omega, (C5.out.kept ((Kept.refl _).drewN _)).le (by omega), N5.out.trans (((Kept.refl _).drewN _).only _)⟩
            case measure => simp [RowKit.intOf]; omega
      · have hx' : ¬ (0 : Int) < (x.size : Int) := by omega
        go_wp2_with fail
        go_ret
        exact ⟨⟨x, rfl, by omega⟩, HC.out.le (by omega), HON.out⟩
    · have hk' : ¬ (0 : Int) < (k : Int) := by omega
      go_wp2_with fail
      go_ret
      exact ⟨⟨x, rfl, by omega⟩, HC.out.le (by omega), HON.out⟩
set_option maxHeartbeats 2000000 in
theorem drawReadPoints_any (v : Value) (w : World) (h : Byts w v) :
    Calls Tryz.prog 9 #[v] w fun e w' => (∃ t : ByteArray, e = .returned (.string t) ∧ t.size ≤ 1000) ∧ Kept w w' := by
  obtain ⟨A, n, c, rfl, hnc, hcm, hb⟩ := h
  go_enter Tryz.func9, Tryz.ntmps9
  go_wp2_with fail
  obtain ⟨w0, hw0⟩ : ∃ x : World, x = w.alloc (.cells #[.slice A n c, .int .i64 0, .int .u64 0] 46) := ⟨_, rfl⟩
  rw [← hw0]
  have C0 : Hid (Cur w0 w.heap.size 0) := Lib.hid (hw0 ▸ Cur.init hnc hcm hb)
  have K0 : Hid (Kept w w0) := Lib.hid (hw0 ▸ (Kept.refl w).alloc _)
  clear hw0 hb
  obtain ⟨p, hp⟩ : ∃ p, p = w.heap.size := ⟨_, rfl⟩
  rw [← hp] at C0 ⊢
  have hpw : w.heap.size ≤ p := Nat.le_of_eq hp.symm
  clear hp
  have N0 : Hid (Only [p] w0 w0) := Lib.hid (Only.refl _ _)
  with_reducible refine (points_any p _ w0 C0.out (by omega)).mono ?_
  rintro e w1 ⟨⟨a, rfl, ha, hb⟩, c1, on1⟩
  have C2 := Lib.hid c1
  have N2 := Lib.hid (N0.out.trans on1)
  clear c1 on1
  have hts := ptT_wide (n := a) (by omega)
  go_wp2_with fail
  with_reducible refine (poText_wide a (by omega) _).mono ?_
  rintro e w2 ⟨rfl, k2⟩
  have C3 := Lib.hid (C2.out.kept k2)
  have N3 := Lib.hid (N2.out.trans (k2.only _))
  clear k2
  generalize ptT a = t at *
  go_wp2_with fail
  with_reducible refine (pick_any p _ 6 w2 C3.out (by omega) (by omega)).mono ?_
  rintro e w6 ⟨x6, rfl, ⟨lo6, hi6⟩, c6, on6⟩
  have C7 := Lib.hid c6
  have N7 := Lib.hid (N3.out.trans on6)
  clear c6 on6
  have hq : x6 < 6 := hi6 (by omega)
  clear hi6
  by_cases q0 : x6 = 0
  case pos =>
    have tq0 : (x6 == 0) = true := by rw [q0]; rfl
    clear q0
    go_wp2_with fail
    with_reducible refine (spoilt_any p _ t ⟨#[45, 46, 48, 49, 57]⟩ w6 C7.out (by omega) (by omega) (by decide) (by decide)).mono ?_
    rintro e w8 ⟨⟨z8, rfl, hz8⟩, c8, on8⟩
    have C9 := Lib.hid c8
    have N9 := Lib.hid (N7.out.trans on8)
    clear c8 on8
    go_wp2_with fail
    go_ret
    exact ⟨⟨_, rfl, by omega⟩, N9.out.above K0.out (fun x hx => by rw [List.mem_singleton] at hx; subst hx; exact hpw)⟩
  have tq0 : (x6 == 0) = false := beq_eq_false_iff_ne.2 q0
  by_cases q1 : x6 = 1
  case pos =>
    have tq1 : (x6 == 1) = true := by rw [q1]; rfl
    clear q0 q1
    go_wp2_with fail
    with_reducible refine (spoilt_any p _ t ⟨#[45, 46, 48, 49, 57]⟩ w6 C7.out (by omega) (by omega) (by decide) (by decide)).mono ?_
    rintro e w8 ⟨⟨z8, rfl, hz8⟩, c8, on8⟩
    have C9 := Lib.hid c8
    have N9 := Lib.hid (N7.out.trans on8)
    clear c8 on8
    go_wp2_with fail
    go_ret
    exact ⟨⟨_, rfl, by omega⟩, N9.out.above K0.out (fun x hx => by rw [List.mem_singleton] at hx; subst hx; exact hpw)⟩
  have tq1 : (x6 == 1) = false := beq_eq_false_iff_ne.2 q1
  by_cases q2 : x6 = 2
  case pos =>
    have tq2 : (x6 == 2) = true := by rw [q2]; rfl
    clear q0 q1 q2
    go_wp2_with fail
    obtain ⟨wb8, hwb8⟩ : ∃ x : World, x = w6.alloc (.cells #[.string ⟨#[]⟩, .string ⟨#[45]⟩, .string ⟨#[45, 48, 46, 48, 48]⟩, .string ⟨#[48, 48, 46, 49, 48]⟩, .string ⟨#[49, 46, 48]⟩, .string ⟨#[49]⟩, .string ⟨#[46, 53, 48]⟩, .string ⟨#[49, 48, 48, 48, 48, 46, 48, 48]⟩, .string ⟨#[49, 48, 48, 48, 48, 46, 48, 49]⟩, .string ⟨#[45, 49, 48, 48, 48, 48, 46, 48, 48]⟩, .string ⟨#[45, 49, 48, 48, 48, 48, 46, 48, 49]⟩, .string ⟨#[49, 46, 48, 48, 48]⟩] 9) := ⟨_, rfl⟩
    rw [← hwb8]
    have kb8 : Kept w6 wb8 := hwb8 ▸ (Kept.refl w6).alloc _
    have B8 : Box wb8 w6.heap.size 9 #[.string ⟨#[]⟩, .string ⟨#[45]⟩, .string ⟨#[45, 48, 46, 48, 48]⟩, .string ⟨#[48, 48, 46, 49, 48]⟩, .string ⟨#[49, 46, 48]⟩, .string ⟨#[49]⟩, .string ⟨#[46, 53, 48]⟩, .string ⟨#[49, 48, 48, 48, 48, 46, 48, 48]⟩, .string ⟨#[49, 48, 48, 48, 48, 46, 48, 49]⟩, .string ⟨#[45, 49, 48, 48, 48, 48, 46, 48, 48]⟩, .string ⟨#[45, 49, 48, 48, 48, 48, 46, 48, 49]⟩, .string ⟨#[49, 46, 48, 48, 48]⟩] := hwb8 ▸ Box.new w6 _ _ _ rfl
    have C8 := Lib.hid (C7.out.kept kb8)
    have N8 := Lib.hid (N7.out.trans (kb8.only _))
    have hp8 : w6.heap.size ≠ p := Nat.ne_of_gt C7.out.lt
    clear hwb8 kb8
    with_reducible refine (of_lit p _ w6.heap.size 12 [⟨#[]⟩, ⟨#[45]⟩, ⟨#[45, 48, 46, 48, 48]⟩, ⟨#[48, 48, 46, 49, 48]⟩, ⟨#[49, 46, 48]⟩, ⟨#[49]⟩, ⟨#[46, 53, 48]⟩, ⟨#[49, 48, 48, 48, 48, 46, 48, 48]⟩, ⟨#[49, 48, 48, 48, 48, 46, 48, 49]⟩, ⟨#[45, 49, 48, 48, 48, 48, 46, 48, 48]⟩, ⟨#[45, 49, 48, 48, 48, 48, 46, 48, 49]⟩, ⟨#[49, 46, 48, 48, 48]⟩] wb8 C8.out (by omega) B8 hp8 rfl (by omega) (by omega) (by decide)).mono ?_
    rintro e w9 ⟨x9, rfl, hx9, c9, on9⟩
    have C10 := Lib.hid c9
    have N10 := Lib.hid (N8.out.trans on9)
    clear c9 on9
    have hzs : x9.size ≤ 1000 := by have h9 : ([⟨#[]⟩] : List ByteArray).length = 1 := rfl; revert hx9; simp only [List.mem_cons, List.not_mem_nil, or_false]; intro hm; rcases hm with rfl | rfl | rfl | rfl | rfl | rfl | rfl | rfl | rfl | rfl | rfl | rfl <;> decide
    clear hx9
    go_wp2_with fail
    go_ret
    exact ⟨⟨_, rfl, hzs⟩, N10.out.above K0.out (fun x hx => by rw [List.mem_singleton] at hx; subst hx; exact hpw)⟩
  have tq2 : (x6 == 2) = false := beq_eq_false_iff_ne.2 q2
  clear q0 q1 q2
  go_wp2_with fail
  go_ret
  exact ⟨⟨_, rfl, by omega⟩, N7.out.above K0.out (fun x hx => by rw [List.mem_singleton] at hx; subst hx; exact hpw)⟩
end Go.Proofs.YtldinfdbkffdpaaGreatDoor

/- Contracts of chapter 1: sums, places and means of lists of points, percents. -/
namespace Go.Proofs.YtldinfdbkffdpaaGreatDoor
set_option linter.unusedVariables false
set_option linter.unusedSimpArgs false
open Go.RowKit

def sumOk (zs : List Int) : Bool := ptsB zs && inB zs.sum (-1000000) 1000000
def sumV (zs : List Int) : Int := if sumOk zs then zs.sum else 0
theorem pts_sum_bd {zs : List Int} (h : ptsB zs = true) : -60000000 ≤ zs.sum ∧ zs.sum ≤ 60000000 := by
  obtain ⟨h1, h2⟩ := ptsB_true h
  have := sum_bd zs 1000000 (by omega) (fun z hz => inB_true (List.all_eq_true.1 h2 z hz)) zs.length
  rw [List.take_of_length_le (Nat.le_refl _)] at this
  omega
theorem specSum_any (v : Value) (zs : List Int) (w : World) (h : Ints w v zs) :
    Calls Tryz.prog 24 #[v] w fun e w' => e = .returned (.tuple #[.int .i64 (sumV zs), .bool (sumOk zs)]) ∧ Kept w w' := by
  have HI := Lib.hid h
  clear h
  by_cases h1 : ptsB zs = true
  · obtain ⟨q1, q2⟩ := ptsB_true h1
    have HQ := Lib.hid q2
    clear q2
    go_enter Tryz.func24, Tryz.ntmps24
    go_wp2_with (first | (go_at_call 42; refine (poList_any _ _ _ HI.out).mono ?_; rintro e w' ⟨rfl, rfl⟩) | (go_at_call 28; refine (poGood_any _ _).mono ?_; rintro e w' ⟨rfl, rfl⟩) | (go_at_call 55; refine (poSum_any _ _ _ HI.out q1 HQ.out).mono ?_; rintro e w' ⟨rfl, rfl⟩))
    all_goals
      go_ret2
      rename_i hh
      simp at hh
      exact ⟨by simp [sumV, sumOk, h1, hh], Kept.refl _⟩
  · simp only [Bool.not_eq_true] at h1
    go_enter Tryz.func24, Tryz.ntmps24
    go_wp2_with (first | (go_at_call 42; refine (poList_any _ _ _ HI.out).mono ?_; rintro e w' ⟨rfl, rfl⟩))
    go_ret2
    exact ⟨by simp [sumV, sumOk, h1], Kept.refl _⟩
theorem implSum_any (v : Value) (zs : List Int) (w : World) (h : Ints w v zs) :
    Calls Tryz.prog 16 #[v] w fun e w' => e = .returned (.tuple #[.int .i64 (sumV zs), .bool (sumOk zs)]) ∧ Kept w w' := by
  have HI := Lib.hid h
  clear h
  by_cases h1 : ptsB zs = true
  · obtain ⟨q1, q2⟩ := ptsB_true h1
    have HQ := Lib.hid q2
    clear q2
    go_enter Tryz.func16, Tryz.ntmps16
    go_wp2_with (first | (go_at_call 38; refine (isPointsList_any _ _ _ HI.out).mono ?_; rintro e w' ⟨rfl, rfl⟩) | (go_at_call 26; refine (arePoints_any _ [_] _ (ints_one _ _ _)).mono ?_; rintro e w' ⟨rfl, rfl⟩) | (go_at_call 44; refine (sumInts_any _ zs _ ?_ q1 HQ.out).mono ?_; (first | exact HI.out | exact HI.out.kept ((Kept.refl _).alloc _)); rintro e w' ⟨rfl, rfl⟩))
    all_goals
      go_ret2
      rename_i hh
      simp at hh
      exact ⟨by simp [sumV, sumOk, h1, hh], (Kept.refl _).alloc _⟩
  · simp only [Bool.not_eq_true] at h1
    go_enter Tryz.func16, Tryz.ntmps16
    go_wp2_with (first | (go_at_call 38; refine (isPointsList_any _ _ _ HI.out).mono ?_; rintro e w' ⟨rfl, rfl⟩))
    go_ret2
    exact ⟨by simp [sumV, sumOk, h1], Kept.refl _⟩
def place (zs : List Int) (n : Int) : Int := 1 + ((zs.filter fun x => decide (n < x)).length : Int)
theorem place_snoc {zs : List Int} {k : Nat} {z n : Int} (h : zs[k]? = some z) : place (zs.take (k + 1)) n = place (zs.take k) n + if n < z then 1 else 0 := by
  unfold place
  rw [take_snoc h, List.filter_append]
  by_cases hz : n < z <;> simp [List.filter_cons, hz]; omega
theorem place_bd (zs : List Int) (n : Int) (k : Nat) : 1 ≤ place (zs.take k) n ∧ place (zs.take k) n ≤ 1 + (k : Int) := by
  unfold place
  have h1 := List.length_filter_le (fun x => decide (n < x)) (zs.take k)
  have h2 := List.length_take_le k zs
  omega
theorem poPlace_any (v : Value) (zs : List Int) (n : Int) (w : World) (h : Ints w v zs) (hn60 : zs.length ≤ 60) :
    Calls Tryz.prog 54 #[v, .int .i64 n] w fun e w' => e = .returned (.int .i64 (place zs n)) ∧ w = w' := by
  obtain ⟨A, c, rfl, hnc, hcm, hl⟩ := h.out
  unfold maxLen at hcm
  have HL := Lib.hid hl
  clear hl h
  go_enter Tryz.func54, Tryz.ntmps54
  go_wp2
  go_loop [5, 10] (fun s i => ∃ k : Nat, k ≤ zs.length ∧ i = .int .i64 k ∧ s = .int .i64 (place (zs.take k) n)) (fun _ i => zs.length - (intOf i).toNat)
  case atStart => exact ⟨0, Nat.zero_le _, rfl, rfl⟩
  case round =>
    obtain ⟨k, hk, rfl, rfl⟩ := hrel
    obtain ⟨hb1, hb2⟩ := place_bd zs n k
    by_cases hlt : k < zs.length
    · obtain ⟨b, o, z, rfl, hb, hz, hc⟩ := ints_at HL.out hlt
      have HZ := Lib.hid (place_snoc (n := n) hz)
      clear hz
      go_wp2
      all_goals
        go_round
        case rel => exact ⟨k + 1, by omega, by go_num, by rw [HZ.out]; first | rw [if_pos (by assumption)] | (rw [if_neg (by omega)]; go_num)⟩
        case measure => simp [intOf]; omega
    · go_wp2
      go_ret
      exact ⟨ret_int (by rw [List.take_of_length_le (by omega)]), rfl⟩
def placeOk (zs : List Int) (n : Int) : Bool := ptsB zs && inB n (-1000000) 1000000
def placeV (zs : List Int) (n : Int) : Int := if placeOk zs n then place zs n else 0
theorem specPlace_any (v : Value) (zs : List Int) (n : Int) (w : World) (h : Ints w v zs) :
    Calls Tryz.prog 22 #[v, .int .i64 n] w fun e w' => e = .returned (.tuple #[.int .i64 (placeV zs n), .bool (placeOk zs n)]) ∧ Kept w w' := by
  have HI := Lib.hid h
  clear h
  by_cases h1 : ptsB zs = true <;> by_cases h2 : inB n (-1000000) 1000000 = true
  · have h60 := (ptsB_true h1).1
    go_enter Tryz.func22, Tryz.ntmps22
    go_wp2_with (first | (go_at_call 42; refine (poList_any _ _ _ HI.out).mono ?_; rintro e w' ⟨rfl, rfl⟩) | (go_at_call 28; refine (poGood_any _ _).mono ?_; rintro e w' ⟨rfl, rfl⟩) | (go_at_call 54; refine (poPlace_any _ _ _ _ HI.out h60).mono ?_; rintro e w' ⟨rfl, rfl⟩))
    go_ret2
    exact ⟨by simp [placeV, placeOk, h1, h2], Kept.refl _⟩
  all_goals
    simp only [Bool.not_eq_true] at *
    go_enter Tryz.func22, Tryz.ntmps22
    go_wp2_with (first | (go_at_call 42; refine (poList_any _ _ _ HI.out).mono ?_; rintro e w' ⟨rfl, rfl⟩) | (go_at_call 28; refine (poGood_any _ _).mono ?_; rintro e w' ⟨rfl, rfl⟩))
    go_ret2
    exact ⟨by simp [placeV, placeOk, h1, h2], Kept.refl _⟩
theorem implPlace_any (v : Value) (zs : List Int) (n : Int) (w : World) (h : Ints w v zs) :
    Calls Tryz.prog 15 #[v, .int .i64 n] w fun e w' => e = .returned (.tuple #[.int .i64 (placeV zs n), .bool (placeOk zs n)]) ∧ Kept w w' := by
  obtain ⟨A, c, rfl, hnc, hcm, hl⟩ := h.out
  unfold maxLen at hcm
  have HL := Lib.hid hl
  have HI := Lib.hid h
  clear hl h
  by_cases h1 : ptsB zs = true <;> by_cases h2 : inB n (-1000000) 1000000 = true
  · have h60 := (ptsB_true h1).1
    go_enter Tryz.func15, Tryz.ntmps15
    go_wp2_with (first | (go_at_call 38; refine (isPointsList_any _ _ _ HI.out).mono ?_; rintro e w' ⟨rfl, rfl⟩) | (go_at_call 26; refine (arePoints_any _ [_] _ (ints_one _ _ _)).mono ?_; rintro e w' ⟨rfl, rfl⟩))
    go_loop [6, 20] (fun s i => ∃ k : Nat, k ≤ zs.length ∧ i = .int .i64 k ∧ s = .int .i64 (place (zs.take k) n)) (fun _ i => zs.length - (intOf i).toNat)
    case atStart => exact ⟨0, Nat.zero_le _, rfl, rfl⟩
    case round =>
      obtain ⟨k, hk, rfl, rfl⟩ := hrel
      obtain ⟨hb1, hb2⟩ := place_bd zs n k
      by_cases hlt : k < zs.length
      · obtain ⟨b, o, z, rfl, hb, hz, hc⟩ := ints_at (HL.out.kept ((Kept.refl w).alloc (.cells #[.int .i64 n] 3))) hlt
        have HZ := Lib.hid (place_snoc (n := n) hz)
        clear hz
        go_wp2
        all_goals
          go_round
          case rel => exact ⟨k + 1, by omega, by go_num, by rw [HZ.out]; first | rw [if_pos (by assumption)] | (rw [if_neg (by omega)]; go_num)⟩
          case measure => simp [intOf]; omega
      · go_wp2
        go_ret2
        refine ⟨?_, (Kept.refl _).alloc _⟩
        have : zs.take k = zs := List.take_of_length_le (by omega)
        simp [placeV, placeOk, h1, h2, this]
  all_goals
    simp only [Bool.not_eq_true] at *
    go_enter Tryz.func15, Tryz.ntmps15
    go_wp2_with (first | (go_at_call 38; refine (isPointsList_any _ _ _ HI.out).mono ?_; rintro e w' ⟨rfl, rfl⟩) | (go_at_call 26; refine (arePoints_any _ [_] _ (ints_one _ _ _)).mono ?_; rintro e w' ⟨rfl, rfl⟩))
    go_ret2
    refine ⟨?_, by first | exact Kept.refl _ | exact (Kept.refl _).alloc _⟩
    simp [placeV, placeOk, h1, h2]
def meanOk (zs : List Int) : Bool := ptsB zs && !(zs.length == 0)
def meanT (zs : List Int) : Int := if meanOk zs then zs.sum.tdiv (Int.gcd zs.sum zs.length) else 0
def meanB (zs : List Int) : Int := if meanOk zs then (zs.length : Int) / (Int.gcd zs.sum zs.length) else 0
end Go.Proofs.YtldinfdbkffdpaaGreatDoor
