/- Contracts of functions that the proof leans on. No condition. -/
import Derived.Test.YtkekpolfdmmgeaaGreatDoorM66c33a3831
import Derived.Test.YtkekpolfdmmgeaaGreatDoorShelf
import Derived.Deep.RegionHeld3
import Derived.Deep.DeepCutAuto
import Derived.Sort.Walk0
import Derived.Lib.SlicesCompact
import Derived.Lib.Strings
import Derived.Below
import Derived.Laws.IdiomCopy
import Derived.Laws.Externs
import Derived.Lib.Overlaps
import Derived.Lib.AppendZerosOnto
import Derived.Lib.SliceRun
import Derived.Deep.RegionLaw
/- Contracts of chapter 1: lowest terms, sums of fractions, rounding. -/
namespace Go.Proofs.YtkekpolfdmmgeaaGreatDoor
set_option linter.unusedVariables false
set_option linter.unusedSimpArgs false
open Go.RowKit

theorem gcd_step (m k : Nat) : Nat.gcd k (m % k) = Nat.gcd m k := by rw [Nat.gcd_comm k, ← Nat.gcd_rec, Nat.gcd_comm]
theorem gcd_pos {a b : Int} (h : 1 ≤ b) : 1 ≤ Int.gcd a b := by
  have : Int.gcd a b ≠ 0 := by
    intro h0
    rw [Int.gcd_eq_zero_iff] at h0
    omega
  omega
def lowT (a b : Int) : Int := if partB a b then a.tdiv (Int.gcd a b) else 0
def lowB (a b : Int) : Int := if partB a b then b / (Int.gcd a b) else 0
def adN (a b c d : Int) : Int := a * d + c * b
def adD (b d : Int) : Int := b * d
def adT (a b c d : Int) : Int := (adN a b c d).tdiv (Int.gcd (adN a b c d) (adD b d))
def adQ (a b c d : Int) : Int := (adD b d) / (Int.gcd (adN a b c d) (adD b d))
def addOk (a b c d : Int) : Bool := partB a b && partB c d && partB (adT a b c d) (adQ a b c d)
def addT (a b c d : Int) : Int := if addOk a b c d then adT a b c d else 0
def addB (a b c d : Int) : Int := if addOk a b c d then adQ a b c d else 0
theorem ad_bd {a b c d : Int} (h1 : partB a b = true) (h2 : partB c d = true) :
    (-4611686018427387904 ≤ a * d + c * b ∧ a * d + c * b ≤ 4611686018427387904 ∧ 1 ≤ b * d ∧ b * d ≤ 4611686018427387904) := by
  have q1 := part_mul h1 h2
  have q2 := part_mul h2 h1
  have e1 := partB_true h1
  have e2 := partB_true h2
  have q3 := mul_bd (a := b) (d := d) (A := 1000000) (D := 1000000) (by omega) (by omega) (by omega) (by omega)
  have q4 : 1 * 1 ≤ b * d := Int.mul_le_mul (by omega) (by omega) (by omega) (by omega)
  omega
theorem fdiv_of (a b : Int) (hb : 1 ≤ b) : a / b = if a.tmod b < 0 then a.tdiv b - 1 else a.tdiv b := by
  have h1 := Int.mul_tdiv_add_tmod a b
  have h2 : (a.tmod b) < b := Int.tmod_lt_of_pos a (by omega)
  have h3 : -b < a.tmod b := by
    have h := Int.tmod_lt_of_pos (-a) (show 0 < b by omega)
    rw [Int.neg_tmod] at h
    omega
  split
  · rw [Int.ediv_eq_iff_of_pos (by omega)]
    rw [Int.sub_mul]
    have := Int.mul_comm b (a.tdiv b)
    constructor <;> omega
  · rw [Int.ediv_eq_iff_of_pos (by omega)]
    have := Int.mul_comm b (a.tdiv b)
    constructor <;> omega
theorem tdiv_bd (a b A : Int) (h1 : -A ≤ a) (h2 : a ≤ A) : -A ≤ a.tdiv b ∧ a.tdiv b ≤ A := by
  have h3 : (a.tdiv b).natAbs = a.natAbs / b.natAbs := Int.natAbs_tdiv a b
  have h4 := Nat.div_le_self a.natAbs b.natAbs
  omega
theorem ediv_bd (a b A : Int) (hb : 1 ≤ b) (h1 : -A ≤ a) (h2 : a ≤ A) : -A - 1 ≤ a / b ∧ a / b ≤ A := by
  have h3 := fdiv_of a b hb
  have h4 := tdiv_bd a b A h1 h2
  split at h3 <;> omega
def rndOk (a b mode : Int) : Bool := partB a b && inB mode (-1) 1
def rndV (a b mode : Int) : Int := if rndOk a b mode then poMd a b mode else 0
end Go.Proofs.YtkekpolfdmmgeaaGreatDoor

/- Contracts of chapter 1: lists of points. -/
namespace Go.Proofs.YtkekpolfdmmgeaaGreatDoor
set_option linter.unusedVariables false
set_option linter.unusedSimpArgs false
open Go.RowKit
theorem sum_bd (zs : List Int) (M : Int) (hM : 0 ≤ M) (h : ∀ z ∈ zs, -M ≤ z ∧ z ≤ M) (k : Nat) : -((k : Int) * M) ≤ (zs.take k).sum ∧ (zs.take k).sum ≤ (k : Int) * M := by
  induction zs generalizing k with
  | nil =>
    have : 0 ≤ (k : Int) * M := Int.mul_nonneg (by omega) hM
    simp
    omega
  | cons z zs ih =>
    cases k with
    | zero => simp
    | succ k =>
      have h1 := h z (by simp)
      have h2 := ih (fun y hy => h y (by simp [hy])) k
      have h3 : ((k + 1 : Nat) : Int) * M = (k : Int) * M + M := by rw [Int.natCast_add, Int.add_mul]; simp
      rw [List.take_succ_cons, List.sum_cons, h3]
      omega
theorem ints_one (w : World) (x : Int) (t : TypeId) : Ints (w.alloc (.cells #[.int .i64 x] t)) (.slice (some ⟨w.heap.size, 0, none⟩) 1 1) [x] :=
  ⟨_, 1, rfl, Nat.le_refl _, by decide, (fun h => by cases h), fun _ => ⟨w.heap.size, 0, rfl, by simp, fun j u hu => by
    have hj : j = 0 := by
      have := (List.getElem?_eq_some_iff.1 hu).1
      simpa using this
    subst hj
    simp at hu
    subst hu
    simp⟩⟩
theorem ints_new (w : World) (b : Nat) (hb : b = w.heap.size) (x : Int) (t : TypeId) : Ints (w.alloc (.cells #[.int .i64 x] t)) (.slice (some ⟨b, 0, none⟩) 1 1) [x] := by
  subst hb
  exact ints_one w x t
def ptsB (zs : List Int) : Bool := decide (zs.length ≤ 60) && zs.all (inB · (-1000000) 1000000)
theorem ptsB_true {zs : List Int} (h : ptsB zs = true) : zs.length ≤ 60 ∧ zs.all (inB · (-1000000) 1000000) = true := by
  unfold ptsB at h
  rw [Bool.and_eq_true] at h
  exact ⟨by simpa using h.1, h.2⟩
end Go.Proofs.YtkekpolfdmmgeaaGreatDoor

/- Points: their text, the reference's and the program's. -/
namespace Go.Proofs.YtkekpolfdmmgeaaGreatDoor
set_option linter.unusedVariables false
set_option linter.unusedSimpArgs false
set_option linter.unnecessarySimpa false
open Go.RowKit Go.Lib

def tx (l : List UInt8) : ByteArray := ⟨l.toArray⟩
theorem tx_data (l : List UInt8) : (tx l).data.toList = l := rfl
theorem tx_toList (l : List UInt8) : (tx l).toList = l := by rw [toList_data]; rfl
theorem tx_of (s : ByteArray) : tx s.data.toList = s := mk_data s
theorem tx_app (a b : List UInt8) : tx a ++ tx b = tx (a ++ b) := by
  apply ByteArray.ext
  simp [tx]
theorem tx_size (l : List UInt8) : (tx l).size = l.length := by rw [size_eq]; rfl
theorem tx_inj {a b : List UInt8} (h : tx a = tx b) : a = b := by rw [← tx_data a, ← tx_data b, h]
theorem conv_box {W : World} {g : Nat} {c : UInt8} {n : Int} (h : W.cell? ⟨g, 0, none⟩ = some (.int .u8 n)) (hn : n = c.toNat) :
    (convert 22 9 (.slice (some ⟨g, 0, none⟩) 1 1)).run Tryz.prog W = .ok (.string ⟨#[c]⟩) W := by
  subst hn
  exact run_convert_bytes_back (P := Tryz.prog) W 22 9 5 ⟨g, 0, none⟩ 1 [c] Tryz.underlying22 Tryz.underlying5 Tryz.underlying9 (fun j hj => by
    obtain rfl : j = 0 := by simpa using hj
    simpa [Addr.add] using h)
def numT (n : Nat) : ByteArray := tx (decDigits n)
theorem numT_small {n : Nat} (h : n < 10) : numT n = ⟨#[UInt8.ofNat (48 + n)]⟩ := by unfold numT; rw [decDigits_small h]; rfl
theorem numT_big {n : Nat} (h : ¬ n < 10) : numT n = numT (n / 10) ++ ⟨#[UInt8.ofNat (48 + n % 10)]⟩ := by
  unfold numT
  rw [decDigits_big h, ← tx_app]
  rfl
theorem ret_str {a b : ByteArray} (h : a = b) : Ending.returned (.string a) = .returned (.string b) := by rw [h]
theorem cat_run {x y z : ByteArray} (hz : x ++ y = z) (h : x.size + y.size ≤ 1099511627776) : Op.stringOp .add x y = pure (.string z) := by
  subst hz
  unfold Op.stringOp
  have : ¬ ((x.size + y.size : Nat) : Int) > IntKind.i64.max := by
    have : IntKind.i64.max = 9223372036854775807 := by decide
    omega
  simp only [if_neg this]
theorem numT_len {n : Nat} (h : n ≤ 1000000000) : (numT n).size ≤ 10 := by
  unfold numT
  rw [tx_size]
  exact decDigits_len (k := 9) (by omega)
set_option maxRecDepth 100000 in
set_option maxHeartbeats 2000000 in
theorem l1Num_any (n : Nat) : n ≤ 1000000000 → ∀ w : World, Calls Tryz.prog 127 #[.int .i64 (n : Int)] w fun e w' => e = .returned (.string (numT n)) ∧ Kept w w' := by
  induction n using Nat.strongRecOn with
  | _ n ih =>
    intro hn w
    by_cases h10 : n < 10
    · have HN := Lib.hid (numT_small h10)
      have hq : (48 + (n : Int)) = ((UInt8.ofNat (48 + n)).toNat : Int) := by rw [toNat_of h10]; omega
      have HQ := Lib.hid hq
      clear ih hq
      generalize hcc : UInt8.ofNat (48 + n) = cc at *
      have HCC := Lib.hid hcc
      clear hcc
      have hcv := conv_box (W := w.alloc (.cells #[.int .u8 (48 + (n : Int))] 5)) (g := w.heap.size) (c := cc) (n := 48 + (n : Int)) (by simp) HQ.out
      go_enter Tryz.func127, Tryz.ntmps127
      go_wp2_with fail
      go_ret
      exact ⟨ret_str (HN.out.trans (by first | rfl | rw [HCC.out])).symm, (Kept.refl w).alloc _⟩
    · have HN := Lib.hid (numT_big h10)
      have e10 : ((n / 10 : Nat) : Int) = (n : Int) / 10 := by omega
      have c := ih (n / 10) (by omega) (by omega)
      rw [e10] at c
      have C := Lib.hid c
      have hm : n % 10 < 10 := Nat.mod_lt _ (by decide)
      have hd0 : (0 : Int) ≤ (n : Int) % 10 := by omega
      have hd1 : (n : Int) % 10 < 10 := by omega
      have hq : (48 + (n : Int) % 10) = ((UInt8.ofNat (48 + n % 10)).toNat : Int) := by rw [toNat_of hm]; omega
      have HQ := Lib.hid hq
      clear ih c e10 hq
      generalize hcc : UInt8.ofNat (48 + n % 10) = cc at *
      have HCC := Lib.hid hcc
      clear hcc
      have hcv := conv_box (W := (w.alloc (.cells #[.int .u8 (48 + (n : Int) % 10)] 5)).drew) (g := w.heap.size) (c := cc) (n := 48 + (n : Int) % 10) (by simp) HQ.out
      have hct : Op.stringOp .add (numT (n / 10)) ⟨#[cc]⟩ = pure (.string (numT n)) := cat_run HN.out.symm (by have := numT_len (n := n / 10) (by omega); have e : (⟨#[cc]⟩ : ByteArray).size = 1 := rfl; omega)
      have ht : (n : Int).tmod 10 = (n : Int) % 10 := Int.tmod_eq_emod_of_nonneg (by omega)
      have hw1 : IntKind.i64.wrap ((n : Int) / 10) = (n : Int) / 10 := IntWalk.i64_in _ (by omega)
      have hw8 : IntKind.u8.wrap (48 + (n : Int) % 10) = 48 + (n : Int) % 10 := IntWalk.u8_in _ (by omega)
      have hwq : IntKind.i64.wrap (48 + (n : Int) % 10) = 48 + (n : Int) % 10 := IntWalk.i64_in _ (by omega)
      go_enter Tryz.func127, Tryz.ntmps127
      go_wp2_with fail
      go_region_with (first | (go_at_call 127; (with_reducible refine (C.out w.drew).mono ?_); rintro e w1 ⟨rfl, k1⟩; have kk : Kept w (w1.alloc (.cells #[.int .u8 (48 + (n : Int) % 10)] 5)) := ((Kept.refl w).drew.trans k1).alloc _; have hcv1 := conv_box (W := w1.alloc (.cells #[.int .u8 (48 + (n : Int) % 10)] 5)) (g := w1.heap.size) (c := cc) (n := 48 + (n : Int) % 10) (by simp) HQ.out) | (go_at_call 127; (with_reducible refine (C.out (w.alloc (.cells #[.int .u8 (48 + (n : Int) % 10)] 5)).drew).mono ?_); rintro e w1 ⟨rfl, k1⟩; have kk : Kept w w1 := ((Kept.refl w).alloc _).drew.trans k1; have hcv2 := conv_box (W := w1) (g := w.heap.size) (c := cc) (n := 48 + (n : Int) % 10) ((k1.cell (p := ⟨w.heap.size, 0, none⟩) (by simp)).trans (by simp)) HQ.out))
      all_goals
        go_wp2_with fail
        go_ret
        exact ⟨rfl, kk⟩
end Go.Proofs.YtkekpolfdmmgeaaGreatDoor

/- Points: PointsText, both sides and the law. -/
namespace Go.Proofs.YtkekpolfdmmgeaaGreatDoor
set_option linter.unusedVariables false
set_option linter.unusedSimpArgs false
set_option linter.unnecessarySimpa false
open Go.RowKit Go.Lib

theorem kept_grow (w : World) (k : Nat) (os : Array Obj) : Kept w (Go.Sort.grow (w.drewN k) os) :=
  ⟨rfl, rfl, rfl, by simp [Go.Sort.grow, World.drewN], fun i hi => by
    show (w.heap ++ os)[i]? = w.heap[i]?
    rw [Array.getElem?_append, if_pos hi]⟩
/-- the library's table of powers of ten reads as its initialiser lays it -/
def HasTab (w : World) : Prop := TabIs Tryz.prog w "internal/strconv.uint64pow10" .u64 pow10Tab ∧ 2 < w.heap.size
theorem HasTab.kept {w w' : World} (h : HasTab w) (k : Kept w w') : HasTab w' := by
  refine ⟨?_, Nat.lt_of_lt_of_le h.2 k.size⟩
  have hg : Tryz.prog.globalNamed "internal/strconv.uint64pow10" = some 2 := by kernel_rfl
  have h1 := h.1
  unfold TabIs World.var? at h1 ⊢
  rw [hg] at h1 ⊢
  simp only [Option.bind_eq_bind, Option.bind_some] at h1 ⊢
  rw [k.block _ h.2]
  exact h1
theorem itoa_nat (n : Nat) : itoa (n : Int) = decDigits n := by
  unfold itoa
  rw [if_neg (by omega)]
  simp
theorem itoa_any (n : Nat) (w : World) (h : HasTab w) (hn : n ≤ 1000000000000) :
    Calls Tryz.prog 97 #[.int .i64 (n : Int)] w fun e w' => e = .returned (.string (numT n)) ∧ Kept w w' := by
  refine (Tryz.strconv_Itoa (n : Int) (by omega) (by omega) w h.1).mono ?_
  rintro e w' ⟨rfl, k, os, rfl⟩
  exact ⟨by rw [itoa_nat]; rfl, kept_grow w k os⟩
def ptT (n : Int) : ByteArray := tx (ptxt n)
theorem ptT_nat {n : Int} {u : Nat} (hn : n = u) : ptT n = numT (u / 100) ++ ⟨#[46]⟩ ++ numT (u / 10 % 10) ++ numT (u % 10) := by
  subst hn
  unfold ptT ptxt
  rw [if_neg (by omega), Int.toNat_natCast]
  unfold ptN numT
  show _ = tx _ ++ tx [46] ++ tx _ ++ tx _
  rw [tx_app, tx_app, tx_app]
  simp
theorem ptT_neg {n : Int} {u : Nat} (hn : n = -(u : Int)) (hu : 0 < u) : ptT n = ⟨#[45]⟩ ++ ptT u := by
  unfold ptT ptxt
  rw [if_pos (by omega), if_neg (by omega), Int.toNat_natCast]
  show _ = tx [45] ++ tx _
  rw [tx_app, show n.natAbs = u by omega]
  rfl
theorem numT_one {n : Nat} (h : n < 10) : (numT n).size = 1 := by rw [numT_small h]; rfl
def ptV (n : Int) : ByteArray := if inB n (-1000000) 1000000 then ptT n else ⟨#[]⟩
theorem ptV_yes {n : Int} (h : inB n (-1000000) 1000000 = true) : ptV n = ptT n := by unfold ptV; rw [h]; rfl
theorem ptV_no {n : Int} (h : inB n (-1000000) 1000000 = false) : ptV n = ⟨#[]⟩ := by unfold ptV; rw [h]; rfl
theorem ret_sb {a a' : ByteArray} {b b' : Bool} (h : a = a') (h2 : b = b') : Ending.returned (.tuple #[.string a, .bool b]) = .returned (.tuple #[.string a', .bool b']) := by rw [h, h2]
end Go.Proofs.YtkekpolfdmmgeaaGreatDoor

/- Plain facts on sorted lists of names. -/
namespace Go.Proofs.YtkekpolfdmmgeaaGreatDoor
set_option linter.unusedVariables false
set_option linter.unusedSimpArgs false
open Go.Lib

abbrev LB := List UInt8
theorem lb_irrefl (a : LB) : ¬ a < a := List.lt_irrefl a
theorem lb_trans {a b c : LB} (h1 : a < b) (h2 : b < c) : a < c := List.lt_trans h1 h2
theorem lb_tri {a b : LB} (h1 : ¬ a < b) (h2 : ¬ b < a) : a = b := List.le_antisymm h2 h1
theorem lb_lt_of {a b c : LB} (h1 : ¬ b < a) (h2 : b < c) : a < c := List.lt_of_le_of_lt h1 h2
def SL (l : List LB) : Prop := l.Pairwise (· < ·)
theorem sl_unique : ∀ (l m : List LB), SL l → SL m → (∀ x, x ∈ l ↔ x ∈ m) → l = m
  | [], [], _, _, _ => rfl
  | [], y :: m, _, _, h => absurd ((h y).2 (by simp)) (by simp)
  | x :: l, [], _, _, h => absurd ((h x).1 (by simp)) (by simp)
  | x :: l, y :: m, hl, hm, h => by
    have hl' := List.pairwise_cons.1 hl
    have hm' := List.pairwise_cons.1 hm
    have e : x = y := by
      rcases List.mem_cons.1 ((h x).1 (by simp)) with e | e
      · exact e
      · rcases List.mem_cons.1 ((h y).2 (by simp)) with e2 | e2
        · exact e2.symm
        · exact absurd (lb_trans (hm'.1 x e) (hl'.1 y e2)) (lb_irrefl _)
    subst e
    rw [sl_unique l m hl'.2 hm'.2 (fun z => ⟨fun hz => ?_, fun hz => ?_⟩)]
    · rcases List.mem_cons.1 ((h z).1 (by simp [hz])) with e | e
      · subst e; exact absurd (hl'.1 _ hz) (lb_irrefl _)
      · exact e
    · rcases List.mem_cons.1 ((h z).2 (by simp [hz])) with e | e
      · subst e; exact absurd (hm'.1 _ hz) (lb_irrefl _)
      · exact e
def sortL (zs : List LB) : List LB := zs.mergeSort fun x y => decide (x ≤ y)
theorem sortL_le (zs : List LB) : (sortL zs).Pairwise fun x y => ¬ y < x := by
  have h := List.pairwise_mergeSort (le := fun x y : LB => decide (x ≤ y)) (by intro a b c h1 h2; simp at *; exact List.le_trans h1 h2) (by intro a b; simp; exact List.le_total a b) zs
  exact h.imp (by intro a b h; simpa using h)
theorem compact_upto {d : Array LB} (hd : ∀ i j, i ≤ j → j < d.size → ¬ d[j]! < d[i]!) : ∀ m, m ≤ d.size → SL (compactUpTo d m) ∧ (∀ x, x ∈ compactUpTo d m ↔ ∃ j, j < m ∧ d[j]! = x)
  | 0, _ => ⟨by simp [compactUpTo, SL], fun x => by simp [compactUpTo]⟩
  | m + 1, hm => by
    obtain ⟨h1, h2⟩ := compact_upto hd m (by omega)
    rw [compactUpTo_succ]
    by_cases hk : keeps d m = true
    · rw [if_pos hk]
      refine ⟨?_, fun x => ?_⟩
      · unfold SL
        rw [List.pairwise_append]
        refine ⟨h1, List.pairwise_singleton _ _, fun a ha b hb => ?_⟩
        rw [List.mem_singleton] at hb
        subst hb
        obtain ⟨j, hj, rfl⟩ := (h2 a).1 ha
        have hm0 : m ≠ 0 := by omega
        have hne : d[m]! ≠ d[m - 1]! := by
          have := hk
          unfold keeps at this
          simp only [decide_eq_true_eq] at this
          rcases this with e | e
          · exact absurd e hm0
          · exact e
        have hlt : d[m - 1]! < d[m]! := by
          by_cases hx : d[m - 1]! < d[m]!
          · exact hx
          · exact absurd (lb_tri (hd (m - 1) m (by omega) (by omega)) hx) hne
        exact lb_lt_of (hd j (m - 1) (by omega) (by omega)) hlt
      · rw [List.mem_append, List.mem_singleton, h2]
        refine ⟨fun h => ?_, fun ⟨j, hj, e⟩ => ?_⟩
        · rcases h with ⟨j, hj, e⟩ | e
          · exact ⟨j, by omega, e⟩
          · exact ⟨m, by omega, e.symm⟩
        · rcases Nat.lt_or_eq_of_le (Nat.le_of_lt_succ hj) with h | h
          · exact .inl ⟨j, h, e⟩
          · subst h; exact .inr e.symm
    · rw [if_neg hk, List.append_nil]
      refine ⟨h1, fun x => ?_⟩
      rw [h2]
      refine ⟨fun ⟨j, hj, e⟩ => ⟨j, by omega, e⟩, fun ⟨j, hj, e⟩ => ?_⟩
      rcases Nat.lt_or_eq_of_le (Nat.le_of_lt_succ hj) with h | h
      · exact ⟨j, h, e⟩
      · subst h
        unfold keeps at hk
        simp only [decide_eq_true_eq, not_or] at hk
        exact ⟨j - 1, by omega, (Decidable.not_not.1 hk.2).symm.trans e⟩
theorem compact_sort (zs : List LB) : SL (compact (sortL zs)) ∧ ∀ x, x ∈ compact (sortL zs) ↔ x ∈ zs := by
  have hp := sortL_le zs
  have hd : ∀ i j, i ≤ j → j < (sortL zs).toArray.size → ¬ (sortL zs).toArray[j]! < (sortL zs).toArray[i]! := by
    intro i j hij hj
    have hj' : j < (sortL zs).length := by simpa using hj
    have hi' : i < (sortL zs).length := by omega
    rw [getElem!_pos (sortL zs).toArray j hj, getElem!_pos (sortL zs).toArray i (by simpa using hi')]
    rcases Nat.lt_or_eq_of_le hij with h | h
    · exact List.pairwise_iff_getElem.1 hp i j hi' hj' h
    · subst h; exact lb_irrefl _
  obtain ⟨h1, h2⟩ := compact_upto hd _ (Nat.le_refl _)
  refine ⟨h1, fun x => ?_⟩
  have h3 := h2 x
  have e : compact (sortL zs) = compactUpTo (sortL zs).toArray (sortL zs).toArray.size := rfl
  rw [e, h3]
  have hmem : x ∈ sortL zs ↔ x ∈ zs := (List.mergeSort_perm _ _).mem_iff
  rw [← hmem]
  refine ⟨fun ⟨j, hj, e⟩ => ?_, fun h => ?_⟩
  · have hj' : j < (sortL zs).length := by simpa using hj
    rw [getElem!_pos _ j hj] at e
    subst e
    exact List.getElem_mem hj'
  · obtain ⟨j, hj, e⟩ := List.getElem_of_mem h
    refine ⟨j, by simpa using hj, ?_⟩
    rw [getElem!_pos _ j (by simpa using hj)]
    exact e

/-! ### in the program's own strings -/
def bl (z : ByteArray) : LB := z.data.toList
def bs (l : LB) : ByteArray := ⟨l.toArray⟩
theorem bs_bl (z : ByteArray) : bs (bl z) = z := mk_data z
theorem bl_bs (l : LB) : bl (bs l) = l := rfl
theorem bl_inj {x y : ByteArray} (h : bl x = bl y) : x = y := by rw [← bs_bl x, ← bs_bl y, h]
def namesD (zs : List ByteArray) : List ByteArray := (compact (sortL (zs.map bl))).map bs
/-- strictly increasing, with just the strings of zs -/
def IsNames (os zs : List ByteArray) : Prop := SL (os.map bl) ∧ ∀ x, x ∈ os ↔ x ∈ zs
theorem isNames_eq {os zs : List ByteArray} (h : IsNames os zs) : os = namesD zs := by
  obtain ⟨h1, h2⟩ := h
  obtain ⟨c1, c2⟩ := compact_sort (zs.map bl)
  have e : os.map bl = compact (sortL (zs.map bl)) := by
    refine sl_unique _ _ h1 c1 fun x => ?_
    rw [c2, List.mem_map, List.mem_map]
    exact ⟨fun ⟨y, hy, e⟩ => ⟨y, (h2 y).1 hy, e⟩, fun ⟨y, hy, e⟩ => ⟨y, (h2 y).2 hy, e⟩⟩
  unfold namesD
  rw [← e, List.map_map]
  conv => lhs; rw [← List.map_id os]
  exact List.map_congr_left fun x _ => (bs_bl x).symm
theorem names_mem {zs : List ByteArray} {x : ByteArray} (h : x ∈ namesD zs) : x ∈ zs := by
  unfold namesD at h
  obtain ⟨l, hl, rfl⟩ := List.mem_map.1 h
  obtain ⟨y, hy, e⟩ := List.mem_map.1 (((compact_sort (zs.map bl)).2 l).1 hl)
  subst e
  rw [bs_bl]
  exact hy
def nlt (x y : ByteArray) : Bool := Op.bytesLess x.toList y.toList
theorem nlt_iff (x y : ByteArray) : nlt x y = true ↔ bl x < bl y := by
  unfold nlt
  rw [bytesLess_eq, toList_data, toList_data]
  simp [bl]
theorem isNames_in {os zs : List ByteArray} {n : ByteArray} (h : IsNames os zs) (hn : n ∈ os) : IsNames os (zs ++ [n]) :=
  ⟨h.1, fun x => by rw [h.2, List.mem_append, List.mem_singleton]; exact ⟨.inl, fun e => e.elim id (fun e => e ▸ (h.2 n).1 hn)⟩⟩
theorem isNames_ins {os zs : List ByteArray} {n : ByteArray} {k : Nat} (h : IsNames os zs) (hk : k ≤ os.length) (h1 : ∀ j x, j < k → os[j]? = some x → nlt x n = true) (h2 : ∀ x, os[k]? = some x → nlt x n = false ∧ x ≠ n) : IsNames (os.take k ++ n :: os.drop k) (zs ++ [n]) := by
  obtain ⟨hs, hm⟩ := h
  have hafter : ∀ y ∈ os.drop k, bl n < bl y := by
    intro y hy
    obtain ⟨j, hj⟩ := List.getElem?_of_mem hy
    rw [List.getElem?_drop] at hj
    have hlt := (List.getElem?_eq_some_iff.1 hj).1
    have hk' : k < os.length := by omega
    have hk1 : os[k]? = some os[k] := List.getElem?_eq_getElem hk'
    obtain ⟨ha, hb⟩ := h2 _ hk1
    have hnk : bl n < bl os[k] := by
      by_cases hx : bl n < bl os[k]
      · exact hx
      · have hy : ¬ bl os[k] < bl n := fun hc => by rw [(nlt_iff _ _).2 hc] at ha; cases ha
        exact absurd (bl_inj (lb_tri hy hx)) hb
    cases j with
    | zero =>
      rw [Nat.add_zero, hk1] at hj
      injection hj with hj
      subst hj
      exact hnk
    | succ j =>
      have hp := List.pairwise_iff_getElem.1 hs k (k + (j + 1)) (by simpa using hk') (by simpa using hlt) (by omega)
      have e := (List.getElem?_eq_some_iff.1 hj).2
      simp only [List.getElem_map] at hp
      rw [e] at hp
      exact lb_trans hnk hp
  refine ⟨?_, fun x => ?_⟩
  · rw [List.map_append, List.map_cons]
    unfold SL
    rw [List.pairwise_append]
    refine ⟨?_, ?_, ?_⟩
    · rw [List.map_take]; exact hs.sublist (List.take_sublist _ _)
    · rw [List.pairwise_cons]
      refine ⟨fun y hy => ?_, ?_⟩
      · obtain ⟨z, hz, rfl⟩ := List.mem_map.1 hy
        exact hafter z hz
      · rw [List.map_drop]; exact hs.sublist (List.drop_sublist _ _)
    · intro a ha b hb
      obtain ⟨x, hx, rfl⟩ := List.mem_map.1 ha
      obtain ⟨i, hi⟩ := List.getElem?_of_mem hx
      have hik : i < k := by
        have := (List.getElem?_eq_some_iff.1 hi).1
        rw [List.length_take] at this
        omega
      rw [List.getElem?_take_of_lt hik] at hi
      have hxn := (nlt_iff _ _).1 (h1 i x hik hi)
      rcases List.mem_cons.1 hb with e | e
      · subst e; exact hxn
      · obtain ⟨z, hz, rfl⟩ := List.mem_map.1 e
        exact lb_trans hxn (hafter z hz)
  · have e : x ∈ os.take k ++ n :: os.drop k ↔ x ∈ os ∨ x = n := by
      rw [List.mem_append, List.mem_cons]
      conv => rhs; rw [← List.take_append_drop k os, List.mem_append]
      constructor
      · rintro (h | h | h)
        · exact .inl (.inl h)
        · exact .inr h
        · exact .inl (.inr h)
      · rintro ((h | h) | h)
        · exact .inl h
        · exact .inr (.inr h)
        · exact .inr (.inl h)
    rw [e, hm, List.mem_append, List.mem_singleton]
theorem isNames_nil : IsNames [] [] := ⟨List.Pairwise.nil, fun _ => Iff.rfl⟩
end Go.Proofs.YtkekpolfdmmgeaaGreatDoor

/- append to rows of the call's own, in the words of the readings. -/
namespace Go.Proofs.YtkekpolfdmmgeaaGreatDoor
set_option linter.unusedVariables false
set_option linter.unusedSimpArgs false
open Go.RowKit

theorem own_nil (w : World) (base : Nat) : OwnI w base (.slice none 0 0) [] := World.ownsRow_nil _ _ _ _
theorem OwnI.base {w : World} {base base' : Nat} {v : Value} {zs : List Int} (h : OwnI w base v zs) (hb : base' ≤ base) : OwnI w base' v zs := own_base h hb
/-- what was there when a0 stood is kept by an append to a row that lies above -/
theorem Kept.grew {a w w' : World} {base : Nat} {e : TypeId} {size : Nat} {v : Value} {n : Nat} {xs : List Value} (hk : Kept a w) (h : w.ownsRow base e size v n xs) (hg : w.grownBy w' v.ownBlock) (hb : a.heap.size ≤ base) : Kept a w' :=
  (only_of_grown hg).above hk (fun b hb' => Nat.le_trans hb (own_fp h b hb').1)
/-- a row built of no element -/
theorem own_made {w : World} {base : Nat} (g : Nat) (e : TypeId) (size : Nat) (hb : base ≤ g) (h : Box w g e #[]) : w.ownsRow base e size (.slice (some ⟨g, 0, none⟩) 0 0) 0 [] :=
  ⟨by simp, .inr ⟨g, 0, _, rfl, hb, h, Nat.le_refl _, Nat.zero_le _, by simp, by simp⟩⟩
/-- append(out, x), numbers -/
theorem wpList_append_int (w : World) {ops : Array Oper} {rest : List Oper} {o : Oper} {a : Act} {Q : Exit → Act → World → Prop} (hgd : o.guard = none) (s x : Operand)
    (ho : o.op = .call { callee := .builtin .append, args := #[s, x], argTypes := #[24, 24] })
    (base : Nat) (v : Value) (zs : List Int) (hs : a.eval s = v) (hown : OwnI w base v zs)
    (g : Nat) (z : Int) (hx : a.eval x = .slice (some ⟨g, 0, none⟩) 1 1) (hc : w.cell? ⟨g, 0, none⟩ = some (.int .i64 z))
    (hl : zs.length ≤ 16777216) (hbase : base ≤ w.heap.size)
    (h : ∀ v' w', OwnI w' base v' (zs ++ [z]) → w.grownBy w' v.ownBlock → wpList Tryz.prog ops Q rest (a.put o.dst v') w') : wpList Tryz.prog ops Q (o :: rest) a w := by
  obtain ⟨i0, hi, hz0, hz1, hz2⟩ := info_parts info_int
  refine wpList_append_own_at w hgd s x 24 ho base 3 i0 _ 1 8 Tryz.underlying24 hi hz0 hz1 hz2 rfl (by omega) v zs.length _ hs hown ⟨g, 0, none⟩ 1 1 [.int .i64 z] hx rfl ?_ ?_ (by unfold maxLen; omega) (by omega) hbase (fun v' w' q1 q2 _ _ => h v' w' ?_ q2)
  · intro j u hu
    rcases j with _ | j
    · simp at hu
      subst hu
      exact hc
    · simp at hu
  · intro u hu
    simp at hu
    subst hu
    rfl
  · unfold OwnI
    simpa using q1
end Go.Proofs.YtkekpolfdmmgeaaGreatDoor

/- append(out, xs...) to rows of the call's own, in the words of the readings. -/
namespace Go.Proofs.YtkekpolfdmmgeaaGreatDoor
set_option linter.unusedVariables false
set_option linter.unusedSimpArgs false
open Go.RowKit

theorem run_append_of_nil {P : Program} (w : World) (base : Nat) (t ty e : TypeId) (i : TypeInfo) (size : Nat) (ht : P.underlying t = some (.slice e)) (hi : P.info? e = some i)
    (v : Value) (n : Nat) (xs : List Value) (hown : w.ownsRow base e size v n xs) (c : Nat) : (Builtin.append_ #[t, t] ty #[v, .slice none 0 c]).run P w = .ok v w := by
  rcases hown.2 with ⟨rfl, rfl⟩ | ⟨g, cap, cur, rfl, _, _, hnc, _⟩
  · simp [Builtin.append_, run_underlying ht, sizeOf, typeInfo, hi, Builtin.lenOf, Builtin.firstCells]
  · simp [Builtin.append_, run_underlying ht, sizeOf, typeInfo, hi, Builtin.lenOf, Builtin.firstCells, hnc, storeCells]
theorem run_append_seq {P : Program} (w : World) (base : Nat) (t ty e : TypeId) (i : TypeInfo) (z : Value) (size bytes : Nat) (ht : P.underlying t = some (.slice e)) (hi : P.info? e = some i) (hz : i.zero = some z)
    (hsize : i.size = size) (hby : i.bytes = bytes) (hzs : z.cells.size = size) (hsz : 0 < size)
    (v : Value) (n : Nat) (xs : List Value) (hown : w.ownsRow base e size v n xs)
    (u : Value) (m : Nat) (news : List Value) (hr : Seq w u m news) (hl : news.length = m * size) (h1 : ∀ y ∈ news, y.oneCell' = true)
    (h63 : n + m ≤ maxLen) (hbytes : (n + m) * bytes ≤ 140737488355328) (hbase : base ≤ w.heap.size) :
    ∃ v' w', (Builtin.append_ #[t, t] ty #[v, u]).run P w = .ok v' w' ∧ w'.ownsRow base e size v' (n + m) (xs ++ news) ∧ w.grownBy w' v.ownBlock := by
  obtain ⟨A, c, rfl, hnc, hcm, hA, hc⟩ := hr
  rcases A with _ | ad
  · obtain rfl := hA rfl
    obtain rfl : m = 0 := by omega
    obtain rfl : news = [] := List.eq_nil_of_length_eq_zero (by simpa using hl)
    exact ⟨v, w, run_append_of_nil w base t ty e i size ht hi v n xs hown 0, by simpa using hown, World.grownBy.refl w _⟩
  · have hcells : ∀ j y, news[j]? = some y → w.cell? (ad.add j) = some y := by
      intro j y hy
      have hm : 0 < m := by
        rcases Nat.eq_zero_or_pos m with h0 | h0
        · subst h0
          have : news = [] := List.eq_nil_of_length_eq_zero (by simpa using hl)
          subst this
          simp at hy
        · exact h0
      obtain ⟨b, o', e1, hb, hcell⟩ := hc hm
      injection e1 with e1
      subst e1
      have := hcell j y hy
      rwa [show (⟨b, o', none⟩ : Addr).add j = ⟨b, o' + j, none⟩ from by unfold Addr.add; split <;> simp_all]
    obtain ⟨v', w', hrun, h2, h3, _, _⟩ := run_append_own_at (P := P) w base t ty e i z size bytes ht hi hz hsize hby hzs hsz v n xs hown ad m c news hl hcells h1 h63 hbytes hbase
    exact ⟨v', w', hrun, h2, h3⟩
theorem wp_append_seq {P : Program} (w : World) {o : Oper} {a : Act} {K : Act → World → Prop} {Q : Exit → Act → World → Prop} (s x : Operand) (t : TypeId)
    (ho : o.op = .call { callee := .builtin .append, args := #[s, x], argTypes := #[t, t] })
    (base : Nat) (e : TypeId) (i : TypeInfo) (z : Value) (size bytes : Nat) (ht : P.underlying t = some (.slice e)) (hi : P.info? e = some i) (hz : i.zero = some z)
    (hsize : i.size = size) (hby : i.bytes = bytes) (hzs : z.cells.size = size) (hsz : 0 < size)
    (v : Value) (n : Nat) (xs : List Value) (hs : a.eval s = v) (hown : w.ownsRow base e size v n xs)
    (u : Value) (m : Nat) (news : List Value) (hx : a.eval x = u) (hr : Seq w u m news) (hl : news.length = m * size) (h1 : ∀ y ∈ news, y.oneCell' = true)
    (h63 : n + m ≤ maxLen) (hbytes : (n + m) * bytes ≤ 140737488355328) (hbase : base ≤ w.heap.size)
    (h : ∀ v' w', w'.ownsRow base e size v' (n + m) (xs ++ news) → w.grownBy w' v.ownBlock → K (a.put o.dst v') w') : o.wp P a w K Q := by
  obtain ⟨v', w', hrun, h2, h3⟩ := run_append_seq (P := P) w base t o.type e i z size bytes ht hi hz hsize hby hzs hsz v n xs hown u m news hr hl h1 h63 hbytes hbase
  unfold Oper.wp execOp
  simp only [ho, resolve, invoke, builtin, Sem.run_bind, Sem.run_pure, Result.andThen_ok, List.map_toArray, List.map_cons, List.map_nil, hs, hx, hrun]
  exact h v' w' h2 h3

theorem wp_append_I (w : World) {o : Oper} {a : Act} {K : Act → World → Prop} {Q : Exit → Act → World → Prop} (s x : Operand)
    (ho : o.op = .call { callee := .builtin .append, args := #[s, x], argTypes := #[24, 24] })
    (base : Nat) (v : Value) (zs : List Int) (hs : a.eval s = v) (hown : OwnI w base v zs) (u : Value) (ys : List Int) (hx : a.eval x = u) (hr : Ints w u ys)
    (hl : zs.length + ys.length ≤ 16777216) (hbase : base ≤ w.heap.size)
    (h : ∀ v' w', OwnI w' base v' (zs ++ ys) → w.grownBy w' v.ownBlock → K (a.put o.dst v') w') : o.wp Tryz.prog a w K Q := by
  obtain ⟨i0, hi, hz0, hz1, hz2⟩ := info_parts info_int
  refine wp_append_seq w s x 24 ho base 3 i0 _ 1 8 Tryz.underlying24 hi hz0 hz1 hz2 rfl (by omega) v zs.length _ hs hown u ys.length _ hx hr (by simp) ?_ (by unfold maxLen; omega) (by omega) hbase (fun v' w' q1 q2 => h v' w' ?_ q2)
  · intro y hy
    obtain ⟨_, _, rfl⟩ := List.mem_map.1 hy; rfl
  · unfold OwnI; rw [List.length_append, List.map_append]; exact q1
theorem wpList_append_I (w : World) {ops : Array Oper} {rest : List Oper} {o : Oper} {a : Act} {Q : Exit → Act → World → Prop} (hgd : o.guard = none) (s x : Operand)
    (ho : o.op = .call { callee := .builtin .append, args := #[s, x], argTypes := #[24, 24] })
    (base : Nat) (v : Value) (zs : List Int) (hs : a.eval s = v) (hown : OwnI w base v zs) (u : Value) (ys : List Int) (hx : a.eval x = u) (hr : Ints w u ys)
    (hl : zs.length + ys.length ≤ 16777216) (hbase : base ≤ w.heap.size)
    (h : ∀ v' w', OwnI w' base v' (zs ++ ys) → w.grownBy w' v.ownBlock → wpList Tryz.prog ops Q rest (a.put o.dst v') w') : wpList Tryz.prog ops Q (o :: rest) a w :=
  wpList_plain hgd fun _ hK => wp_append_I w s x ho base v zs hs hown u ys hx hr hl hbase fun v' w' h2 h3 => hK _ _ (h v' w' h2 h3)
theorem step_append_I (w : World) {ops : Array Oper} {o : Oper} {a : Act} {K : Act → World → Prop} {Q : Exit → Act → World → Prop} {E : Prop} (hgd : o.guard = none) (s x : Operand)
    (ho : o.op = .call { callee := .builtin .append, args := #[s, x], argTypes := #[24, 24] })
    (base : Nat) (v : Value) (zs : List Int) (hs : a.eval s = v) (hown : OwnI w base v zs) (u : Value) (ys : List Int) (hx : a.eval x = u) (hr : Ints w u ys)
    (hl : zs.length + ys.length ≤ 16777216) (hbase : base ≤ w.heap.size)
    (h : ∀ v' w', OwnI w' base v' (zs ++ ys) → w.grownBy w' v.ownBlock → K (a.put o.dst v') w') :
    if Region.wanted o (yielded ops a.tmps) = true then Oper.wp Tryz.prog o a w K Q else E := by
  have hw : Region.wanted o (yielded ops a.tmps) = true := by simp [Region.wanted, hgd]
  rw [if_pos hw]
  exact wp_append_I w s x ho base v zs hs hown u ys hx hr hl hbase h
end Go.Proofs.YtkekpolfdmmgeaaGreatDoor

/- Strings in slices; items and lists of items in memory. -/
namespace Go.Proofs.YtkekpolfdmmgeaaGreatDoor
set_option linter.unusedVariables false
set_option linter.unusedSimpArgs false
open Go.RowKit

def Strs (w : World) (v : Value) (zs : List ByteArray) : Prop := Seq w v zs.length (zs.map Value.string) ∧ ∀ z ∈ zs, z.size ≤ maxLen
def OwnS (w : World) (base : Nat) (v : Value) (zs : List ByteArray) : Prop := w.ownsRow base 9 1 v zs.length (zs.map Value.string) ∧ ∀ z ∈ zs, z.size ≤ maxLen
theorem Strs.kept {w w' : World} {v : Value} {zs : List ByteArray} (h : Strs w v zs) (hk : Kept w w') : Strs w' v zs := ⟨Seq.kept h.1 hk, h.2⟩
theorem OwnS.strs {w : World} {base : Nat} {v : Value} {zs : List ByteArray} (h : OwnS w base v zs) : Strs w v zs := ⟨Seq.of_own h.1, h.2⟩
theorem OwnS.kept {w w' : World} {base : Nat} {v : Value} {zs : List ByteArray} (h : OwnS w base v zs) (hk : Kept w w') : OwnS w' base v zs := ⟨own_kept h.1 hk, h.2⟩
theorem OwnS.only {w w' : World} {base : Nat} {v : Value} {zs : List ByteArray} {S : List Nat} (h : OwnS w base v zs) (ho : Only S w w') (hd : ∀ b ∈ fp v, b ∉ S) : OwnS w' base v zs := ⟨own_only h.1 ho hd, h.2⟩
theorem strs_at {w : World} {A : Option Addr} {zs : List ByteArray} (h : SeqA w A zs.length (zs.map Value.string)) {k : Nat} (hk : k < zs.length) :
    ∃ b o z, A = some ⟨b, o, none⟩ ∧ b < w.heap.size ∧ zs[k]? = some z ∧ w.cell? ⟨b, o + k, none⟩ = some (.string z) := by
  have hz : zs[k]? = some zs[k] := List.getElem?_eq_getElem hk
  obtain ⟨b, o, e, hb, hc⟩ := h.at_ (j := k) (u := .string zs[k]) (by omega) (by rw [List.getElem?_map, hz]; rfl)
  exact ⟨b, o, _, e, hb, hz, hc⟩
theorem info_str : (Tryz.prog.info? 9).map (fun i => (i.zero, i.size, i.bytes)) = some (some (.string ByteArray.empty), 1, 16) := by kernel_rfl
end Go.Proofs.YtkekpolfdmmgeaaGreatDoor

/- append(out, xs...) to rows of the call's own, in the words of the readings. -/
namespace Go.Proofs.YtkekpolfdmmgeaaGreatDoor
set_option linter.unusedVariables false
set_option linter.unusedSimpArgs false
open Go.RowKit

theorem wp_append_S (w : World) {o : Oper} {a : Act} {K : Act → World → Prop} {Q : Exit → Act → World → Prop} (s x : Operand)
    (ho : o.op = .call { callee := .builtin .append, args := #[s, x], argTypes := #[57, 57] })
    (base : Nat) (v : Value) (zs : List ByteArray) (hs : a.eval s = v) (hown : OwnS w base v zs) (u : Value) (ys : List ByteArray) (hx : a.eval x = u) (hr : Strs w u ys)
    (hl : zs.length + ys.length ≤ 16777216) (hbase : base ≤ w.heap.size)
    (h : ∀ v' w', OwnS w' base v' (zs ++ ys) → w.grownBy w' v.ownBlock → K (a.put o.dst v') w') : o.wp Tryz.prog a w K Q := by
  obtain ⟨i0, hi, hz0, hz1, hz2⟩ := info_parts info_str
  refine wp_append_seq w s x 57 ho base 9 i0 _ 1 16 Tryz.underlying57 hi hz0 hz1 hz2 rfl (by omega) v zs.length _ hs hown.1 u ys.length _ hx hr.1 (by simp) ?_ (by unfold maxLen; omega) (by omega) hbase (fun v' w' q1 q2 => h v' w' ?_ q2)
  · intro y hy
    obtain ⟨_, _, rfl⟩ := List.mem_map.1 hy; rfl
  · refine ⟨?_, ?_⟩
    · rw [List.length_append, List.map_append]
      exact q1
    · intro e he
      rcases List.mem_append.1 he with he | he
      · exact hown.2 e he
      · exact hr.2 e he
theorem wpList_append_S (w : World) {ops : Array Oper} {rest : List Oper} {o : Oper} {a : Act} {Q : Exit → Act → World → Prop} (hgd : o.guard = none) (s x : Operand)
    (ho : o.op = .call { callee := .builtin .append, args := #[s, x], argTypes := #[57, 57] })
    (base : Nat) (v : Value) (zs : List ByteArray) (hs : a.eval s = v) (hown : OwnS w base v zs) (u : Value) (ys : List ByteArray) (hx : a.eval x = u) (hr : Strs w u ys)
    (hl : zs.length + ys.length ≤ 16777216) (hbase : base ≤ w.heap.size)
    (h : ∀ v' w', OwnS w' base v' (zs ++ ys) → w.grownBy w' v.ownBlock → wpList Tryz.prog ops Q rest (a.put o.dst v') w') : wpList Tryz.prog ops Q (o :: rest) a w :=
  wpList_plain hgd fun _ hK => wp_append_S w s x ho base v zs hs hown u ys hx hr hl hbase fun v' w' h2 h3 => hK _ _ (h v' w' h2 h3)
theorem step_append_S (w : World) {ops : Array Oper} {o : Oper} {a : Act} {K : Act → World → Prop} {Q : Exit → Act → World → Prop} {E : Prop} (hgd : o.guard = none) (s x : Operand)
    (ho : o.op = .call { callee := .builtin .append, args := #[s, x], argTypes := #[57, 57] })
    (base : Nat) (v : Value) (zs : List ByteArray) (hs : a.eval s = v) (hown : OwnS w base v zs) (u : Value) (ys : List ByteArray) (hx : a.eval x = u) (hr : Strs w u ys)
    (hl : zs.length + ys.length ≤ 16777216) (hbase : base ≤ w.heap.size)
    (h : ∀ v' w', OwnS w' base v' (zs ++ ys) → w.grownBy w' v.ownBlock → K (a.put o.dst v') w') :
    if Region.wanted o (yielded ops a.tmps) = true then Oper.wp Tryz.prog o a w K Q else E := by
  have hw : Region.wanted o (yielded ops a.tmps) = true := by simp [Region.wanted, hgd]
  rw [if_pos hw]
  exact wp_append_S w s x ho base v zs hs hown u ys hx hr hl hbase h
end Go.Proofs.YtkekpolfdmmgeaaGreatDoor

/- Rows of elements of several cells: what copy, clear and the library's Delete and Insert do to a block that is known whole. -/
namespace Go.Proofs.YtkekpolfdmmgeaaGreatDoor
set_option linter.unusedVariables false
set_option linter.unusedSimpArgs false
open Go.RowKit

/-- cells written one after the other -/
def sets : Array Value → Nat → List Value → Array Value
  | cs, _, [] => cs
  | cs, o, v :: r => sets (cs.setIfInBounds o v) (o + 1) r
theorem Box.sets {b : Nat} {t : TypeId} : ∀ (vs : List Value) (o : Nat) (w : World) (cs : Array Value), Box w b t cs → Box (w.setCells b o vs) b t (sets cs o vs)
  | [], _, _, _, h => h
  | v :: r, o, w, cs, h => Box.sets r (o + 1) _ _ (h.set o v)
theorem only_sets (b : Nat) : ∀ (vs : List Value) (o : Nat) (w : World), Only [b] w (w.setCells b o vs)
  | [], _, w => Only.refl _ w
  | v :: r, o, w => (Only.setCell (Only.refl [b] w) (p := ⟨b, o, none⟩) (by simp) v).trans (only_sets b r (o + 1) _)
theorem sets_size : ∀ (vs : List Value) (o : Nat) (cs : Array Value), (sets cs o vs).size = cs.size
  | [], _, _ => rfl
  | v :: r, o, cs => by rw [sets, sets_size r]; simp
theorem sets_toList : ∀ (vs : List Value) (o : Nat) (cs : Array Value), o + vs.length ≤ cs.size → (sets cs o vs).toList = cs.toList.take o ++ vs ++ cs.toList.drop (o + vs.length)
  | [], o, cs, h => by simp [sets]
  | v :: r, o, cs, h => by
    have hlt : o < cs.toList.length := by simp at h ⊢; omega
    rw [sets, sets_toList r (o + 1) _ (by simp at h ⊢; omega)]
    simp only [Array.toList_setIfInBounds]
    rw [List.take_set, List.take_succ_eq_append_getElem hlt, List.set_append_right _ _ (by rw [List.length_take]; omega), List.length_take_of_le (by omega), Nat.sub_self]
    rw [List.drop_set_of_lt (by omega)]
    simp only [List.set_cons_zero, List.append_assoc, List.cons_append, List.nil_append, List.length_cons]
    rw [show o + 1 + r.length = o + (r.length + 1) from by omega]
theorem sets_take {cs : Array Value} {o m : Nat} {vs : List Value} (h : o + vs.length ≤ cs.size) (hm : m ≤ o) : (sets cs o vs).toList.take m = cs.toList.take m := by
  have hl : cs.toList.length = cs.size := by simp
  rw [sets_toList _ _ _ h, List.append_assoc, List.take_append_of_le_length (by rw [List.length_take]; omega), List.take_take, Nat.min_eq_left hm]
theorem sets_full {cs : Array Value} {o m : Nat} {vs : List Value} (h : o + vs.length ≤ cs.size) (hm : m = o + vs.length) : (sets cs o vs).toList.take m = cs.toList.take o ++ vs := by
  have hl : cs.toList.length = cs.size := by simp
  rw [sets_toList _ _ _ h, List.take_left' (by rw [List.length_append, List.length_take]; omega)]
theorem sets_drop {cs : Array Value} {o : Nat} {vs : List Value} (h : o + vs.length ≤ cs.size) : (sets cs o vs).toList.drop o = vs ++ cs.toList.drop (o + vs.length) := by
  have hl : cs.toList.length = cs.size := by simp
  rw [sets_toList _ _ _ h, List.append_assoc, List.drop_left' (by rw [List.length_take]; omega)]
theorem only_drew_sets (b : Nat) (vs : List Value) (o : Nat) (w : World) : Only [b] w (w.drew.setCells b o vs) := (Only.drewN (Only.refl [b] w) 1).trans (only_sets b vs o w.drew)
theorem own_box {w : World} {base : Nat} {e : TypeId} {size n cap g : Nat} {xs : List Value} (h : w.ownsRow base e size (.slice (some ⟨g, 0, none⟩) n cap) n xs) :
    ∃ cur, Box w g e cur ∧ n ≤ cap ∧ cap ≤ maxLen ∧ cur.size = cap * size ∧ cur.toList.take (n * size) = xs := by
  rcases h.2 with ⟨h, _⟩ | ⟨g', cap', cur, e1, _, hb, h1, h2, h3, h4⟩
  · cases h
  · injection e1 with e1 e2 e3
    injection e1 with e1
    injection e1 with e1
    subst e1 e3
    exact ⟨cur, hb, h1, h2, h3, h4⟩
theorem own_of_box {w : World} {base : Nat} {e : TypeId} {size n cap g : Nat} {xs : List Value} {cur : Array Value} (hb : Box w g e cur) (hg : base ≤ g) (h1 : n ≤ cap) (h2 : cap ≤ maxLen) (h3 : cur.size = cap * size) (h4 : cur.toList.take (n * size) = xs) :
    w.ownsRow base e size (.slice (some ⟨g, 0, none⟩) n cap) n xs := by
  refine ⟨?_, .inr ⟨g, cap, cur, rfl, hg, hb, h1, h2, h3, h4⟩⟩
  rw [← h4, List.length_take]
  have : cur.toList.length = cap * size := by simpa using h3
  rw [this, Nat.min_eq_left (Nat.mul_le_mul_right _ h1)]
theorem Box.some {w : World} {b : Nat} {t : TypeId} {cs : Array Value} (h : Box w b t cs) {j : Nat} (hj : j < cs.size) : (w.cell? ⟨b, j, none⟩).isSome = true := by
  rw [h.cell j, Array.getElem?_eq_getElem hj]
  rfl
theorem Box.at_ {w : World} {b : Nat} {t : TypeId} {cs : Array Value} (h : Box w b t cs) {j : Nat} {v : Value} (hj : cs.toList[j]? = Option.some v) : w.cell? ⟨b, j, none⟩ = Option.some v := by
  rw [h.cell j, ← Array.getElem?_toList]
  exact hj
theorem add_lit (b o j : Nat) : (⟨b, o, none⟩ : Addr).add j = ⟨b, o + j, none⟩ := by unfold Addr.add; split <;> simp_all

/-- copy(d, s), elements of several cells -/
theorem run_copyN {P : Program} (w : World) (dT sT ty elem : TypeId) (size : Nat) (b o dLen dCap : Nat) (a : Addr) (sLen sCap m : Nat) (cs : List Value)
    (hu : P.underlying dT = some (.slice elem)) (hs : (P.info? elem).map (·.size) = some size) (hm : Nat.min sLen dLen = m) (hn : cs.length = m * size)
    (hsrc : ∀ j v, cs[j]? = some v → w.cell? (a.add j) = some v) (hc : ∀ j, j < cs.length → (w.cell? ⟨b, o + j, none⟩).isSome = true) (hf : ∀ j, j < cs.length → w.frozen? ⟨b, o + j, none⟩ = false) (h1 : ∀ v ∈ cs, v.oneCell' = true) :
    (Builtin.copy_ #[dT, sT] ty #[.slice (some ⟨b, o, none⟩) dLen dCap, .slice (some a) sLen sCap]).run P w = .ok (goInt m) (w.setCells b o cs) := by
  have hl := run_loadCells_list (P := P) w a cs hsrc
  have hst := run_storeCells_cells (P := P) b o cs 0 w (by simpa using hc) (by simpa using hf) h1
  cases hq : P.info? elem with
  | none => simp [hq] at hs
  | some i =>
    have hi : i.size = size := by simpa [hq] using hs
    simp [Builtin.copy_, run_underlying hu, Builtin.lenOf, Builtin.firstCells, sizeOf, typeInfo, hq, hi, hm, ← hn, hl, hst]
theorem wp_copy_run {P : Program} (w : World) {o : Oper} {a : Act} {K : Act → World → Prop} {Q : Exit → Act → World → Prop} (d s : Operand) (t t' : TypeId)
    (ho : o.op = .call { callee := .builtin .copy, args := #[d, s], argTypes := #[t, t'] }) (v u : Value) (hd : a.eval d = v) (hs : a.eval s = u) {v' : Value} {w' : World}
    (hr : (Builtin.copy_ #[t, t'] o.type #[v, u]).run P w = .ok v' w') (h : K (a.put o.dst v') w') : o.wp P a w K Q := by
  unfold Oper.wp execOp
  simp only [ho, resolve, invoke, builtin, Sem.run_bind, Sem.run_pure, Result.andThen_ok, List.map_toArray, List.map_cons, List.map_nil, hd, hs, hr]
  exact h
theorem wpList_copy_run {P : Program} (w : World) {ops : Array Oper} {rest : List Oper} {o : Oper} {a : Act} {Q : Exit → Act → World → Prop} (hgd : o.guard = none) (d s : Operand) (t t' : TypeId)
    (ho : o.op = .call { callee := .builtin .copy, args := #[d, s], argTypes := #[t, t'] }) (v u : Value) (hd : a.eval d = v) (hs : a.eval s = u) {v' : Value} {w' : World}
    (hr : (Builtin.copy_ #[t, t'] o.type #[v, u]).run P w = .ok v' w') (h : wpList P ops Q rest (a.put o.dst v') w') : wpList P ops Q (o :: rest) a w :=
  wpList_plain hgd fun _ hK => wp_copy_run w d s t t' ho v u hd hs hr (hK _ _ h)
theorem step_copy_run {P : Program} {ops : Array Oper} {o : Oper} {a : Act} {w : World} {K : Act → World → Prop} {Q : Exit → Act → World → Prop} {E : Prop}
    (hg : o.guard = none) (d x : Operand) (dT sT : TypeId) (hop : o.op = Op.call { callee := Callee.builtin Builtin.copy, args := #[d, x], argTypes := #[dT, sT] })
    (v u : Value) (hd : a.eval d = v) (hx : a.eval x = u) {v' : Value} {w' : World} (hr : (Builtin.copy_ #[dT, sT] o.type #[v, u]).run P w = .ok v' w') (hK : K (a.put o.dst v') w') :
    if Region.wanted o (yielded ops a.tmps) = true then Oper.wp P o a w K Q else E := by
  have hw : Region.wanted o (yielded ops a.tmps) = true := by simp [Region.wanted, hg]
  rw [if_pos hw]
  exact wp_copy_run w d x dT sT hop v u hd hx hr hK
/-- clear(s), one element of several cells -/
theorem run_clear1 {P : Program} (w : World) (t e ty : TypeId) (z : Value) (ht : P.underlying t = some (.slice e)) (hv : ∀ w, (zeroValue e).run P w = .ok z w) (b o c : Nat) (hz : (Builtin.zeroCells z.cells 1).toList = z.cells.toList) (h1 : ∀ v ∈ z.cells.toList, v.oneCell' = true)
    (hc : ∀ j, j < z.cells.toList.length → (w.cell? ⟨b, o + j, none⟩).isSome = true) (hf : ∀ j, j < z.cells.toList.length → w.frozen? ⟨b, o + j, none⟩ = false) :
    (Builtin.clear_ #[t] ty #[.slice (some ⟨b, o, none⟩) 1 c]).run P w = .ok (.tuple #[]) (w.setCells b o z.cells.toList) := by
  have hst := run_storeCells_cells (P := P) b o z.cells.toList 0 w (by simpa using hc) (by simpa using hf) h1
  simp only [Nat.add_zero] at hst
  simp [Builtin.clear_, run_underlying ht, hv, hz, hst]
end Go.Proofs.YtkekpolfdmmgeaaGreatDoor

/- Rows of numbers and of strings: the words for 'append(append(append([]T{}, l[:k]...), x), l[k:]...)'. -/
namespace Go.Proofs.YtkekpolfdmmgeaaGreatDoor
set_option linter.unusedVariables false
set_option linter.unusedSimpArgs false
open Go.RowKit

theorem seq_to {w : World} {A : Option Addr} {n c : Nat} {xs : List Value} (h : Seq w (.slice A n c) n xs) {i : Nat} (hi : i ≤ n) : Seq w (.slice A i c) i (xs.take i) := by
  obtain ⟨A', c', e, h1, h2, h3, h4⟩ := h
  injection e with e1 e2 e3
  subst e1 e3
  refine ⟨A, c, rfl, by omega, h2, h3, fun hp => ?_⟩
  obtain ⟨b, o, e1, hb, hc⟩ := h4 (by omega)
  refine ⟨b, o, e1, hb, fun j u hu => hc j u ?_⟩
  rw [List.getElem?_take] at hu
  split at hu
  · exact hu
  · cases hu
theorem seq_from {w : World} {b o n c : Nat} {xs : List Value} (h : Seq w (.slice (some ⟨b, o, none⟩) n c) n xs) {k : Nat} (hk : k ≤ n) : Seq w (.slice (some ⟨b, o + k, none⟩) (n - k) (c - k)) (n - k) (xs.drop k) := by
  obtain ⟨A', c', e, h1, h2, h3, h4⟩ := h
  injection e with e1 e2 e3
  subst e1 e3
  refine ⟨_, c - k, rfl, by omega, by unfold maxLen at *; omega, (fun h => by cases h), fun hp => ?_⟩
  obtain ⟨b', o', e1, hb, hc⟩ := h4 (by omega)
  injection e1 with e1
  injection e1 with e1 e2
  subst e1 e2
  refine ⟨b, o + k, rfl, hb, fun j u hu => ?_⟩
  rw [List.getElem?_drop] at hu
  rw [Nat.add_assoc]
  exact hc _ u hu
theorem seq_none {w : World} {A : Option Addr} {xs : List Value} {k : Nat} (hk : xs.length ≤ k) : Seq w (.slice A 0 0) 0 (xs.drop k) := by
  rw [List.drop_of_length_le hk]
  exact ⟨A, 0, rfl, Nat.le_refl _, Nat.zero_le _, fun _ => rfl, fun h => absurd h (by simp)⟩
theorem seq_one {w : World} {g : Nat} {t : TypeId} {u : Value} (h : Box w g t #[u]) : Seq w (.slice (some ⟨g, 0, none⟩) 1 1) 1 [u] := by
  refine ⟨_, 1, rfl, Nat.le_refl _, by unfold maxLen; omega, (fun h => by cases h), fun _ => ⟨g, 0, rfl, h.lt, fun j v hv => ?_⟩⟩
  cases j with
  | zero =>
    have e : v = u := by simpa using hv.symm
    subst e
    exact h.cell 0
  | succ j => simp at hv
theorem ints_to {w : World} {A : Option Addr} {n c : Nat} {zs : List Int} (h : Ints w (.slice A n c) zs) (hn : zs.length = n) {i : Nat} (hi : i ≤ n) : Ints w (.slice A i c) (zs.take i) := by
  unfold Ints
  rw [List.length_take, hn, Nat.min_eq_left hi, List.map_take]
  unfold Ints at h
  rw [hn] at h
  exact seq_to h hi
theorem ints_from {w : World} {b o n c : Nat} {zs : List Int} (h : Ints w (.slice (some ⟨b, o, none⟩) n c) zs) (hn : zs.length = n) {k : Nat} (hk : k ≤ n) : Ints w (.slice (some ⟨b, o + k, none⟩) (n - k) (c - k)) (zs.drop k) := by
  unfold Ints
  rw [List.length_drop, hn, List.map_drop]
  unfold Ints at h
  rw [hn] at h
  exact seq_from h hk
theorem ints_none {w : World} {A : Option Addr} {zs : List Int} {k : Nat} (hk : zs.length ≤ k) : Ints w (.slice A 0 0) (zs.drop k) := by
  unfold Ints
  rw [List.length_drop, Nat.sub_eq_zero_of_le hk, List.map_drop]
  exact seq_none (by simpa using hk)
theorem ints_box1 {w : World} {g : Nat} {z : Int} (h : Box w g 3 #[.int .i64 z]) : Ints w (.slice (some ⟨g, 0, none⟩) 1 1) [z] := seq_one h
theorem step_put_I (a0 w : World) {ops : Array Oper} {o : Oper} {a : Act} {K : Act → World → Prop} {Q : Exit → Act → World → Prop} {E : Prop} (hgd : o.guard = none) (s x : Operand)
    (ho : o.op = .call { callee := .builtin .append, args := #[s, x], argTypes := #[24, 24] })
    (v : Value) (zs : List Int) (hs : a.eval s = v) (hown : OwnI w a0.heap.size v zs) (hk : Kept a0 w) (u : Value) (ys : List Int) (hx : a.eval x = u) (hr : Ints w u ys)
    (hl : zs.length + ys.length ≤ 16777216)
    (h : ∀ v' w', OwnI w' a0.heap.size v' (zs ++ ys) → Kept a0 w' → Only (fp v) w w' → K (a.put o.dst v') w') :
    if Region.wanted o (yielded ops a.tmps) = true then Oper.wp Tryz.prog o a w K Q else E :=
  step_append_I w hgd s x ho a0.heap.size v zs hs hown u ys hx hr hl hk.size fun v' w' h2 h3 =>
    h v' w' h2 ((only_of_grown h3).above hk (fun b hb => (own_fp hown b hb).1)) (only_of_grown h3)
theorem own0_I {w : World} {base g : Nat} (hg : base ≤ g) (h : Box w g 3 #[]) : OwnI w base (.slice (some ⟨g, 0, none⟩) 0 0) [] := own_made _ _ _ hg h
theorem strs_to {w : World} {A : Option Addr} {n c : Nat} {zs : List ByteArray} (h : Strs w (.slice A n c) zs) (hn : zs.length = n) {i : Nat} (hi : i ≤ n) : Strs w (.slice A i c) (zs.take i) := by
  refine ⟨?_, fun z hz => h.2 z (List.mem_of_mem_take hz)⟩
  rw [List.length_take, hn, Nat.min_eq_left hi, List.map_take]
  have h1 := h.1
  rw [hn] at h1
  exact seq_to h1 hi
theorem strs_from {w : World} {b o n c : Nat} {zs : List ByteArray} (h : Strs w (.slice (some ⟨b, o, none⟩) n c) zs) (hn : zs.length = n) {k : Nat} (hk : k ≤ n) : Strs w (.slice (some ⟨b, o + k, none⟩) (n - k) (c - k)) (zs.drop k) := by
  refine ⟨?_, fun z hz => h.2 z (List.mem_of_mem_drop hz)⟩
  rw [List.length_drop, hn, List.map_drop]
  have h1 := h.1
  rw [hn] at h1
  exact seq_from h1 hk
theorem strs_none {w : World} {A : Option Addr} {zs : List ByteArray} {k : Nat} (hk : zs.length ≤ k) : Strs w (.slice A 0 0) (zs.drop k) := by
  refine ⟨?_, fun z hz => by rw [List.drop_of_length_le hk] at hz; cases hz⟩
  rw [List.length_drop, Nat.sub_eq_zero_of_le hk, List.map_drop]
  exact seq_none (by simpa using hk)
theorem strs_box1 {w : World} {g : Nat} {z : ByteArray} (h : Box w g 9 #[.string z]) (hz : z.size ≤ maxLen) : Strs w (.slice (some ⟨g, 0, none⟩) 1 1) [z] := ⟨seq_one h, fun y hy => by rw [List.mem_singleton] at hy; subst hy; exact hz⟩
theorem step_put_S (a0 w : World) {ops : Array Oper} {o : Oper} {a : Act} {K : Act → World → Prop} {Q : Exit → Act → World → Prop} {E : Prop} (hgd : o.guard = none) (s x : Operand)
    (ho : o.op = .call { callee := .builtin .append, args := #[s, x], argTypes := #[57, 57] })
    (v : Value) (zs : List ByteArray) (hs : a.eval s = v) (hown : OwnS w a0.heap.size v zs) (hk : Kept a0 w) (u : Value) (ys : List ByteArray) (hx : a.eval x = u) (hr : Strs w u ys)
    (hl : zs.length + ys.length ≤ 16777216)
    (h : ∀ v' w', OwnS w' a0.heap.size v' (zs ++ ys) → Kept a0 w' → Only (fp v) w w' → K (a.put o.dst v') w') :
    if Region.wanted o (yielded ops a.tmps) = true then Oper.wp Tryz.prog o a w K Q else E :=
  step_append_S w hgd s x ho a0.heap.size v zs hs hown u ys hx hr hl hk.size fun v' w' h2 h3 =>
    h v' w' h2 ((only_of_grown h3).above hk (fun b hb => (own_fp hown.1 b hb).1)) (only_of_grown h3)
theorem own0_S {w : World} {base g : Nat} (hg : base ≤ g) (h : Box w g 9 #[]) : OwnS w base (.slice (some ⟨g, 0, none⟩) 0 0) [] := ⟨own_made _ _ _ hg h, fun _ h => by cases h⟩
end Go.Proofs.YtkekpolfdmmgeaaGreatDoor
