/- Contracts of functions that the proof leans on. No condition. -/
import Derived.Test.YtmlfegfplepehaaDoorMabdab307b3
import Derived.Deep.RegionHeld3
import Derived.Deep.DeepCutAuto
import Derived.Test.YtmlfegfplepehaaDoorRows
import Derived.WalkKit
import Derived.ProofKit
import Derived.OpenShut
import Derived.ShutString
import Derived.ChangeOld
import Derived.Below
import Derived.LaidMore
import Derived.Lay
import Derived.MakeChecks
import Derived.Stop.LaidErr
import Derived.Shelf.Vars
import Derived.Lib.LaidTab
import Derived.OpenVars
import Derived.Sort.Walk0
import Derived.Lib.SlicesCompact
import Derived.Lib.Strings
import Derived.Sort.Grow
import Derived.Deep.AppendLies
import Derived.Shelf.Sort.Plain
import Derived.Shelf.Slices.CompactS
import Derived.Test.YtmlfegfplepehaaDoorShelf
/- Items: the text of an item, both sides. -/
namespace Go.Proofs.YtmlfegfplepehaaDoor
set_option linter.unusedVariables false
set_option linter.unusedSimpArgs false
set_option linter.unnecessarySimpa false
open Go.RowKit Go.Lib

def itT (it : ItemD) : ByteArray := tx (itTxt it)
def sgB (m : Nat) : ByteArray := tx (signL (m : Int))
theorem sgB_size (m : Nat) : (sgB m).size ≤ 1 := by
  unfold sgB
  rw [tx_size]
  unfold signL
  split
  · simp
  · split
    · simp
    · split <;> simp
theorem itW_length {it : ItemD} (h : it.marks.length = it.names.length) : (itW it).length = it.names.length := by
  unfold itW
  rw [List.length_map, List.length_zip]
  omega
theorem itW_get {it : ItemD} {k : Nat} {s : ByteArray} {m : Nat} (h1 : it.names[k]? = some s) (h2 : it.marks[k]? = some (m : Int)) : (itW it)[k]? = some (s.data.toList ++ signL (m : Int)) := by
  unfold itW
  rw [List.getElem?_map, (List.getElem?_zip_eq_some (z := (s, (m : Int)))).2 ⟨h1, h2⟩]
  rfl
/-- The text of the first k words. -/
def jW (it : ItemD) (k : Nat) : ByteArray := tx (join ((itW it).take k) [43])
theorem jW_zero (it : ItemD) : jW it 0 = ⟨#[]⟩ := rfl
theorem jW_one {it : ItemD} {s : ByteArray} {m : Nat} (h1 : it.names[0]? = some s) (h2 : it.marks[0]? = some (m : Int)) : jW it 1 = s ++ sgB m := by
  unfold jW
  rw [take_snoc (itW_get h1 h2), List.take_zero, List.nil_append, join_one, ← tx_app, tx_of]
  rfl
theorem jW_succ {it : ItemD} {k : Nat} {s : ByteArray} {m : Nat} (hk : 0 < k) (h1 : it.names[k]? = some s) (h2 : it.marks[k]? = some (m : Int)) : jW it (k + 1) = jW it k ++ ⟨#[43]⟩ ++ (s ++ sgB m) := by
  have hg := itW_get h1 h2
  have hne : (itW it).take k ≠ [] := by
    intro e
    have h0 := congrArg List.length e
    have hlt := (List.getElem?_eq_some_iff.1 hg).1
    rw [List.length_take, List.length_nil] at h0
    omega
  unfold jW
  rw [take_snoc hg, join_snoc _ _ _ hne]
  show tx (_ ++ [43] ++ _) = tx _ ++ tx [43] ++ (s ++ sgB m)
  rw [tx_app]
  rw [← tx_app]
  congr 1
theorem word_size {it : ItemD} (hb : itemB it = true) {k : Nat} {s : ByteArray} (h : it.names[k]? = some s) : s.size ≤ 5 := by
  have hn := (item_of hb).1 s (List.mem_of_getElem? h)
  unfold nameB at hn
  simp only [Bool.and_eq_true] at hn
  have := inB_true hn.2
  omega
theorem jW_size {it : ItemD} (hb : itemB it = true) : ∀ k, k ≤ it.names.length → (jW it k).size ≤ 7 * k
  | 0, _ => by rw [jW_zero]; exact Nat.le_refl 0
  | k + 1, hk => by
    obtain ⟨_, hm, hl, _, _⟩ := item_of hb
    have h1 : it.names[k]? = some it.names[k] := List.getElem?_eq_getElem (by omega)
    have h2 : it.marks[k]? = some it.marks[k] := List.getElem?_eq_getElem (by omega)
    have hmm := hm _ (List.mem_of_getElem? h2)
    obtain ⟨m, e⟩ : ∃ m : Nat, it.marks[k] = (m : Int) := by
      rcases sign_of hmm with e | e | e | e
      · exact ⟨0, e⟩
      · exact ⟨1, e⟩
      · exact ⟨2, e⟩
      · exact ⟨3, e⟩
    rw [e] at h2
    have ih := jW_size hb k (by omega)
    have hs := word_size hb h1
    have hg := sgB_size m
    rcases Nat.eq_zero_or_pos k with h0 | h0
    · subst h0
      rw [jW_one h1 h2, ByteArray.size_append]
      omega
    · rw [jW_succ h0 h1 h2, ByteArray.size_append, ByteArray.size_append, ByteArray.size_append]
      have e1 : (⟨#[43]⟩ : ByteArray).size = 1 := rfl
      omega
theorem itT_of {it : ItemD} (hb : itemB it = true) : itT it = if it.late then jW it it.names.length ++ ⟨#[32, 120]⟩ else jW it it.names.length := by
  have hl := (item_of hb).2.2.1
  have e : (itW it).take it.names.length = itW it := List.take_of_length_le (by rw [itW_length hl]; exact Nat.le_refl _)
  unfold itT itTxt jW lateL
  rw [e]
  cases it.late with
  | true =>
    show tx (_ ++ [32, 120]) = tx _ ++ tx [32, 120]
    rw [tx_app]
  | false =>
    show tx (_ ++ []) = _
    rw [List.append_nil]
    rfl
theorem itT_size {it : ItemD} (hb : itemB it = true) : (itT it).size ≤ 23 := by
  have h1 := jW_size hb it.names.length (Nat.le_refl _)
  have h2 := (item_of hb).2.2.2.2
  rw [itT_of hb]
  cases it.late with
  | true =>
    show (_ ++ _ : ByteArray).size ≤ 23
    rw [ByteArray.size_append]
    have e : (⟨#[32, 120]⟩ : ByteArray).size = 2 := rfl
    omega
  | false => show (jW it it.names.length).size ≤ 23; omega
theorem mark_nat {it : ItemD} (hb : itemB it = true) {k : Nat} {z : Int} (h : it.marks[k]? = some z) : ∃ m : Nat, z = (m : Int) ∧ m ≤ 3 := by
  have := sign_of ((item_of hb).2.1 z (List.mem_of_getElem? h))
  rcases this with rfl | rfl | rfl | rfl
  · exact ⟨0, rfl, by omega⟩
  · exact ⟨1, rfl, by omega⟩
  · exact ⟨2, rfl, by omega⟩
  · exact ⟨3, rfl, by omega⟩
def sgCells : Array Value := #[.string ⟨#[]⟩, .string ⟨#[60]⟩, .string ⟨#[101]⟩, .string ⟨#[42]⟩]
theorem sgCells_at {m : Nat} (h : m ≤ 3) : sgCells.toList[m]? = some (.string (sgB m)) := by
  have hm : m = 0 ∨ m = 1 ∨ m = 2 ∨ m = 3 := by omega
  rcases hm with rfl | rfl | rfl | rfl <;> rfl
theorem itSigns_any (w : World) :
    Calls Tryd.prog 100 #[] w fun e w' => e = .returned (.slice (some ⟨w.heap.size, 0, none⟩) 4 4) ∧ Box w' w.heap.size 9 sgCells ∧ Kept w w' := by
  go_enter Tryd.func100, Tryd.ntmps100
  go_wp2_with fail
  go_ret
  exact ⟨rfl, Box.new w _ _ _ rfl, (Kept.refl w).alloc _⟩
set_option maxRecDepth 100000 in
set_option maxHeartbeats 8000000 in
theorem itText_any (v : Value) (it : ItemD) (w : World) (h : ItemAt w v it) (hb : itemB it = true) :
    Calls Tryd.prog 52 #[v] w fun e w' => e = .returned (.string (itT it)) ∧ Kept w w' := by
  obtain ⟨nv, mv, rfl, q1, q2⟩ := h
  obtain ⟨A1, c1, rfl, hnc1, hcm1, _⟩ := q1.1.out
  obtain ⟨A2, c2, rfl, hnc2, hcm2, _⟩ := q2.out
  unfold maxLen at hcm1 hcm2
  have H1 := Lib.hid q1
  have H2 := Lib.hid q2
  have HB := Lib.hid hb
  obtain ⟨_, _, hml, hne, hn3⟩ := item_of hb
  have HML := Lib.hid hml
  have hn1 : 0 < it.names.length := by cases hq : it.names with | nil => exact absurd hq hne | cons _ _ => simp
  clear q1 q2 hb hml hne
  go_enter Tryd.func52, Tryd.ntmps52
  have B0 := Box.new w w.heap.size 31 #[.slice A1 it.names.length c1, .slice A2 it.marks.length c2, .bool it.late] rfl
  have K0 : Kept w (w.alloc (.cells #[.slice A1 it.names.length c1, .slice A2 it.marks.length c2, .bool it.late] 31)) := (Kept.refl w).alloc _
  go_wp2_with fail
  generalize w.alloc (.cells #[.slice A1 it.names.length c1, .slice A2 it.marks.length c2, .bool it.late] 31) = w0 at *
  go_loopw [3, 9] (fun s3 s9 wr => ∃ k : Nat, k ≤ it.names.length ∧ s9 = .int .i64 k ∧ s3 = .string (jW it k) ∧ Kept w0 wr) (fun _ i _ => it.names.length - (RowKit.intOf i).toNat)
  case atStart => exact ⟨0, Nat.zero_le _, rfl, by rw [jW_zero], Kept.refl _⟩
  case round =>
    obtain ⟨k, hk, rfl, rfl, hkept⟩ := hrel
    by_cases hlt : k < it.names.length
    · obtain ⟨b, o, s, rfl, hbb, hs, hc⟩ := strs_at (H1.out.1.addr.kept (K0.trans hkept)) hlt
      obtain ⟨b2, o2, z, rfl, hb2, hz, hc2⟩ := ints_at (H2.out.addr.kept (K0.trans hkept)) (k := k) (by rw [HML.out]; exact hlt)
      obtain ⟨m, rfl, hm3⟩ := mark_nat HB.out hz
      have hmk : (k : Int) < (it.marks.length : Int) := by rw [HML.out]; omega
      have hmk2 : k < it.marks.length := by rw [HML.out]; exact hlt
      have hm4 : (m : Int) < 4 := by omega
      have hs5 := word_size HB.out hs
      have hsg := sgB_size m
      have hj := jW_size HB.out k hk
      have hBk := B0.kept hkept
      obtain ⟨x0, y0⟩ := hBk.three
      have AW := Lib.hid (cat_run (x := s) (y := sgB m) rfl (by omega))
      have HS := Lib.hid hs
      have HZ := Lib.hid hz
      clear hs hz
      by_cases hk0 : k = 0
      · have hd : decide ((0 : Int) < (k : Int)) = false := by simp; omega
        have hd2 : decide (0 < k) = false := by simp; omega
        have AJ : Hid (Op.stringOp .add (jW it k) (s ++ sgB m) = pure (.string (jW it (k + 1)))) := Lib.hid (by
          subst hk0
          refine cat_run ?_ (by rw [ByteArray.size_append]; omega)
          rw [jW_one HS.out HZ.out, jW_zero]
          show tx [] ++ _ = _
          rw [← tx_of (s ++ sgB m), tx_app]
          rfl)
        clear hk0
        have aw := AW.out
        have aj := AJ.out
        go_wp2_with fail
        clear hd hd2
        go_region_with (go_at_call 100; (with_reducible refine (itSigns_any _).mono ?_); rintro e w1 ⟨rfl, b1, k1⟩; have kk := hkept.trans ((Kept.refl _).drew.trans k1); obtain ⟨x1, y1⟩ := (B0.kept kk).three; have hc3 := (((Kept.refl _).drew.trans k1).cell (p := ⟨b2, o2 + k, none⟩) hb2).trans hc2; have hc4 : w1.cell? ⟨wr.heap.size, m, none⟩ = some (.string (sgB m)) := b1.at_ (sgCells_at hm3); clear y1 b1)
        all_goals
          go_wp2_with fail
          go_roundw
          case rel => exact ⟨k + 1, by omega, by go_num, rfl, kk⟩
          case measure => simp [RowKit.intOf]; omega
      · have hd : (0 : Int) < (k : Int) := by omega
        have hd2 : 0 < k := by omega
        have AP := Lib.hid (cat_run (x := jW it k) (y := ⟨#[43]⟩) rfl (by have e : (⟨#[43]⟩ : ByteArray).size = 1 := rfl; omega))
        have AJ : Hid (Op.stringOp .add (jW it k ++ ⟨#[43]⟩) (s ++ sgB m) = pure (.string (jW it (k + 1)))) := Lib.hid (cat_run (jW_succ hd2 HS.out HZ.out).symm (by rw [ByteArray.size_append, ByteArray.size_append]; have e : (⟨#[43]⟩ : ByteArray).size = 1 := rfl; omega))
        clear hk0
        have ap := AP.out
        go_wp2_with fail
        clear ap
        have aw := AW.out
        have aj := AJ.out
        go_region_with (go_at_call 100; (with_reducible refine (itSigns_any _).mono ?_); rintro e w1 ⟨rfl, b1, k1⟩; have kk := hkept.trans ((Kept.refl _).drew.trans k1); obtain ⟨x1, y1⟩ := (B0.kept kk).three; have hc3 := (((Kept.refl _).drew.trans k1).cell (p := ⟨b2, o2 + k, none⟩) hb2).trans hc2; have hc4 : w1.cell? ⟨wr.heap.size, m, none⟩ = some (.string (sgB m)) := b1.at_ (sgCells_at hm3); clear y1 b1)
        all_goals
          go_wp2_with fail
          go_roundw
          case rel => exact ⟨k + 1, by omega, by go_num, rfl, kk⟩
          case measure => simp [RowKit.intOf]; omega
    · obtain rfl : k = it.names.length := by omega
      have hBk := B0.kept hkept
      obtain ⟨x0, y0⟩ := hBk.three
      have HT := Lib.hid (itT_of HB.out)
      have hj := jW_size HB.out it.names.length (Nat.le_refl _)
      have AL := Lib.hid (cat_run (x := jW it it.names.length) (y := ⟨#[32, 120]⟩) rfl (by have e : (⟨#[32, 120]⟩ : ByteArray).size = 2 := rfl; omega))
      have al := AL.out
      cases hla : it.late with
      | true =>
        rw [hla] at x0
        have HLA := Lib.hid hla
        clear hla
        go_wp2_with fail
        go_ret
        exact ⟨ret_str (by rw [HT.out, HLA.out]; rfl), K0.trans hkept⟩
      | false =>
        rw [hla] at x0
        have HLA := Lib.hid hla
        clear hla
        go_wp2_with fail
        go_ret
        exact ⟨ret_str (by rw [HT.out, HLA.out]; rfl), K0.trans hkept⟩
end Go.Proofs.YtmlfegfplepehaaDoor

/- Points: PointsText, both sides and the law. -/
namespace Go.Proofs.YtmlfegfplepehaaDoor
set_option linter.unusedVariables false
set_option linter.unusedSimpArgs false
set_option linter.unnecessarySimpa false
open Go.RowKit Go.Lib

theorem kept_grow (w : World) (k : Nat) (os : Array Obj) : Kept w (Go.Sort.grow (w.drewN k) os) :=
  ⟨rfl, rfl, rfl, by simp [Go.Sort.grow, World.drewN], fun i hi => by
    show (w.heap ++ os)[i]? = w.heap[i]?
    rw [Array.getElem?_append, if_pos hi]⟩
/-- the library's table of powers of ten reads as its initialiser lays it -/
def HasTab (w : World) : Prop := TabIs Tryd.prog w "internal/strconv.uint64pow10" .u64 pow10Tab ∧ 2 < w.heap.size
theorem HasTab.kept {w w' : World} (h : HasTab w) (k : Kept w w') : HasTab w' := by
  refine ⟨?_, Nat.lt_of_lt_of_le h.2 k.size⟩
  have hg : Tryd.prog.globalNamed "internal/strconv.uint64pow10" = some 2 := by kernel_rfl
  have h1 := h.1
  unfold TabIs World.var? at h1 ⊢
  rw [hg] at h1 ⊢
  simp only [Option.bind_eq_bind, Option.bind_some] at h1 ⊢
  rw [k.block _ h.2]
  exact h1
theorem itoa_nat (n : Nat) : itoa (n : Int) = decDigits n := by
  unfold itoa
  rw [if_neg (by omega)]
  simp
theorem itoa_any (n : Nat) (w : World) (h : HasTab w) (hn : n ≤ 1000000000000) :
    Calls Tryd.prog 97 #[.int .i64 (n : Int)] w fun e w' => e = .returned (.string (numT n)) ∧ Kept w w' := by
  refine (Tryd.strconv_Itoa (n : Int) (by omega) (by omega) w h.1).mono ?_
  rintro e w' ⟨rfl, k, os, rfl⟩
  exact ⟨by rw [itoa_nat]; rfl, kept_grow w k os⟩
def ptT (n : Int) : ByteArray := tx (ptxt n)
theorem ptT_nat {n : Int} {u : Nat} (hn : n = u) : ptT n = numT (u / 100) ++ ⟨#[46]⟩ ++ numT (u / 10 % 10) ++ numT (u % 10) := by
  subst hn
  unfold ptT ptxt
  rw [if_neg (by omega), Int.toNat_natCast]
  unfold ptN numT
  show _ = tx _ ++ tx [46] ++ tx _ ++ tx _
  rw [tx_app, tx_app, tx_app]
  simp
theorem ptT_neg {n : Int} {u : Nat} (hn : n = -(u : Int)) (hu : 0 < u) : ptT n = ⟨#[45]⟩ ++ ptT u := by
  unfold ptT ptxt
  rw [if_pos (by omega), if_neg (by omega), Int.toNat_natCast]
  show _ = tx [45] ++ tx _
  rw [tx_app, show n.natAbs = u by omega]
  rfl
theorem numT_one {n : Nat} (h : n < 10) : (numT n).size = 1 := by rw [numT_small h]; rfl
set_option maxHeartbeats 2000000 in
theorem poText_nat (u : Nat) (hu : u ≤ 1000000) (w : World) :
    Calls Tryd.prog 46 #[.int .i64 (u : Int)] w fun e w' => e = .returned (.string (ptT u)) ∧ Kept w w' := by
  have e1 : ((u / 100 : Nat) : Int) = (u : Int) / 100 := by omega
  have e2 : ((u / 10 % 10 : Nat) : Int) = (u : Int) / 10 % 10 := by omega
  have e3 : ((u % 10 : Nat) : Int) = (u : Int) % 10 := by omega
  have c1 := l1Num_any (u / 100) (by omega)
  have c2 := l1Num_any (u / 10 % 10) (by omega)
  have c3 := l1Num_any (u % 10) (by omega)
  rw [e1] at c1
  rw [e2] at c2
  rw [e3] at c3
  have C1 := Lib.hid c1
  have C2 := Lib.hid c2
  have C3 := Lib.hid c3
  have s1 := numT_len (n := u / 100) (by omega)
  have s2 : (numT (u / 10 % 10)).size = 1 := numT_one (by omega)
  have s3 : (numT (u % 10)).size = 1 := numT_one (by omega)
  have s4 : (⟨#[46]⟩ : ByteArray).size = 1 := rfl
  have HT := Lib.hid (ptT_nat (n := (u : Int)) (u := u) rfl)
  have a1 : Op.stringOp .add (numT (u / 100)) ⟨#[46]⟩ = pure (.string (numT (u / 100) ++ ⟨#[46]⟩)) := cat_run rfl (by omega)
  have a2 : Op.stringOp .add (numT (u / 100) ++ ⟨#[46]⟩) (numT (u / 10 % 10)) = pure (.string (numT (u / 100) ++ ⟨#[46]⟩ ++ numT (u / 10 % 10))) := cat_run rfl (by rw [ByteArray.size_append]; omega)
  have a3 : Op.stringOp .add (numT (u / 100) ++ ⟨#[46]⟩ ++ numT (u / 10 % 10)) (numT (u % 10)) = pure (.string (ptT u)) := cat_run HT.out.symm (by rw [ByteArray.size_append, ByteArray.size_append]; omega)
  have A1 := Lib.hid a1
  have A2 := Lib.hid a2
  have A3 := Lib.hid a3
  clear c1 c2 c3 e1 e2 e3 s1 s2 s3 s4 a1 a2 a3
  go_enter Tryd.func46, Tryd.ntmps46
  go_wp2_with fail
  refine (C1.out _).mono ?_
  rintro e w1 ⟨rfl, k1⟩
  have a1 := A1.out
  go_wp2_with fail
  refine (C2.out _).mono ?_
  rintro e w2 ⟨rfl, k2⟩
  have a2 := A2.out
  clear a1
  go_wp2_with fail
  refine (C3.out _).mono ?_
  rintro e w3 ⟨rfl, k3⟩
  have a3 := A3.out
  clear a2
  go_wp2_with fail
  go_ret
  exact ⟨rfl, (k1.trans k2).trans k3⟩
set_option maxHeartbeats 2000000 in
theorem poText_any (n : Int) (hn : -1000000 ≤ n ∧ n ≤ 1000000) (w : World) :
    Calls Tryd.prog 46 #[.int .i64 n] w fun e w' => e = .returned (.string (ptT n)) ∧ Kept w w' := by
  obtain ⟨h0, h1⟩ := hn
  by_cases hneg : n < 0
  · obtain ⟨u, rfl⟩ : ∃ u : Nat, n = -(u : Int) := ⟨n.natAbs, by omega⟩
    have hu : 0 < u := by omega
    have C1 := Lib.hid (poText_nat u (by omega))
    have hs : (⟨#[45]⟩ : ByteArray).size + (ptT u).size ≤ 1099511627776 := by
      have e := ptT_nat (n := (u : Int)) (u := u) rfl
      rw [e]
      have s1 := numT_len (n := u / 100) (by omega)
      have s2 : (numT (u / 10 % 10)).size = 1 := numT_one (by omega)
      have s3 : (numT (u % 10)).size = 1 := numT_one (by omega)
      have s4 : (⟨#[46]⟩ : ByteArray).size = 1 := rfl
      have s5 : (⟨#[45]⟩ : ByteArray).size = 1 := rfl
      rw [ByteArray.size_append, ByteArray.size_append, ByteArray.size_append]
      omega
    have A1 := Lib.hid (cat_run (ptT_neg (n := -(u : Int)) rfl hu).symm hs)
    clear hs
    have hw : IntKind.i64.wrap (u : Int) = (u : Int) := IntWalk.i64_in _ (by omega)
    go_enter Tryd.func46, Tryd.ntmps46
    go_wp2_with fail
    refine (C1.out _).mono ?_
    rintro e w1 ⟨rfl, k1⟩
    have a1 := A1.out
    go_wp2_with fail
    go_ret
    exact ⟨rfl, k1⟩
  · obtain ⟨u, rfl⟩ : ∃ u : Nat, n = (u : Int) := ⟨n.toNat, by omega⟩
    exact poText_nat u (by omega) w
def ptV (n : Int) : ByteArray := if inB n (-1000000) 1000000 then ptT n else ⟨#[]⟩
theorem ptV_yes {n : Int} (h : inB n (-1000000) 1000000 = true) : ptV n = ptT n := by unfold ptV; rw [h]; rfl
theorem ptV_no {n : Int} (h : inB n (-1000000) 1000000 = false) : ptV n = ⟨#[]⟩ := by unfold ptV; rw [h]; rfl
theorem ret_sb {a a' : ByteArray} {b b' : Bool} (h : a = a') (h2 : b = b') : Ending.returned (.tuple #[.string a, .bool b]) = .returned (.tuple #[.string a', .bool b']) := by rw [h, h2]
set_option maxHeartbeats 1000000 in
theorem specPointsText_any (n : Int) (w : World) :
    Calls Tryd.prog 12 #[.int .i64 n] w fun e w' => e = .returned (.tuple #[.string (ptV n), .bool (inB n (-1000000) 1000000)]) ∧ Kept w w' := by
  by_cases hb : inB n (-1000000) 1000000 = true
  · have HB := Lib.hid hb
    have hn := inB_true hb
    clear hb
    go_enter Tryd.func12, Tryd.ntmps12
    go_wp2_with fail
    refine (poGood_any n _).mono ?_
    rintro e w' ⟨rfl, rfl⟩
    rw [HB.out]
    go_wp2_with fail
    refine (poText_any n hn _).mono ?_
    rintro e w1 ⟨rfl, k1⟩
    go_wp2_with fail
    go_ret2
    exact ⟨ret_sb (ptV_yes HB.out).symm HB.out.symm, k1⟩
  · simp only [Bool.not_eq_true] at hb
    have HB := Lib.hid hb
    clear hb
    go_enter Tryd.func12, Tryd.ntmps12
    go_wp2_with fail
    refine (poGood_any n _).mono ?_
    rintro e w' ⟨rfl, rfl⟩
    rw [HB.out]
    go_wp2_with fail
    go_ret2
    exact ⟨ret_sb (ptV_no HB.out).symm HB.out.symm, Kept.refl _⟩
set_option maxHeartbeats 2000000 in
theorem pointsText_any (n : Int) (hn : -1000000 ≤ n ∧ n ≤ 1000000) (w : World) (ht : HasTab w) :
    Calls Tryd.prog 48 #[.int .i64 n] w fun e w' => e = .returned (.string (ptT n)) ∧ Kept w w' := by
  obtain ⟨h0, h1⟩ := hn
  have HTB := Lib.hid ht
  clear ht
  obtain ⟨u, sg, hu, hsg, HN⟩ : ∃ (u : Nat) (sg : ByteArray), u ≤ 1000000 ∧ sg.size ≤ 1 ∧ Hid ((n < 0 ∧ n = -(u : Int) ∧ sg = ⟨#[45]⟩ ∧ 0 < u) ∨ (¬ n < 0 ∧ n = (u : Int) ∧ sg = ⟨#[]⟩)) := by
    by_cases hneg : n < 0
    · exact ⟨n.natAbs, ⟨#[45]⟩, by omega, Nat.le_refl _, Lib.hid (.inl ⟨hneg, by omega, rfl, by omega⟩)⟩
    · exact ⟨n.toNat, ⟨#[]⟩, by omega, Nat.zero_le _, Lib.hid (.inr ⟨hneg, by omega, rfl⟩)⟩
  have HR : Hid (sg ++ numT (u / 100) ++ ⟨#[46]⟩ ++ numT (u / 10 % 10) ++ numT (u % 10) = ptT n) := by
    rcases HN.out with ⟨_, e, rfl, hp⟩ | ⟨_, e, rfl⟩
    · show _ = _
      rw [ptT_neg e hp, ptT_nat rfl, ByteArray.append_assoc, ByteArray.append_assoc, ByteArray.append_assoc, ByteArray.append_assoc, ByteArray.append_assoc]
    · show _ = _
      rw [ptT_nat e]
      have : (⟨#[]⟩ : ByteArray) ++ numT (u / 100) = numT (u / 100) := by show tx [] ++ tx _ = _; rw [tx_app]; rfl
      rw [this]
  have e1 : ((u / 100 : Nat) : Int) = (u : Int) / 100 := by omega
  have e2 : ((u / 10 % 10 : Nat) : Int) = (u : Int) / 10 % 10 := by omega
  have e3 : ((u % 10 : Nat) : Int) = (u : Int) % 10 := by omega
  have c1 := fun w h => itoa_any (u / 100) w h (by omega)
  have c2 := fun w h => itoa_any (u / 10 % 10) w h (by omega)
  have c3 := fun w h => itoa_any (u % 10) w h (by omega)
  rw [e1] at c1
  rw [e2] at c2
  rw [e3] at c3
  have C1 := Lib.hid c1
  have C2 := Lib.hid c2
  have C3 := Lib.hid c3
  have s1 := numT_len (n := u / 100) (by omega)
  have s2 : (numT (u / 10 % 10)).size = 1 := numT_one (by omega)
  have s3 : (numT (u % 10)).size = 1 := numT_one (by omega)
  have s4 : (⟨#[46]⟩ : ByteArray).size = 1 := rfl
  have A0 := Lib.hid (cat_run (x := sg) (y := numT (u / 100)) rfl (by omega))
  have A1 := Lib.hid (cat_run (x := sg ++ numT (u / 100)) (y := ⟨#[46]⟩) rfl (by rw [ByteArray.size_append]; omega))
  have A2 := Lib.hid (cat_run (x := sg ++ numT (u / 100) ++ ⟨#[46]⟩) (y := numT (u / 10 % 10)) rfl (by rw [ByteArray.size_append, ByteArray.size_append]; omega))
  have A3 := Lib.hid (cat_run (x := sg ++ numT (u / 100) ++ ⟨#[46]⟩ ++ numT (u / 10 % 10)) (y := numT (u % 10)) HR.out (by rw [ByteArray.size_append, ByteArray.size_append, ByteArray.size_append]; omega))
  clear c1 c2 c3 e1 e2 e3 s1 s2 s3 s4 HR
  have hw : IntKind.i64.wrap (u : Int) = (u : Int) := IntWalk.i64_in _ (by omega)
  rcases HN.out with ⟨hneg, rfl, hs, hp⟩ | ⟨hneg, rfl, hs⟩
  all_goals
    clear HN
    have HS := Lib.hid hs
    clear hs
    go_enter Tryd.func48, Tryd.ntmps48
    go_wp2_with fail
    refine (C1.out _ HTB.out).mono ?_
    rintro e w1 ⟨rfl, k1⟩
    have a0 := A0.out
    have a1 := A1.out
    rw [HS.out] at a0 a1
    go_wp2_with fail
    refine (C2.out _ (HTB.out.kept k1)).mono ?_
    rintro e w2 ⟨rfl, k2⟩
    have a2 := A2.out
    rw [HS.out] at a2
    clear a0 a1
    go_wp2_with fail
    refine (C3.out _ (HTB.out.kept (k1.trans k2))).mono ?_
    rintro e w3 ⟨rfl, k3⟩
    have a3 := A3.out
    rw [HS.out] at a3
    clear a2
    go_wp2_with fail
    go_ret
    exact ⟨rfl, (k1.trans k2).trans k3⟩
set_option maxHeartbeats 1000000 in
theorem implPointsText_any (n : Int) (w : World) (ht : HasTab w) :
    Calls Tryd.prog 13 #[.int .i64 n] w fun e w' => e = .returned (.tuple #[.string (ptV n), .bool (inB n (-1000000) 1000000)]) ∧ Kept w w' := by
  have HTB := Lib.hid ht
  clear ht
  have K0 : Kept w (w.alloc (.cells #[.int .i64 n] 3)) := (Kept.refl w).alloc _
  have C0 := Lib.hid (arePoints_any _ [n] _ (ints_one w n 3))
  have he : [n].all (inB · (-1000000) 1000000) = inB n (-1000000) 1000000 := by simp
  rw [he] at C0
  clear he
  by_cases hb : inB n (-1000000) 1000000 = true
  · have HB := Lib.hid hb
    have hn := inB_true hb
    clear hb
    go_enter Tryd.func13, Tryd.ntmps13
    go_wp2_with fail
    refine (C0.out).mono ?_
    rintro e w' ⟨rfl, rfl⟩
    rw [HB.out]
    go_wp2_with fail
    refine (pointsText_any n hn _ (HTB.out.kept K0)).mono ?_
    rintro e w1 ⟨rfl, k1⟩
    go_wp2_with fail
    go_ret2
    exact ⟨ret_sb (ptV_yes HB.out).symm HB.out.symm, K0.trans k1⟩
  · simp only [Bool.not_eq_true] at hb
    have HB := Lib.hid hb
    clear hb
    go_enter Tryd.func13, Tryd.ntmps13
    go_wp2_with fail
    refine (C0.out).mono ?_
    rintro e w' ⟨rfl, rfl⟩
    rw [HB.out]
    go_wp2_with fail
    go_ret2
    exact ⟨ret_sb (ptV_no HB.out).symm HB.out.symm, K0⟩
set_option maxHeartbeats 1000000 in
theorem lawPointsText_any {w : World} (n : Int) (ht : HasTab w) :
    Calls Tryd.prog 3 #[.int .i64 n] w fun e w' => e = .returned (.bool true) ∧ Kept w w' := by
  have HTB := Lib.hid ht
  have C := Lib.hid (And.intro (specPointsText_any n) (implPointsText_any n))
  clear ht
  generalize ptV n = t at C
  generalize inB n (-1000000) 1000000 = b at C
  go_enter Tryd.func3, Tryd.ntmps3
  go_wp2_with fail
  refine (C.out.1 _).mono ?_
  rintro e w1 ⟨rfl, k1⟩
  go_wp2_with fail
  refine (C.out.2 _ (HTB.out.kept k1)).mono ?_
  rintro e w2 ⟨rfl, k2⟩
  go_wp2_with fail
  go_ret
  exact ⟨rfl, k1.trans k2⟩
end Go.Proofs.YtmlfegfplepehaaDoor

/- The rows' step for statements that list package-level variables: the wrap with the listed variables and the world's shape; what the listed variables give a walk. -/
namespace Go.Proofs.YtmlfegfplepehaaDoor
set_option linter.unusedVariables false
set_option linter.unusedSimpArgs false
set_option linter.unnecessarySimpa false
open Go.ChangeShapes Go.WideShapes Go.ChangeAt Go.RowKit

theorem returns_lot {H : Type} {enc : TypeId × Value → H} {a : Assume} {C : Checked} {os : Os} {f : FuncId} {fn : Func} {s : ChangeSpec} {conds : List PathCond} {apart fresh handsOn again : Bool} {X : World → Array Value → Prop}
    (hX : ∀ (w w' : World) (args : Array Value), w.heap = w'.heap → X w args → X w' args)
    (own : ownKnob C.prog.godebug = none) (started : os.Started) (noInit : C.prog.inits.idxOf? f = none) (hfn : C.prog.funcs[f]? = some fn)
    (witness : ∃ (w : World) (tape : Tape) (i : Input), w.os = os ∧ (w.forCall tape i).Shaped C.prog ∧ i.vars = [] ∧ Input.okWide C.prog (w.forCall tape i) .any w.heap.size f i ∧
      ((s.pre enc C.prog fn conds apart (w.forCall tape i).memory i.args ∧ X (w.forCall tape i).memory i.args) ∧ sizedMet enc C.prog fn (OpenSpec.ofChange s) apart (w.forCall tape i).memory i.args) ∧ a.holds C.prog (lone (Frame.enter C.prog f i.args .normal) [] (w.forCall tape i)))
    (contract : ∀ (W : World) (base : Nat) (args : Array Value) (ds gs : List (DataW H)) (before : List MemPlace),
      (∀ (j : Nat) t v, fn.params[j]? = some t → args[j]? = some v → Value.okWide C.prog W .any base t v) →
      DataW.Whole enc C.prog fn.params.toList s.vars apart W args.toList ds gs before →
      X W args → W.ShapedOpen C.prog →
      Calls C.prog f args W fun e W' => ∃ v, e = .returned v ∧ s.post enc C.prog fn apart fresh handsOn again W args v W') :
    ReturnsInHanded a C os f .any (fun w args => (s.pre enc C.prog fn conds apart w args ∧ X w args) ∧ sizedMet enc C.prog fn (OpenSpec.ofChange s) apart w args) (s.post enc C.prog fn apart fresh handsOn again) := by
  refine returnsInHanded_of_calls own started noInit witness ?_
  intro w tape i _ hsh _ hok hpre hholds
  obtain ⟨_, _, _, fn', hfn', _, _, _, _, hval⟩ := hok
  have e : fn' = fn := Option.some.inj (hfn'.symm.trans hfn)
  subst e
  obtain ⟨⟨⟨ds, gs, before, hw, hc⟩, hx⟩, hz⟩ := hpre
  have hw' := DataW.Whole.of_heap (w' := w.forCall tape i) (by rfl) hw
  refine (contract (w.forCall tape i) w.heap.size i.args ds gs before hval hw' (hX _ _ _ (by rfl) hx) hsh).mono fun e W' ⟨v, he, hp⟩ => ?_
  subst he
  exact ChangeSpec.post_blind hp
theorem tab_of {W : World} (h : laidMet Tryd.prog [("math/bits.deBruijn32tab", Rows.laid_math_bits_deBruijn32tab), ("math/bits.deBruijn64tab", Rows.laid_math_bits_deBruijn64tab), ("internal/strconv.uint64pow10", Rows.laid_internal_strconv_uint64pow10)] W) : HasTab W := by
  have h3 := h.tail.tail
  have e : (Rows.laid_internal_strconv_uint64pow10 : DataW Unit) = Lib.tabData .u64 Lib.pow10Tab := by kernel_rfl
  rw [e] at h3
  have hg : Tryd.prog.globalNamed "internal/strconv.uint64pow10" = some 2 := by kernel_rfl
  have ht := Lib.tabIs_of_head (g := 2) hg (by kernel_rfl) Tryd.underlying154 Tryd.underlying144 (by kernel_rfl) (by kernel_rfl) h3
  refine ⟨ht, ?_⟩
  have hv := ht.cell hg 0 (by decide)
  unfold World.cell? at hv
  cases hh : W.heap[2]? with
  | none => rw [hh] at hv; cases hv
  | some o => exact (Array.getElem?_eq_some_iff.1 hh).1
def HasMax (w : World) : Prop := ∃ m, w.cell? ⟨1, 0, none⟩ = some (.int .i64 m)
theorem cell_lt {w : World} {g o : Nat} {v : Value} (h : w.cell? ⟨g, o, none⟩ = some v) : g < w.heap.size := by
  unfold World.cell? at h
  cases hh : w.heap[g]? with
  | none => simp [hh] at h
  | some o => exact (Array.getElem?_eq_some_iff.1 hh).1
theorem HasMax.kept {w w' : World} (h : HasMax w) (k : Kept w w') : HasMax w' := by
  obtain ⟨m, hm⟩ := h
  exact ⟨m, (k.cell (p := ⟨1, 0, none⟩) (cell_lt hm)).trans hm⟩
theorem max_of {W : World} (h : W.ShapedOpen Tryd.prog) : HasMax W :=
  Go.Proofs.cell_of_shapedOpen_int (zero := #[.int .i64 0]) (t := 3) h (of_decide_eq_true (by kernel_rfl)) (by kernel_rfl) rfl (by kernel_rfl) (by kernel_rfl) Tryd.underlying3
end Go.Proofs.YtmlfegfplepehaaDoor

/- The marks' signs: what the listed variable gives a walk. -/
namespace Go.Proofs.YtmlfegfplepehaaDoor
set_option linter.unusedVariables false
set_option linter.unusedSimpArgs false
set_option linter.unnecessarySimpa false
open Go.ChangeShapes Go.WideShapes Go.ChangeAt Go.RowKit Go.Lib

/-- the marks' signs read as their initialiser lays them -/
def HasSigns (w : World) : Prop := ∀ m, m ≤ 3 → w.cell? ⟨0, m, none⟩ = some (.string (sgB m))
theorem HasSigns.kept {w w' : World} (h : HasSigns w) (k : Kept w w') : HasSigns w' := fun m hm =>
  (k.cell (p := ⟨0, m, none⟩) (cell_lt (h m hm))).trans (h m hm)
theorem signs_head {W : World} {rest : List (String × DataW Unit)} (h : laidMet Tryd.prog (("loop.example/g00912/impl.markSigns", Rows.laid_loop_example_g00912_impl_markSigns) :: rest) W) : HasSigns W := by
  intro r hr
  obtain ⟨ps, ⟨g, t, cs, fuel, p, q, hg, ht, hv, hd, _, _⟩, _, _⟩ := h
  obtain rfl := Option.some.inj ((show Tryd.prog.globalNamed "loop.example/g00912/impl.markSigns" = some 0 by kernel_rfl).symm.trans hg)
  obtain rfl := Option.some.inj ((show (Tryd.prog.globals[0]?).map (·.type) = some 84 by kernel_rfl).symm.trans ht)
  obtain ⟨xs, m, _, ex, _, hl, hel⟩ := DataW.trod_array Tryd.underlying84 hd
  have c5 : Tryd.prog.cellsOf 9 = 1 := by kernel_rfl
  have hE := hel r (by omega)
  rw [c5, Nat.mul_one, List.getElem?_eq_getElem (by omega)] at hE
  obtain ⟨z, e1, e2, _⟩ := DataW.trod_string Tryd.underlying9 hE
  have e3 : (xs.map (·.1)) = [.lit (.string []), .lit (.string [60]), .lit (.string [101]), .lit (.string [42])] := (DataW.agg.inj (Prod.mk.inj ex).1).symm
  have e4 : (xs.map (·.1))[r]? = some (.lit (.string (signL (r : Int)))) := by
    rw [e3]
    have hm : r = 0 ∨ r = 1 ∨ r = 2 ∨ r = 3 := by omega
    rcases hm with rfl | rfl | rfl | rfl <;> rfl
  rw [List.getElem?_map, List.getElem?_eq_getElem (by omega : r < xs.length), e2] at e4
  simp only [Option.map_some, Option.some.injEq, DataW.lit.injEq, Lit.string.injEq] at e4
  have hz : z = sgB r := by unfold sgB; rw [← e4, tx_of]
  rw [World.var?_cell hg hv r, ← hz]
  have : cs.toList[r]? = some (.string z) := by
    have h0 : ((cs.toList.drop r).take 1)[0]? = some (.string z) := by rw [e1]; rfl
    simpa using h0
  simpa using this
theorem signs_of0 {W : World} (h : laidMet Tryd.prog [("loop.example/g00912/impl.markSigns", Rows.laid_loop_example_g00912_impl_markSigns)] W) : HasSigns W := signs_head h
theorem signs_of1 {W : World} {x y : String × DataW Unit} (h : laidMet Tryd.prog [x, ("loop.example/g00912/impl.markSigns", Rows.laid_loop_example_g00912_impl_markSigns), y] W) : HasSigns W := signs_head h.tail
end Go.Proofs.YtmlfegfplepehaaDoor

/- Plain facts on sorted lists of names. -/
namespace Go.Proofs.YtmlfegfplepehaaDoor
set_option linter.unusedVariables false
set_option linter.unusedSimpArgs false
open Go.Lib

abbrev LB := List UInt8
theorem lb_irrefl (a : LB) : ¬ a < a := List.lt_irrefl a
theorem lb_trans {a b c : LB} (h1 : a < b) (h2 : b < c) : a < c := List.lt_trans h1 h2
theorem lb_tri {a b : LB} (h1 : ¬ a < b) (h2 : ¬ b < a) : a = b := List.le_antisymm h2 h1
theorem lb_lt_of {a b c : LB} (h1 : ¬ b < a) (h2 : b < c) : a < c := List.lt_of_le_of_lt h1 h2
def SL (l : List LB) : Prop := l.Pairwise (· < ·)
theorem sl_unique : ∀ (l m : List LB), SL l → SL m → (∀ x, x ∈ l ↔ x ∈ m) → l = m
  | [], [], _, _, _ => rfl
  | [], y :: m, _, _, h => absurd ((h y).2 (by simp)) (by simp)
  | x :: l, [], _, _, h => absurd ((h x).1 (by simp)) (by simp)
  | x :: l, y :: m, hl, hm, h => by
    have hl' := List.pairwise_cons.1 hl
    have hm' := List.pairwise_cons.1 hm
    have e : x = y := by
      rcases List.mem_cons.1 ((h x).1 (by simp)) with e | e
      · exact e
      · rcases List.mem_cons.1 ((h y).2 (by simp)) with e2 | e2
        · exact e2.symm
        · exact absurd (lb_trans (hm'.1 x e) (hl'.1 y e2)) (lb_irrefl _)
    subst e
    rw [sl_unique l m hl'.2 hm'.2 (fun z => ⟨fun hz => ?_, fun hz => ?_⟩)]
    · rcases List.mem_cons.1 ((h z).1 (by simp [hz])) with e | e
      · subst e; exact absurd (hl'.1 _ hz) (lb_irrefl _)
      · exact e
    · rcases List.mem_cons.1 ((h z).2 (by simp [hz])) with e | e
      · subst e; exact absurd (hm'.1 _ hz) (lb_irrefl _)
      · exact e
def sortL (zs : List LB) : List LB := zs.mergeSort fun x y => decide (x ≤ y)
theorem sortL_le (zs : List LB) : (sortL zs).Pairwise fun x y => ¬ y < x := by
  have h := List.pairwise_mergeSort (le := fun x y : LB => decide (x ≤ y)) (by intro a b c h1 h2; simp at *; exact List.le_trans h1 h2) (by intro a b; simp; exact List.le_total a b) zs
  exact h.imp (by intro a b h; simpa using h)
theorem compact_upto {d : Array LB} (hd : ∀ i j, i ≤ j → j < d.size → ¬ d[j]! < d[i]!) : ∀ m, m ≤ d.size → SL (compactUpTo d m) ∧ (∀ x, x ∈ compactUpTo d m ↔ ∃ j, j < m ∧ d[j]! = x)
  | 0, _ => ⟨by simp [compactUpTo, SL], fun x => by simp [compactUpTo]⟩
  | m + 1, hm => by
    obtain ⟨h1, h2⟩ := compact_upto hd m (by omega)
    rw [compactUpTo_succ]
    by_cases hk : keeps d m = true
    · rw [if_pos hk]
      refine ⟨?_, fun x => ?_⟩
      · unfold SL
        rw [List.pairwise_append]
        refine ⟨h1, List.pairwise_singleton _ _, fun a ha b hb => ?_⟩
        rw [List.mem_singleton] at hb
        subst hb
        obtain ⟨j, hj, rfl⟩ := (h2 a).1 ha
        have hm0 : m ≠ 0 := by omega
        have hne : d[m]! ≠ d[m - 1]! := by
          have := hk
          unfold keeps at this
          simp only [decide_eq_true_eq] at this
          rcases this with e | e
          · exact absurd e hm0
          · exact e
        have hlt : d[m - 1]! < d[m]! := by
          by_cases hx : d[m - 1]! < d[m]!
          · exact hx
          · exact absurd (lb_tri (hd (m - 1) m (by omega) (by omega)) hx) hne
        exact lb_lt_of (hd j (m - 1) (by omega) (by omega)) hlt
      · rw [List.mem_append, List.mem_singleton, h2]
        refine ⟨fun h => ?_, fun ⟨j, hj, e⟩ => ?_⟩
        · rcases h with ⟨j, hj, e⟩ | e
          · exact ⟨j, by omega, e⟩
          · exact ⟨m, by omega, e.symm⟩
        · rcases Nat.lt_or_eq_of_le (Nat.le_of_lt_succ hj) with h | h
          · exact .inl ⟨j, h, e⟩
          · subst h; exact .inr e.symm
    · rw [if_neg hk, List.append_nil]
      refine ⟨h1, fun x => ?_⟩
      rw [h2]
      refine ⟨fun ⟨j, hj, e⟩ => ⟨j, by omega, e⟩, fun ⟨j, hj, e⟩ => ?_⟩
      rcases Nat.lt_or_eq_of_le (Nat.le_of_lt_succ hj) with h | h
      · exact ⟨j, h, e⟩
      · subst h
        unfold keeps at hk
        simp only [decide_eq_true_eq, not_or] at hk
        exact ⟨j - 1, by omega, (Decidable.not_not.1 hk.2).symm.trans e⟩
theorem compact_sort (zs : List LB) : SL (compact (sortL zs)) ∧ ∀ x, x ∈ compact (sortL zs) ↔ x ∈ zs := by
  have hp := sortL_le zs
  have hd : ∀ i j, i ≤ j → j < (sortL zs).toArray.size → ¬ (sortL zs).toArray[j]! < (sortL zs).toArray[i]! := by
    intro i j hij hj
    have hj' : j < (sortL zs).length := by simpa using hj
    have hi' : i < (sortL zs).length := by omega
    rw [getElem!_pos (sortL zs).toArray j hj, getElem!_pos (sortL zs).toArray i (by simpa using hi')]
    rcases Nat.lt_or_eq_of_le hij with h | h
    · exact List.pairwise_iff_getElem.1 hp i j hi' hj' h
    · subst h; exact lb_irrefl _
  obtain ⟨h1, h2⟩ := compact_upto hd _ (Nat.le_refl _)
  refine ⟨h1, fun x => ?_⟩
  have h3 := h2 x
  have e : compact (sortL zs) = compactUpTo (sortL zs).toArray (sortL zs).toArray.size := rfl
  rw [e, h3]
  have hmem : x ∈ sortL zs ↔ x ∈ zs := (List.mergeSort_perm _ _).mem_iff
  rw [← hmem]
  refine ⟨fun ⟨j, hj, e⟩ => ?_, fun h => ?_⟩
  · have hj' : j < (sortL zs).length := by simpa using hj
    rw [getElem!_pos _ j hj] at e
    subst e
    exact List.getElem_mem hj'
  · obtain ⟨j, hj, e⟩ := List.getElem_of_mem h
    refine ⟨j, by simpa using hj, ?_⟩
    rw [getElem!_pos _ j (by simpa using hj)]
    exact e

/-! ### in the program's own strings -/
def bl (z : ByteArray) : LB := z.data.toList
def bs (l : LB) : ByteArray := ⟨l.toArray⟩
theorem bs_bl (z : ByteArray) : bs (bl z) = z := mk_data z
theorem bl_bs (l : LB) : bl (bs l) = l := rfl
theorem bl_inj {x y : ByteArray} (h : bl x = bl y) : x = y := by rw [← bs_bl x, ← bs_bl y, h]
def namesD (zs : List ByteArray) : List ByteArray := (compact (sortL (zs.map bl))).map bs
/-- strictly increasing, with just the strings of zs -/
def IsNames (os zs : List ByteArray) : Prop := SL (os.map bl) ∧ ∀ x, x ∈ os ↔ x ∈ zs
theorem isNames_eq {os zs : List ByteArray} (h : IsNames os zs) : os = namesD zs := by
  obtain ⟨h1, h2⟩ := h
  obtain ⟨c1, c2⟩ := compact_sort (zs.map bl)
  have e : os.map bl = compact (sortL (zs.map bl)) := by
    refine sl_unique _ _ h1 c1 fun x => ?_
    rw [c2, List.mem_map, List.mem_map]
    exact ⟨fun ⟨y, hy, e⟩ => ⟨y, (h2 y).1 hy, e⟩, fun ⟨y, hy, e⟩ => ⟨y, (h2 y).2 hy, e⟩⟩
  unfold namesD
  rw [← e, List.map_map]
  conv => lhs; rw [← List.map_id os]
  exact List.map_congr_left fun x _ => (bs_bl x).symm
theorem names_mem {zs : List ByteArray} {x : ByteArray} (h : x ∈ namesD zs) : x ∈ zs := by
  unfold namesD at h
  obtain ⟨l, hl, rfl⟩ := List.mem_map.1 h
  obtain ⟨y, hy, e⟩ := List.mem_map.1 (((compact_sort (zs.map bl)).2 l).1 hl)
  subst e
  rw [bs_bl]
  exact hy
def nlt (x y : ByteArray) : Bool := Op.bytesLess x.toList y.toList
theorem nlt_iff (x y : ByteArray) : nlt x y = true ↔ bl x < bl y := by
  unfold nlt
  rw [bytesLess_eq, toList_data, toList_data]
  simp [bl]
theorem isNames_in {os zs : List ByteArray} {n : ByteArray} (h : IsNames os zs) (hn : n ∈ os) : IsNames os (zs ++ [n]) :=
  ⟨h.1, fun x => by rw [h.2, List.mem_append, List.mem_singleton]; exact ⟨.inl, fun e => e.elim id (fun e => e ▸ (h.2 n).1 hn)⟩⟩
theorem isNames_ins {os zs : List ByteArray} {n : ByteArray} {k : Nat} (h : IsNames os zs) (hk : k ≤ os.length) (h1 : ∀ j x, j < k → os[j]? = some x → nlt x n = true) (h2 : ∀ x, os[k]? = some x → nlt x n = false ∧ x ≠ n) : IsNames (os.take k ++ n :: os.drop k) (zs ++ [n]) := by
  obtain ⟨hs, hm⟩ := h
  have hafter : ∀ y ∈ os.drop k, bl n < bl y := by
    intro y hy
    obtain ⟨j, hj⟩ := List.getElem?_of_mem hy
    rw [List.getElem?_drop] at hj
    have hlt := (List.getElem?_eq_some_iff.1 hj).1
    have hk' : k < os.length := by omega
    have hk1 : os[k]? = some os[k] := List.getElem?_eq_getElem hk'
    obtain ⟨ha, hb⟩ := h2 _ hk1
    have hnk : bl n < bl os[k] := by
      by_cases hx : bl n < bl os[k]
      · exact hx
      · have hy : ¬ bl os[k] < bl n := fun hc => by rw [(nlt_iff _ _).2 hc] at ha; cases ha
        exact absurd (bl_inj (lb_tri hy hx)) hb
    cases j with
    | zero =>
      rw [Nat.add_zero, hk1] at hj
      injection hj with hj
      subst hj
      exact hnk
    | succ j =>
      have hp := List.pairwise_iff_getElem.1 hs k (k + (j + 1)) (by simpa using hk') (by simpa using hlt) (by omega)
      have e := (List.getElem?_eq_some_iff.1 hj).2
      simp only [List.getElem_map] at hp
      rw [e] at hp
      exact lb_trans hnk hp
  refine ⟨?_, fun x => ?_⟩
  · rw [List.map_append, List.map_cons]
    unfold SL
    rw [List.pairwise_append]
    refine ⟨?_, ?_, ?_⟩
    · rw [List.map_take]; exact hs.sublist (List.take_sublist _ _)
    · rw [List.pairwise_cons]
      refine ⟨fun y hy => ?_, ?_⟩
      · obtain ⟨z, hz, rfl⟩ := List.mem_map.1 hy
        exact hafter z hz
      · rw [List.map_drop]; exact hs.sublist (List.drop_sublist _ _)
    · intro a ha b hb
      obtain ⟨x, hx, rfl⟩ := List.mem_map.1 ha
      obtain ⟨i, hi⟩ := List.getElem?_of_mem hx
      have hik : i < k := by
        have := (List.getElem?_eq_some_iff.1 hi).1
        rw [List.length_take] at this
        omega
      rw [List.getElem?_take_of_lt hik] at hi
      have hxn := (nlt_iff _ _).1 (h1 i x hik hi)
      rcases List.mem_cons.1 hb with e | e
      · subst e; exact hxn
      · obtain ⟨z, hz, rfl⟩ := List.mem_map.1 e
        exact lb_trans hxn (hafter z hz)
  · have e : x ∈ os.take k ++ n :: os.drop k ↔ x ∈ os ∨ x = n := by
      rw [List.mem_append, List.mem_cons]
      conv => rhs; rw [← List.take_append_drop k os, List.mem_append]
      constructor
      · rintro (h | h | h)
        · exact .inl (.inl h)
        · exact .inr h
        · exact .inl (.inr h)
      · rintro ((h | h) | h)
        · exact .inl h
        · exact .inr (.inr h)
        · exact .inr (.inl h)
    rw [e, hm, List.mem_append, List.mem_singleton]
theorem isNames_nil : IsNames [] [] := ⟨List.Pairwise.nil, fun _ => Iff.rfl⟩
end Go.Proofs.YtmlfegfplepehaaDoor

/- Rows that the library sorts in place; copies with where they lie. -/
namespace Go.Proofs.YtmlfegfplepehaaDoor
set_option linter.unusedVariables false
set_option linter.unusedSimpArgs false
open Go.RowKit

theorem own_lt {w : World} {base g cap n : Nat} {e : TypeId} {xs : List Value} (h : w.ownsRow base e 1 (.slice (some ⟨g, 0, none⟩) n cap) n xs) : g < w.heap.size := by
  rcases h.2 with ⟨e1, _⟩ | ⟨g', cap', cur, e1, hb, hg, _⟩
  · cases e1
  · injection e1 with e1
    injection e1 with e1
    injection e1 with e1
    subst e1
    exact (Array.getElem?_eq_some_iff.1 hg).1
theorem holds_own {α : Type} [Inhabited α] {enc : α → Value} {w : World} {base g cap : Nat} {e : TypeId} {zs : List α} (h : w.ownsRow base e 1 (.slice (some ⟨g, 0, none⟩) zs.length cap) zs.length (zs.map enc)) : Go.Sort.Holds enc w g 0 zs.toArray := by
  intro j hj
  have hj' : j < zs.length := by simpa using hj
  rcases h.2 with ⟨e1, _⟩ | ⟨g', cap', cur, e1, hb, hg, _⟩
  · cases e1
  · injection e1 with e1
    injection e1 with e1
    injection e1 with e1
    subst e1
    refine ⟨?_, ?_⟩
    · rw [Nat.zero_add, h.cellAt j (by omega), List.getElem?_map, List.getElem?_eq_getElem hj']
      simp [hj']
    · simp [World.frozen?, hg]
theorem putRow_own {α : Type} [Inhabited α] (enc : α → Value) {w : World} {base g cap n : Nat} {e : TypeId} {xs : List Value} (h : w.ownsRow base e 1 (.slice (some ⟨g, 0, none⟩) n cap) n xs) {ys : List α} (hl : ys.length = n) (m : Nat) (os : Array Obj) :
    (Go.Sort.grow (Go.Sort.putRow enc (Go.Sort.ahead w m) g 0 ys.toArray) os).ownsRow base e 1 (.slice (some ⟨g, 0, none⟩) n cap) n (ys.map enc) ∧ Only [g] w (Go.Sort.grow (Go.Sort.putRow enc (Go.Sort.ahead w m) g 0 ys.toArray) os) := by
  rcases h.2 with ⟨e1, _⟩ | ⟨g', cap', cur, e1, hb, hg, hnc, hcm, hcs, ht⟩
  · cases e1
  · injection e1 with e1 e2 e3
    injection e1 with e1
    injection e1 with e1
    subst e1 e3
    have hlt : g < w.heap.size := (Array.getElem?_eq_some_iff.1 hg).1
    have hnew : (Go.Sort.grow (Go.Sort.putRow enc (Go.Sort.ahead w m) g 0 ys.toArray) os).heap[g]? = some (.cells (Go.Sort.putCells enc 0 ys.toArray cur) e (0, 0)) := by
      rw [Go.Sort.heap_grow_old _ _ (by simpa using hlt)]
      simp [Go.Sort.putRow, Go.Sort.mapBlock, Array.getElem?_modify, hg, Go.Sort.onCells]
    refine ⟨⟨by simp [hl], .inr ⟨g, cap, _, rfl, hb, hnew, hnc, hcm, by simp [Go.Sort.putCells]; simpa using hcs, ?_⟩⟩, ?_⟩
    · apply List.ext_getElem?
      intro j
      rw [List.getElem?_take]
      by_cases hj : j < n
      · rw [if_pos (by omega), Array.getElem?_toList]
        have hjc : j < cur.size := by omega
        simp [Go.Sort.putCells, Array.getElem?_mapIdx, hjc, hl, hj]
      · rw [if_neg (by omega), List.getElem?_eq_none (by simp [hl]; omega)]
    · refine ⟨rfl, rfl, rfl, by simp [Go.Sort.grow, Go.Sort.putRow, Go.Sort.mapBlock], fun i hi hn => ?_⟩
      rw [Go.Sort.heap_grow_old _ _ (by simpa using hi)]
      have hne : g ≠ i := fun e => hn (by simp [e])
      simp [Go.Sort.putRow, Go.Sort.mapBlock, Array.getElem?_modify, hne]
theorem run_append_locG {P : Program} (w : World) (base : Nat) (t ty e : TypeId) (i : TypeInfo) (z : Value) (size bytes : Nat) (ht : P.underlying t = some (.slice e)) (hi : P.info? e = some i) (hz : i.zero = some z)
    (hsize : i.size = size) (hby : i.bytes = bytes) (hzs : z.cells.size = size) (hsz : 0 < size)
    (v : Value) (n : Nat) (xs : List Value) (hown : w.ownsRow base e size v n xs)
    (u : Value) (m : Nat) (news : List Value) (hr : Seq w u m news) (hl : news.length = m * size) (h1 : ∀ y ∈ news, y.oneCell' = true)
    (h63 : n + m ≤ maxLen) (hbytes : (n + m) * bytes ≤ 140737488355328) (hbase : base ≤ w.heap.size) :
    ∃ v' w', (Builtin.append_ #[t, t] ty #[v, u]).run P w = .ok v' w' ∧ w'.ownsRow base e size v' (n + m) (xs ++ news) ∧ w.grownBy w' v.ownBlock ∧ (v'.ownBlock = v.ownBlock ∨ v'.ownBlock = some w.heap.size) := by
  obtain ⟨A, c, rfl, hnc, hcm, hA, hc⟩ := hr
  rcases A with _ | ad
  · obtain rfl := hA rfl
    obtain rfl : m = 0 := by omega
    obtain rfl : news = [] := List.eq_nil_of_length_eq_zero (by simpa using hl)
    exact ⟨v, w, run_append_of_nil w base t ty e i size ht hi v n xs hown 0, by simpa using hown, World.grownBy.refl w _, .inl rfl⟩
  · have hcells : ∀ j y, news[j]? = some y → w.cell? (ad.add j) = some y := by
      intro j y hy
      have hm : 0 < m := by
        rcases Nat.eq_zero_or_pos m with h0 | h0
        · subst h0
          have : news = [] := List.eq_nil_of_length_eq_zero (by simpa using hl)
          subst this
          simp at hy
        · exact h0
      obtain ⟨b, o', e1, hb, hcell⟩ := hc hm
      injection e1 with e1
      subst e1
      have := hcell j y hy
      rwa [show (⟨b, o', none⟩ : Addr).add j = ⟨b, o' + j, none⟩ from by unfold Addr.add; split <;> simp_all]
    obtain ⟨v', w', hrun, h2, h3, _, h5⟩ := run_append_own_at (P := P) w base t ty e i z size bytes ht hi hz hsize hby hzs hsz v n xs hown ad m c news hl hcells h1 h63 hbytes hbase
    exact ⟨v', w', hrun, h2, h3, h5⟩
end Go.Proofs.YtmlfegfplepehaaDoor

/- Items: slices.Sort and slices.Compact at rows of strings; NamesIn, both sides. -/
namespace Go.Proofs.YtmlfegfplepehaaDoor
set_option linter.unusedVariables false
set_option linter.unusedSimpArgs false
open Go.RowKit Go.Lib Go.Sort

theorem ownS_cases {w : World} {base : Nat} {v : Value} {zs : List ByteArray} (h : OwnS w base v zs) : (v = .slice none 0 0 ∧ zs = []) ∨ ∃ g cap, v = .slice (some ⟨g, 0, none⟩) zs.length cap ∧ zs.length ≤ cap ∧ cap ≤ maxLen := by
  rcases h.1.2 with ⟨e1, e2⟩ | ⟨g, cap, cur, e1, _, _, e4, e5, _⟩
  · exact .inl ⟨e1, List.eq_nil_of_length_eq_zero e2⟩
  · exact .inr ⟨g, cap, e1, e4, e5⟩
theorem own_shrink {w : World} {base g cap n m : Nat} {e : TypeId} {xs : List Value} (h : w.ownsRow base e 1 (.slice (some ⟨g, 0, none⟩) n cap) n xs) (hm : m ≤ n) : w.ownsRow base e 1 (.slice (some ⟨g, 0, none⟩) m cap) m (xs.take m) := by
  obtain ⟨hl, h2⟩ := h
  rcases h2 with ⟨e1, _⟩ | ⟨g', cap', cur, e1, hb, hg, hnc, hcm, hcs, ht⟩
  · cases e1
  · injection e1 with e1 e2 e3
    injection e1 with e1
    injection e1 with e1
    subst e1 e3
    refine ⟨by rw [List.length_take, hl]; omega, .inr ⟨g, cap, cur, rfl, hb, hg, by omega, hcm, hcs, ?_⟩⟩
    rw [← ht, List.take_take]
    congr 1
    omega
theorem enc_bl (zs : List ByteArray) : (zs.map bl).map encStr = zs.map Value.string := by
  rw [List.map_map]
  exact List.map_congr_left fun z _ => congrArg Value.string (bs_bl z)
theorem enc_bs (ls : List LB) : ls.map encStr = (ls.map bs).map Value.string := by
  rw [List.map_map]
  rfl
theorem names_len {zs : List LB} : (compact zs).length ≤ zs.length := by
  unfold compact compactUpTo
  rw [List.length_map]
  exact Nat.le_trans (List.length_filter_le _ _) (by simp)
def allN (its : List ItemD) : List ByteArray := its.flatMap ItemD.names
def niV (its : List ItemD) : List ByteArray := if itemsB its then namesD (allN its) else []
theorem niV_yes {its : List ItemD} (h : itemsB its = true) : niV its = namesD (allN its) := by unfold niV; rw [h]; rfl
theorem niV_no {its : List ItemD} (h : itemsB its = false) : niV its = [] := by unfold niV; rw [h]; rfl
theorem allN_snoc {its : List ItemD} {k : Nat} {it : ItemD} (h : its[k]? = some it) : allN (its.take (k + 1)) = allN (its.take k) ++ it.names := by
  unfold allN
  rw [take_snoc h, List.flatMap_append]
  simp
theorem allN_len : ∀ {its : List ItemD}, (∀ it ∈ its, itemB it = true) → (allN its).length ≤ 3 * its.length
  | [], _ => by simp [allN]
  | it :: t, h => by
    have h1 := allN_len (its := t) (fun x hx => h x (List.mem_cons_of_mem _ hx))
    have h2 := (itemB_true (h it (by simp)))
    have h3 : it.names.length ≤ 3 := by have := h2.2.2.1; omega
    unfold allN at *
    rw [List.flatMap_cons, List.length_append, List.length_cons]
    omega
theorem ret_vbN {v : Value} {b b' : Bool} (h : b = b') : Ending.returned (.tuple #[v, .bool b]) = .returned (.tuple #[v, .bool b']) := by rw [h]
theorem nilS (w : World) (base : Nat) : OwnS w base (.slice none 0 0) [] := ⟨⟨by simp, .inl ⟨rfl, rfl⟩⟩, fun _ h => by cases h⟩
theorem OwnS.base {w : World} {base base' : Nat} {v : Value} {zs : List ByteArray} (h : OwnS w base v zs) (hb : base' ≤ base) : OwnS w base' v zs := ⟨own_base h.1 hb, h.2⟩
theorem Only.above' {g : Nat} {a0 a b : World} (h : Only [g] a b) (k : Kept a0 a) (hg : a0.heap.size ≤ g) : Kept a0 b :=
  h.above k (fun x hx => by rw [List.mem_singleton] at hx; subst hx; exact hg)
set_option maxRecDepth 100000 in
theorem wpList_append_SL (w : World) {ops : Array Oper} {rest : List Oper} {o : Oper} {a : Act} {Q : Exit → Act → World → Prop} (hgd : o.guard = none) (s x : Operand)
    (ho : o.op = .call { callee := .builtin .append, args := #[s, x], argTypes := #[25, 25] })
    (base : Nat) (v : Value) (zs : List ByteArray) (hs : a.eval s = v) (hown : OwnS w base v zs) (u : Value) (ys : List ByteArray) (hx : a.eval x = u) (hr : Strs w u ys)
    (hl : zs.length + ys.length ≤ 16777216) (hbase : base ≤ w.heap.size)
    (h : ∀ v' w', OwnS w' base v' (zs ++ ys) → w.grownBy w' v.ownBlock → (v.ownBlock ≠ none → v'.ownBlock ≠ none) → wpList Tryd.prog ops Q rest (a.put o.dst v') w') : wpList Tryd.prog ops Q (o :: rest) a w := by
  refine wpList_plain hgd fun K hK => ?_
  obtain ⟨i0, hi, hz0, hz1, hz2⟩ := info_parts info_str
  obtain ⟨v', w', hrun, h2, h3, h4⟩ := run_append_locG (P := Tryd.prog) w base 25 o.type 9 i0 _ 1 16 Tryd.underlying25 hi hz0 hz1 hz2 rfl (by omega) v zs.length _ hown.1 u ys.length (ys.map Value.string) hr.1 (by simp) (fun y hy => by obtain ⟨_, _, rfl⟩ := List.mem_map.1 hy; rfl) (by unfold maxLen; omega) (by omega) hbase
  unfold Oper.wp execOp
  simp only [ho, resolve, invoke, builtin, Sem.run_bind, Sem.run_pure, Result.andThen_ok, List.map_toArray, List.map_cons, List.map_nil, hs, hx, hrun]
  refine hK _ _ (h v' w' ?_ h3 (fun hv => ?_))
  · refine ⟨by rw [List.length_append, List.map_append]; exact h2, fun e he => ?_⟩
    rcases List.mem_append.1 he with he | he
    · exact hown.2 e he
    · exact hr.2 e he
  · rcases h4 with h4 | h4
    · rw [h4]; exact hv
    · rw [h4]; simp
end Go.Proofs.YtmlfegfplepehaaDoor
