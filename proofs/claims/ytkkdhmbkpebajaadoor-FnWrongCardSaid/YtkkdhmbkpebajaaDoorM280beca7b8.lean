/- Contracts of functions that the proof leans on. No condition. -/
import Derived.Test.YtkkdhmbkpebajaaDoorMa45d293086
import Derived.Deep.RegionHeld3
import Derived.Deep.DeepBigQuietO
import Derived.Deep.DeepCutAuto
import Derived.Shelf.Strings.OnBuilder
import Derived.Test.YtkkdhmbkpebajaaDoorChecked
/- Draws of texts of points. -/
namespace Go.Proofs.YtkkdhmbkpebajaaDoor
set_option linter.unusedVariables false
set_option linter.unusedSimpArgs false
set_option linter.unnecessarySimpa false
open Go.RowKit Go.Lib

theorem ptT_wide {n : Int} (h : -2000000 ≤ n ∧ n ≤ 2000000) : (ptT n).size ≤ 20 := by
  have hN : ∀ u : Nat, u ≤ 2000000 → (ptT (u : Int)).size ≤ 13 := fun u hu => by
    have s1 := numT_len (n := u / 100) (by omega)
    have s2 : (numT (u / 10 % 10)).size = 1 := numT_one (by omega)
    have s3 : (numT (u % 10)).size = 1 := numT_one (by omega)
    have s4 : (⟨#[46]⟩ : ByteArray).size = 1 := rfl
    rw [ptT_nat (n := (u : Int)) (u := u) rfl, ByteArray.size_append, ByteArray.size_append, ByteArray.size_append]
    omega
  by_cases hneg : n < 0
  · obtain ⟨u, rfl⟩ : ∃ u : Nat, n = -(u : Int) := ⟨n.natAbs, by omega⟩
    have s5 : (⟨#[45]⟩ : ByteArray).size = 1 := rfl
    have := hN u (by omega)
    rw [ptT_neg (n := -(u : Int)) rfl (by omega), ByteArray.size_append]
    omega
  · obtain ⟨u, rfl⟩ : ∃ u : Nat, n = (u : Int) := ⟨n.toNat, by omega⟩
    have := hN u (by omega)
    omega
/-- a list and a number -/
def RowIPost (w : World) (e : Ending) (w' : World) : Prop := ∃ v' zs n, e = .returned (.tuple #[v', .int .i64 n]) ∧ OwnI w' w.heap.size v' zs ∧ zs.length ≤ 61
theorem ext_size (x : ByteArray) (a b : Nat) (h : b ≤ x.size) : (x.extract a b).size = b - a := by rw [ByteArray.size_extract]; omega
set_option maxRecDepth 100000 in
set_option maxHeartbeats 8000000 in
theorem spoilt_any (p m : Nat) (t wi : ByteArray) (w : World) (h : Cur w p m) (hm : m ≤ 1000000000) (ht : t.size ≤ 1000000) (hw0 : 0 < wi.size) (hw1 : wi.size ≤ 1000) :
    Calls Tryd.prog 33 #[.pointer (some ⟨p, 0, none⟩), .string t, .string wi] w fun e w' => (∃ x : ByteArray, e = .returned (.string x) ∧ x.size ≤ t.size + 2) ∧ Cur w' p (m + 20) ∧ Only [p] w w' := by
  have C0 := Lib.hid h
  clear h
  go_enter Tryd.func33, Tryd.ntmps33
  go_wp2_with fail
  with_reducible refine (pick_any p _ 2 w C0.out (by omega) (by omega)).mono ?_
  rintro e w1 ⟨x1, rfl, ⟨lo1, hi1⟩, c1, on1⟩
  have hi2 : x1 < 2 := hi1 (by omega)
  obtain ⟨k0, rfl⟩ : ∃ k : Nat, x1 = (k : Int) := ⟨x1.toNat, by omega⟩
  have C1 := Lib.hid c1
  have N1 := Lib.hid on1
  clear c1 on1 hi1
  go_wp2_with fail
  go_loopw [1, 7] (fun s1 s7 wr => ∃ (k : Nat) (x : ByteArray), s7 = .int .i64 k ∧ s1 = .string x ∧ k ≤ 2 ∧ x.size + k ≤ t.size + 2 ∧ Cur wr p (m + 2 + 6 * (2 - k)) ∧ Only [p] w wr) (fun _ i _ => (RowKit.intOf i).toNat)
  case atStart => exact ⟨k0 + 1, t, by (first | rfl | (congr 1; omega)), rfl, by omega, by omega, C1.out.le (by omega), N1.out⟩
  case round =>
    clear C1 N1
    obtain ⟨k, x, rfl, rfl, hk2, hxs, hc, hon⟩ := hrel
    have HC := Lib.hid hc
    have HON := Lib.hid hon
    clear hc hon
    by_cases hk : 0 < k
    · have hk' : (0 : Int) < (k : Int) := by omega
      by_cases hx : 0 < x.size
      · have hx' : (0 : Int) < (x.size : Int) := by omega
        go_wp2_with fail
        with_reducible refine (pick_any p _ x.size wr HC.out (by omega) (by omega)).mono ?_
        rintro e w2 ⟨x2, rfl, ⟨lo2, hi2⟩, c2, on2⟩
        obtain ⟨i, rfl⟩ : ∃ i : Nat, x2 = (i : Int) := ⟨x2.toNat, by omega⟩
        have hix : i < x.size := by have := hi2 (by omega); omega
        have C2 := Lib.hid c2
        have N2 := Lib.hid (HON.out.trans on2)
        clear c2 on2 hi2
        go_wp2_with fail
        with_reducible refine (pick_any p _ wi.size w2 C2.out (by omega) (by omega)).mono ?_
        rintro e w3 ⟨x3, rfl, ⟨lo3, hi3⟩, c3, on3⟩
        obtain ⟨j, rfl⟩ : ∃ j : Nat, x3 = (j : Int) := ⟨x3.toNat, by omega⟩
        have hjw : j < wi.size := by have := hi3 (by omega); omega
        have C3 := Lib.hid (c3.kept ((Kept.refl w3).alloc (.cells #[.int .u8 ((wi[j]'hjw).toNat : Int)] 5)))
        have N3 := Lib.hid ((N2.out.trans on3).trans (((Kept.refl w3).alloc (.cells #[.int .u8 ((wi[j]'hjw).toNat : Int)] 5)).only [p]))
        have hcv : (convert 22 9 (.slice (some ⟨w3.heap.size, 0, none⟩) 1 1)).run Tryd.prog (w3.alloc (.cells #[.int .u8 ((wi[j]'hjw).toNat : Int)] 5)) = .ok (.string (tx [wi[j]'hjw])) (w3.alloc (.cells #[.int .u8 ((wi[j]'hjw).toNat : Int)] 5)) := conv_box (W := w3.alloc (.cells #[.int .u8 ((wi[j]'hjw).toNat : Int)] 5)) (g := w3.heap.size) (c := wi[j]'hjw) (n := ((wi[j]'hjw).toNat : Int)) (by simp) rfl
        clear c3 on3 hi3
        go_wp2_with fail
        clear hcv
        obtain ⟨w4, hw4⟩ : ∃ u : World, u = w3.alloc (.cells #[.int .u8 ((wi[j]'hjw).toNat : Int)] 5) := ⟨_, rfl⟩
        rw [← hw4] at C3 N3 ⊢
        clear hw4
        obtain ⟨y, hy⟩ : ∃ y : ByteArray, y = tx [wi[j]'hjw] := ⟨_, rfl⟩
        have hys : y.size = 1 := by rw [hy]; rfl
        rw [← hy]
        clear hy
        with_reducible refine (pick_any p _ 3 w4 C3.out (by omega) (by omega)).mono ?_
        rintro e w5 ⟨q, rfl, ⟨lo5, hi5⟩, c5, on5⟩
        have hq3 : q < 3 := hi5 (by omega)
        have C5 := Lib.hid c5
        have N5 := Lib.hid (N3.out.trans on5)
        clear c5 on5 hi5 C3 N3
        have g1 : (i : Int) ≤ (x.size : Int) := by omega
        have g2 : (i : Int) + 1 ≤ (x.size : Int) := by omega
        have e1 := ext_size x 0 i (by omega)
        have e2 := ext_size x i x.size (Nat.le_refl _)
        have e3 := ext_size x (i + 1) x.size (Nat.le_refl _)
        have A1 := Lib.hid (cat_run (x := x.extract 0 i) (y := y) rfl (by omega))
        have A2 := Lib.hid (cat_run (x := x.extract 0 i ++ y) (y := x.extract i x.size) rfl (by rw [ByteArray.size_append]; omega))
        have A3 := Lib.hid (cat_run (x := x.extract 0 i ++ y) (y := x.extract (i + 1) x.size) rfl (by rw [ByteArray.size_append]; omega))
        have A4 := Lib.hid (cat_run (x := x.extract 0 i) (y := x.extract (i + 1) x.size) rfl (by omega))
        have a1 := A1.out
        have a2 := A2.out
        have a3 := A3.out
        have a4 := A4.out
        have SZ : Hid ((x.extract 0 i ++ y ++ x.extract i x.size).size = x.size + 1 ∧ (x.extract 0 i ++ y ++ x.extract (i + 1) x.size).size = x.size ∧ (x.extract 0 i ++ x.extract (i + 1) x.size).size = x.size - 1) := Lib.hid (by simp only [ByteArray.size_append]; omega)
        clear A1 A2 A3 A4 e1 e2 e3
        by_cases q0 : q = 0
        · have tq0 : (q == 0) = true := by rw [q0]; rfl
          clear q0
          go_wp2_with fail
          go_quiet (fail)
          go_wp2_with fail
          go_roundw
          case rel => exact ⟨k - 1, _, by (first | go_num | (congr 1; omega)), rfl, by omega, by have := SZ.out.1; omega, (C5.out.kept ((Kept.refl _).drewN _)).le (by omega), N5.out.trans (((Kept.refl _).drewN _).only _)⟩
          case measure => simp [RowKit.intOf]; omega
        · have tq0 : (q == 0) = false := beq_eq_false_iff_ne.2 q0
          by_cases q1 : q = 1
          · have tq1 : (q == 1) = true := by rw [q1]; rfl
            clear q0 q1
            go_wp2_with fail
            go_quiet (fail)
            go_wp2_with fail
            go_roundw
            case rel => exact ⟨k - 1, _, by (first | go_num | (congr 1; omega)), rfl, by omega, by have := SZ.out.2.1; omega, (C5.out.kept ((Kept.refl _).drewN _)).le (by omega), N5.out.trans (((Kept.refl _).drewN _).only _)⟩
            case measure => simp [RowKit.intOf]; omega
          · have tq1 : (q == 1) = false := beq_eq_false_iff_ne.2 q1
            clear q0 q1
            go_wp2_with fail
            go_quiet (fail)
            go_wp2_with fail
            go_roundw
            case rel => exact ⟨k - 1, _, by (first | go_num | (congr 1; omega)), rfl, by omega, by have := SZ.out.2.2; omega, (C5.out.kept ((Kept.refl _).drewN _)).le (by omega), N5.out.trans (((Kept.refl _).drewN _).only _)⟩
            case measure => simp [RowKit.intOf]; omega
      · have hx' : ¬ (0 : Int) < (x.size : Int) := by omega
        go_wp2_with fail
        go_ret
        exact ⟨⟨x, rfl, by omega⟩, HC.out.le (by omega), HON.out⟩
    · have hk' : ¬ (0 : Int) < (k : Int) := by omega
      go_wp2_with fail
      go_ret
      exact ⟨⟨x, rfl, by omega⟩, HC.out.le (by omega), HON.out⟩
end Go.Proofs.YtkkdhmbkpebajaaDoor

/- Draws: texts of items. -/
namespace Go.Proofs.YtkkdhmbkpebajaaDoor
set_option linter.unusedVariables false
set_option linter.unusedSimpArgs false
set_option linter.unnecessarySimpa false
open Go.RowKit Go.Lib

def TxPost (e : Ending) (n : Nat) : Prop := ∃ s : ByteArray, s.size ≤ n ∧ e = .returned (.string s)
set_option maxRecDepth 100000 in
set_option maxHeartbeats 16000000 in
theorem drawParseItem_any (v : Value) (w : World) (h : Byts w v) :
    Calls Tryd.prog 12 #[v] w fun e w' => TxPost e 3000 ∧ Kept w w' := by
  have HB := Lib.hid h
  obtain ⟨A, n, c, rfl, _, _, _⟩ := h
  go_enter Tryd.func12, Tryd.ntmps12
  go_wp2_with fail
  obtain ⟨A', n', c', e', hnc, hcm, hb⟩ := HB.out
  cases e'
  obtain ⟨w0, hw0⟩ : ∃ x : World, x = w.alloc (.cells #[.slice A n c, .int .i64 0, .int .u64 0] 48) := ⟨_, rfl⟩
  rw [← hw0]
  have C0 : Hid (Cur w0 w.heap.size 0) := Lib.hid (hw0 ▸ Cur.init hnc hcm hb)
  have K0 : Hid (Kept w w0) := Lib.hid (hw0 ▸ (Kept.refl w).alloc _)
  have sz0 : w.heap.size < w0.heap.size := C0.out.lt
  clear hw0 hb hnc hcm
  obtain ⟨p, hp⟩ : ∃ p, p = w.heap.size := ⟨_, rfl⟩
  rw [← hp] at C0 sz0 ⊢
  have FIN : Hid (∀ w3 : World, Only [p] w0 w3 → Kept w w3) := Lib.hid (fun w3 on => on.above K0.out (fun x hx => by rw [List.mem_singleton] at hx; omega))
  have N0 : Hid (Only [p] w0 w0) := Lib.hid (Only.refl _ _)
  clear hp
  with_reducible refine (anyItem_any p _ w0 C0.out (by omega)).mono ?_
  rintro e w1 ⟨⟨v1, it, rfl, o1, ⟨_, hin, him⟩, _⟩, c1, on1⟩
  obtain ⟨nv, mv, rfl, p1, q1, nd⟩ := o1
  obtain ⟨An, cn, rfl, _⟩ := own_form p1.1
  obtain ⟨Am, cm, rfl, _⟩ := own_form q1
  have HI : Hid (ItemAt w1 (.agg #[.slice An it.names.length cn, .slice Am it.marks.length cm, .bool it.late]) it) := Lib.hid ⟨_, _, rfl, p1.strs, q1.ints⟩
  have C1 := Lib.hid c1
  have N1 := Lib.hid on1
  clear p1 q1 nd c1 on1 hin him C0 N0
  go_wp2_with fail
  obtain ⟨wb, hwb⟩ : ∃ x : World, x = w1.alloc (.cells #[.slice An it.names.length cn, .slice Am it.marks.length cm, .bool it.late] 34) := ⟨_, rfl⟩
  rw [← hwb]
  have kb : Kept w1 wb := hwb ▸ (Kept.refl w1).alloc _
  have BX : Hid (Box wb w1.heap.size 34 #[.slice An it.names.length cn, .slice Am it.marks.length cm, .bool it.late]) := Lib.hid (hwb ▸ Box.new w1 _ _ _ rfl)
  replace HI := Lib.hid (HI.out.kept kb)
  have C2 := Lib.hid (C1.out.kept kb)
  have N2 := Lib.hid (N1.out.trans (kb.only _))
  clear hwb kb C1 N1
  refine (itGood_any _ it _ HI.out).mono ?_
  rintro e w3 ⟨rfl, k3⟩
  replace HI := Lib.hid (HI.out.kept k3)
  replace BX := Lib.hid (BX.out.kept k3)
  have C3 := Lib.hid (C2.out.kept k3)
  have N3 := Lib.hid (N2.out.trans (k3.only _))
  clear k3 C2 N2
  cases hg : itemB it with
  | false =>
    clear hg HI BX
    go_wp2_with fail
    obtain ⟨wa, hwa⟩ : ∃ y : World, y = w3.alloc (.cells #[.string ⟨#[]⟩, .string ⟨#[51, 65, 32, 120]⟩, .string ⟨#[51, 65, 32, 32, 120]⟩, .string ⟨#[51, 65, 120]⟩, .string ⟨#[51, 65, 43]⟩, .string ⟨#[43, 51, 65]⟩, .string ⟨#[51, 65, 60, 101]⟩, .string ⟨#[97]⟩, .string ⟨#[51, 65, 43, 50, 84, 43, 49, 84, 43, 49, 76]⟩, .string ⟨#[51, 65, 10]⟩] 9) := ⟨_, rfl⟩
    rw [← hwa]
    have BL : Box wa w3.heap.size 9 #[.string ⟨#[]⟩, .string ⟨#[51, 65, 32, 120]⟩, .string ⟨#[51, 65, 32, 32, 120]⟩, .string ⟨#[51, 65, 120]⟩, .string ⟨#[51, 65, 43]⟩, .string ⟨#[43, 51, 65]⟩, .string ⟨#[51, 65, 60, 101]⟩, .string ⟨#[97]⟩, .string ⟨#[51, 65, 43, 50, 84, 43, 49, 84, 43, 49, 76]⟩, .string ⟨#[51, 65, 10]⟩] := hwa ▸ Box.new w3 _ _ _ rfl
    have ka : Kept w3 wa := hwa ▸ (Kept.refl w3).alloc _
    have C4 := Lib.hid (C3.out.kept ka)
    have N4 := Lib.hid (N3.out.trans (ka.only _))
    have hpd : w3.heap.size ≠ p := Nat.ne_of_gt C3.out.lt
    clear hwa ka C3 N3
    with_reducible refine (of_lit p _ w3.heap.size 10 [(⟨#[]⟩ : ByteArray), (⟨#[51, 65, 32, 120]⟩ : ByteArray), (⟨#[51, 65, 32, 32, 120]⟩ : ByteArray), (⟨#[51, 65, 120]⟩ : ByteArray), (⟨#[51, 65, 43]⟩ : ByteArray), (⟨#[43, 51, 65]⟩ : ByteArray), (⟨#[51, 65, 60, 101]⟩ : ByteArray), (⟨#[97]⟩ : ByteArray), (⟨#[51, 65, 43, 50, 84, 43, 49, 84, 43, 49, 76]⟩ : ByteArray), (⟨#[51, 65, 10]⟩ : ByteArray)] wa C4.out (by omega) BL hpd rfl (by omega) (by omega) (by decide)).mono ?_
    rintro e w5 ⟨x5, rfl, hx5, c5, on5⟩
    have HZ : Hid (x5.size ≤ 3000) := Lib.hid (by
      have : ∀ z ∈ [(⟨#[]⟩ : ByteArray), (⟨#[51, 65, 32, 120]⟩ : ByteArray), (⟨#[51, 65, 32, 32, 120]⟩ : ByteArray), (⟨#[51, 65, 120]⟩ : ByteArray), (⟨#[51, 65, 43]⟩ : ByteArray), (⟨#[43, 51, 65]⟩ : ByteArray), (⟨#[51, 65, 60, 101]⟩ : ByteArray), (⟨#[97]⟩ : ByteArray), (⟨#[51, 65, 43, 50, 84, 43, 49, 84, 43, 49, 76]⟩ : ByteArray), (⟨#[51, 65, 10]⟩ : ByteArray)], z.size ≤ 3000 := by decide
      exact this _ hx5)
    have N5 := Lib.hid (N4.out.trans on5)
    clear hx5 c5 on5
    go_wp2_with fail
    go_ret
    exact ⟨⟨_, HZ.out, rfl⟩, FIN.out _ N5.out⟩
  | true =>
    have HG := Lib.hid hg
    clear hg
    obtain ⟨x3, y3⟩ := BX.out.three
    have l3 := BX.out.lt
    go_wp2_with fail
    clear x3 y3 l3
    refine (itText_any _ it _ HI.out HG.out).mono ?_
    rintro e w4 ⟨rfl, k4⟩
    have C4 := Lib.hid (C3.out.kept k4)
    have N4 := Lib.hid (N3.out.trans (k4.only _))
    have HSZ := Lib.hid (itT_size HG.out)
    clear k4 C3 N3 BX HI HG
    generalize itT it = s at *
    go_wp2_with fail
    with_reducible refine (one_any p _ 3 w4 C4.out (by omega) (by omega)).mono ?_
    rintro e w5 ⟨b5, rfl, c5, on5⟩
    have C5 := Lib.hid c5
    have N5 := Lib.hid (N4.out.trans on5)
    clear c5 on5
    cases b5 with
    | true =>
      go_wp2_with fail
      with_reducible refine (spoilt_any p _ s ⟨#[65, 51, 60, 101, 42, 43, 32, 120]⟩ w5 C5.out (by omega) (by have := HSZ.out; omega) (by decide) (by decide)).mono ?_
      rintro e wz ⟨⟨y, rfl, hy⟩, cz, onz⟩
      have HY : Hid (y.size ≤ 3000) := Lib.hid (by have := HSZ.out; omega)
      have NZ := Lib.hid (N5.out.trans onz)
      clear hy cz onz
      go_wp2_with fail
      go_ret
      exact ⟨⟨_, HY.out, rfl⟩, FIN.out _ NZ.out⟩
    | false =>
      go_wp2_with fail
      go_ret
      exact ⟨⟨_, by have := HSZ.out; omega, rfl⟩, FIN.out _ N5.out⟩
set_option maxRecDepth 100000 in
set_option maxHeartbeats 16000000 in
theorem drawParseItems_any (v : Value) (w : World) (h : Byts w v) :
    Calls Tryd.prog 15 #[v] w fun e w' => TxPost e 1000 ∧ Kept w w' := by
  have HB := Lib.hid h
  obtain ⟨A, n, c, rfl, _, _, _⟩ := h
  go_enter Tryd.func15, Tryd.ntmps15
  go_wp2_with fail
  obtain ⟨A', n', c', e', hnc, hcm, hb⟩ := HB.out
  cases e'
  obtain ⟨w0, hw0⟩ : ∃ x : World, x = w.alloc (.cells #[.slice A n c, .int .i64 0, .int .u64 0] 48) := ⟨_, rfl⟩
  rw [← hw0]
  have C0 : Hid (Cur w0 w.heap.size 0) := Lib.hid (hw0 ▸ Cur.init hnc hcm hb)
  have K0 : Hid (Kept w w0) := Lib.hid (hw0 ▸ (Kept.refl w).alloc _)
  have sz0 : w.heap.size < w0.heap.size := C0.out.lt
  clear hw0 hb hnc hcm
  obtain ⟨p, hp⟩ : ∃ p, p = w.heap.size := ⟨_, rfl⟩
  rw [← hp] at C0 sz0 ⊢
  have FIN : Hid (∀ w3 : World, Only [p] w0 w3 → Kept w w3) := Lib.hid (fun w3 on => on.above K0.out (fun x hx => by rw [List.mem_singleton] at hx; omega))
  have N0 : Hid (Only [p] w0 w0) := Lib.hid (Only.refl _ _)
  clear hp
  with_reducible refine (anyItems_any p _ w0 C0.out (by omega)).mono ?_
  rintro e w1 ⟨⟨v1, its, cs, rfl, o1, hl⟩, c1, on1⟩
  obtain ⟨A1, cap1, rfl, _, hm1, hA1⟩ := own_form o1.2.1
  unfold maxLen at hm1
  have O1 := Lib.hid o1
  have C1 := Lib.hid c1
  have N1 := Lib.hid on1
  have HL := Lib.hid hl
  clear o1 c1 on1 hl C0 N0
  go_upto_region 3 with (fail)
  go_cut [22] (fun s22 wx => (∃ b : Bool, s22 = .bool b) ∧ Kept w1 wx)
  case first =>
    by_cases h0 : 0 < its.length
    · obtain ⟨g, rfl⟩ := hA1 h0
      have h0' : (0 : Int) < (its.length : Int) := by omega
      obtain ⟨it, nv, mv, hi, hc, on', om'⟩ := O1.out.at h0
      obtain ⟨An, cn, rfl, _⟩ := own_form on'.1
      obtain ⟨Am, cm, rfl, _⟩ := own_form om'
      obtain ⟨⟨q0, q1, q2⟩, _⟩ := ownC_cells O1.out hi hc
      rw [Nat.zero_mul] at q0 q1 q2
      rw [Nat.zero_add] at q1 q2
      have HI : Hid (ItemAt w1 (.agg #[.slice An it.names.length cn, .slice Am it.marks.length cm, .bool it.late]) it) := Lib.hid ⟨_, _, rfl, on'.strs, om'.ints⟩
      clear on' om' hi hc
      go_wp2_with fail
      refine (itGood_any _ it _ HI.out).mono ?_
      rintro e w2 ⟨rfl, k2⟩
      clear q0 q1 q2
      go_wp2_with fail
      go_meet
      exact ⟨⟨_, rfl⟩, k2⟩
    · have h0' : ¬ (0 : Int) < (its.length : Int) := by omega
      go_wp2_with fail
      go_meet
      exact ⟨⟨_, rfl⟩, Kept.refl _⟩
  case rest =>
    obtain ⟨⟨b, rfl⟩, kq⟩ := hcut
    obtain ⟨wq, hwq⟩ : ∃ y : World, y = wc := ⟨_, rfl⟩
    rw [← hwq] at kq ⊢
    clear hwq
    go_upto_if 22 with (fail)
    go_cut [4, 22] (fun s4 _ wx => ∃ (xs : List ItemD) (ds : List (Value × Value)) (Ax : Option Addr) (cx : Nat), s4 = .slice Ax xs.length cx ∧ xs.length ≤ 15 ∧ ItemsA wx Ax xs ds ∧ Kept w1 wx)
    case first =>
      cases b with
      | true =>
        go_wp2_with fail
        go_meet
        exact ⟨[], [], none, 0, rfl, by simp, (OwnC.nil0 wq 0).toA rfl, kq⟩
      | false =>
        go_wp2_with fail
        go_meet
        exact ⟨its, cs, _, _, rfl, HL.out, (O1.out.kept kq).toA rfl, kq⟩
    case rest =>
      obtain ⟨xs, ds, Ax, cx, rfl, hx, ha, kc⟩ := hcut
      have HA := Lib.hid ha
      have HX := Lib.hid hx
      have C2 := Lib.hid (C1.out.kept kc)
      have N2 := Lib.hid (N1.out.trans (kc.only _))
      clear ha kc C1 N1 O1 HL hA1
      obtain ⟨w2, hw2⟩ : ∃ y : World, y = wc := ⟨_, rfl⟩
      rw [← hw2] at C2 N2 HA ⊢
      clear hw2
      go_wp2_with fail
      go_loopw [5, 25] (fun s5 s25 wr => ∃ (k : Nat) (s : ByteArray), k ≤ xs.length ∧ s25 = .int .i64 k ∧ s5 = .string s ∧ s.size ≤ 24 * k ∧ Kept w2 wr) (fun _ i _ => xs.length - (RowKit.intOf i).toNat)
      case atStart => exact ⟨0, ⟨#[]⟩, Nat.zero_le _, rfl, rfl, Nat.zero_le _, Kept.refl _⟩
      case round =>
        obtain ⟨k, s, hk, rfl, rfl, hs, hkept⟩ := hrel
        have hx15 := HX.out
        by_cases hlt : k < xs.length
        · obtain ⟨b, o, A1, c1, A2, c2, it, rfl, hb, hi, hc, hit, q0, q1, q2⟩ := items_at (HA.out.kept hkept) hlt
          have hlt' : (k : Int) < (xs.length : Int) := by omega
          have HI := Lib.hid hit
          clear hit hi hc
          go_upto_region 9 with (fail)
          obtain ⟨wb, hwb⟩ : ∃ x : World, x = wr.alloc (.cells #[.slice A1 it.names.length c1, .slice A2 it.marks.length c2, .bool it.late] 34) := ⟨_, rfl⟩
          have kb : Kept wr wb := hwb ▸ (Kept.refl wr).alloc _
          have BX : Hid (Box wb wr.heap.size 34 #[.slice A1 it.names.length c1, .slice A2 it.marks.length c2, .bool it.late]) := Lib.hid (hwb ▸ Box.new wr _ _ _ rfl)
          replace HI := Lib.hid (HI.out.kept kb)
          have HKB := Lib.hid (hkept.trans kb)
          rw [← hwb]
          clear hwb kb q0 q1 q2 hb
          obtain ⟨x3, y3⟩ := BX.out.three
          have l3 := BX.out.lt
          go_wp2_with fail
          clear x3 y3 l3
          refine (itGood_any _ it _ HI.out).mono ?_
          rintro e w3 ⟨rfl, k3⟩
          replace HI := Lib.hid (HI.out.kept k3)
          replace BX := Lib.hid (BX.out.kept k3)
          replace HKB := Lib.hid (HKB.out.trans k3)
          clear k3
          cases hg : itemB it with
          | false =>
            clear hg
            go_wp2_with fail
            go_roundw
            case rel => exact ⟨k + 1, s, by omega, by go_num, rfl, by omega, HKB.out⟩
            case measure => simp [RowKit.intOf]; omega
          | true =>
            have HG := Lib.hid hg
            clear hg
            obtain ⟨x3, y3⟩ := BX.out.three
            have l3 := BX.out.lt
            go_wp2_with fail
            clear x3 y3 l3
            refine (itText_any _ it _ HI.out HG.out).mono ?_
            rintro e w4 ⟨rfl, k4⟩
            replace HKB := Lib.hid (HKB.out.trans k4)
            have HSZ := Lib.hid (itT_size HG.out)
            clear k4 BX HI HG
            generalize itT it = t at *
            have st := HSZ.out
            have s1 : (⟨#[10]⟩ : ByteArray).size = 1 := rfl
            have a1 := cat_run (x := t) (y := ⟨#[10]⟩) rfl (by omega)
            have a2 := cat_run (x := s) (y := t ++ ⟨#[10]⟩) rfl (by rw [ByteArray.size_append]; omega)
            go_wp2_with fail
            go_roundw
            case rel => exact ⟨k + 1, _, by omega, by go_num, rfl, by rw [ByteArray.size_append, ByteArray.size_append]; omega, HKB.out⟩
            case measure => simp [RowKit.intOf]; omega
        · have hlt' : ¬ (k : Int) < (xs.length : Int) := by omega
          have C3 := Lib.hid (C2.out.kept hkept)
          have N3 := Lib.hid (N2.out.trans (hkept.only _))
          have HSZ : Hid (s.size ≤ 400) := Lib.hid (by omega)
          clear hs hkept C2 N2
          go_wp2_with fail
          with_reducible refine (pick_any p _ 6 wr C3.out (by omega) (by omega)).mono ?_
          rintro e w5 ⟨x5, rfl, ⟨lo5, _⟩, c5, on5⟩
          have C5 := Lib.hid c5
          have N5 := Lib.hid (N3.out.trans on5)
          clear c5 on5 C3 N3
          by_cases e0 : x5 = 0
          · subst e0
            go_wp2_with fail
            with_reducible refine (spoilt_any p _ s ⟨#[65, 51, 60, 101, 42, 43, 32, 120, 10]⟩ w5 C5.out (by omega) (by have := HSZ.out; omega) (by decide) (by decide)).mono ?_
            rintro e wz ⟨⟨y, rfl, hy⟩, cz, onz⟩
            have HY : Hid (y.size ≤ 1000) := Lib.hid (by have := HSZ.out; omega)
            have NZ := Lib.hid (N5.out.trans onz)
            clear hy cz onz
            go_wp2_with fail
            go_ret
            exact ⟨⟨_, HY.out, rfl⟩, FIN.out _ NZ.out⟩
          · by_cases e1 : x5 = 1
            · subst e1
              go_wp2_with fail
              with_reducible refine (spoilt_any p _ s ⟨#[65, 51, 60, 101, 42, 43, 32, 120, 10]⟩ w5 C5.out (by omega) (by have := HSZ.out; omega) (by decide) (by decide)).mono ?_
              rintro e wz ⟨⟨y, rfl, hy⟩, cz, onz⟩
              have HY : Hid (y.size ≤ 1000) := Lib.hid (by have := HSZ.out; omega)
              have NZ := Lib.hid (N5.out.trans onz)
              clear hy cz onz
              go_wp2_with fail
              go_ret
              exact ⟨⟨_, HY.out, rfl⟩, FIN.out _ NZ.out⟩
            · by_cases e2 : x5 = 2
              · subst e2
                have hs4 := HSZ.out
                have hwr : IntKind.i64.wrap ((s.size : Int) + 1) = (s.size : Int) + 1 := IntWalk.i64_in _ (by omega)
                go_wp2_with fail
                with_reducible refine (pick_any p _ ((s.size : Int) + 1) w5 C5.out (by omega) (by omega)).mono ?_
                rintro e w6 ⟨x6, rfl, ⟨lo6, hi6⟩, c6, on6⟩
                obtain ⟨j, rfl⟩ : ∃ j : Nat, x6 = (j : Int) := ⟨x6.toNat, by omega⟩
                have hj : (j : Int) ≤ (s.size : Int) := by have := hi6 (by omega); omega
                have N6 := Lib.hid (N5.out.trans on6)
                clear c6 on6 hi6 hwr
                go_wp2_with fail
                go_ret
                exact ⟨⟨_, by rw [ByteArray.size_extract]; have := HSZ.out; omega, rfl⟩, FIN.out _ N6.out⟩
              · go_wp2_with fail
                go_ret
                exact ⟨⟨_, by have := HSZ.out; omega, rfl⟩, FIN.out _ N5.out⟩
def strOf : Value → Nat
  | .string s => s.size
  | _ => 0
set_option maxRecDepth 100000 in
set_option maxHeartbeats 16000000 in
theorem drawFirstWrong_any (v : Value) (w : World) (h : Byts w v) :
    Calls Tryd.prog 6 #[v] w fun e w' => TxPost e 2200 ∧ Kept w w' := by
  have HB := Lib.hid h
  obtain ⟨A, n, c, rfl, _, _, _⟩ := h
  go_enter Tryd.func6, Tryd.ntmps6
  go_wp2_with fail
  obtain ⟨A', n', c', e', hnc, hcm, hb⟩ := HB.out
  cases e'
  obtain ⟨w0, hw0⟩ : ∃ x : World, x = w.alloc (.cells #[.slice A n c, .int .i64 0, .int .u64 0] 48) := ⟨_, rfl⟩
  rw [← hw0]
  have C0 : Hid (Cur w0 w.heap.size 0) := Lib.hid (hw0 ▸ Cur.init hnc hcm hb)
  have K0 : Hid (Kept w w0) := Lib.hid (hw0 ▸ (Kept.refl w).alloc _)
  have sz0 : w.heap.size < w0.heap.size := C0.out.lt
  clear hw0 hb hnc hcm
  obtain ⟨p, hp⟩ : ∃ p, p = w.heap.size := ⟨_, rfl⟩
  rw [← hp] at C0 sz0 ⊢
  have FIN : Hid (∀ w3 : World, Only [p] w0 w3 → Kept w w3) := Lib.hid (fun w3 on => on.above K0.out (fun x hx => by rw [List.mem_singleton] at hx; omega))
  have N0 : Hid (Only [p] w0 w0) := Lib.hid (Only.refl _ _)
  clear hp
  with_reducible refine (drawParseItems_any _ w0 (HB.out.kept K0.out)).mono ?_
  rintro e w1 ⟨⟨s, hs, rfl⟩, k1⟩
  have C1 := Lib.hid (C0.out.kept k1)
  have N1 := Lib.hid (N0.out.trans (k1.only _))
  clear k1 C0 N0
  go_wp2_with fail
  with_reducible refine (one_any p _ 24 w1 C1.out (by omega) (by omega)).mono ?_
  rintro e w2 ⟨b2, rfl, c2, on2⟩
  have C2 := Lib.hid c2
  have N2 := Lib.hid (N1.out.trans on2)
  clear c2 on2 C1 N1
  cases b2 with
  | false =>
    go_wp2_with fail
    go_ret
    exact ⟨⟨_, by omega, rfl⟩, FIN.out _ N2.out⟩
  | true =>
    go_wp2_with fail
    with_reducible refine (pick_any p _ 2 w2 C2.out (by omega) (by omega)).mono ?_
    rintro e w3 ⟨x3, rfl, ⟨lo3, hi3⟩, c3, on3⟩
    obtain ⟨j, rfl⟩ : ∃ j : Nat, x3 = (j : Int) := ⟨x3.toNat, by omega⟩
    have hj : j < 2 := by have := hi3 (by omega); omega
    have N3 := Lib.hid (N2.out.trans on3)
    clear c3 on3 hi3 C2 N2
    have hwr : IntKind.i64.wrap (2000 + (j : Int)) = 2000 + (j : Int) := IntWalk.i64_in _ (by omega)
    go_wp2_with fail
    go_loopw [4] (fun s4 wr => ∃ t : ByteArray, s4 = .string t ∧ t.size ≤ 2100 ∧ Kept w3 wr) (fun s4 _ => 2100 - strOf s4)
    case atStart => exact ⟨s, rfl, by omega, Kept.refl _⟩
    case round =>
      obtain ⟨t, rfl, ht, hkept⟩ := hrel
      by_cases hlt : t.size < 2000 + j
      · have hlt' : (t.size : Int) < 2000 + (j : Int) := by omega
        have s1 : (⟨#[63]⟩ : ByteArray).size = 1 := rfl
        have a1 := cat_run (x := t) (y := ⟨#[63]⟩) rfl (by omega)
        have a2 : (t ++ ⟨#[63]⟩ : ByteArray).size = t.size + 1 := by rw [ByteArray.size_append]; rfl
        go_wp2_with fail
        go_roundw
        case rel => exact ⟨_, rfl, by omega, hkept⟩
        case measure => simp only [strOf]; omega
      · have hlt' : ¬ (t.size : Int) < 2000 + (j : Int) := by omega
        go_wp2_with fail
        go_ret
        exact ⟨⟨_, by omega, rfl⟩, FIN.out _ (N3.out.trans (hkept.only _))⟩
end Go.Proofs.YtkkdhmbkpebajaaDoor

/- Equal lists of names, of numbers and of items are told equal. -/
namespace Go.Proofs.YtkkdhmbkpebajaaDoor
set_option linter.unusedVariables false
set_option linter.unusedSimpArgs false
open Go.RowKit Go.Lib

theorem items_one1 {w : World} {g : Nat} {A D : Option Addr} {c d : Nat} {it : ItemD} (hB : Box w g 34 #[.slice A it.names.length c, .slice D it.marks.length d, .bool it.late])
    (hi : ItemAt w (.agg #[.slice A it.names.length c, .slice D it.marks.length d, .bool it.late]) it) : ItemsAt w (.slice (some ⟨g, 0, none⟩) 1 1) [it] := by
  obtain ⟨nv, mv, e, h1, h2⟩ := hi
  injection e with e
  have e1 := congrArg Array.toList e
  simp only [List.cons.injEq] at e1
  obtain ⟨rfl, rfl, _⟩ := e1
  have ho : w.ownsRow g 34 3 (.slice (some ⟨g, 0, none⟩) 1 1) 1 [.slice A it.names.length c, .slice D it.marks.length d, .bool it.late] := own_of_box hB (Nat.le_refl _) (Nat.le_refl _) (by decide) rfl rfl
  refine ⟨[(.slice A it.names.length c, .slice D it.marks.length d)], rfl, Seq.of_own ho, fun k nv mv x q1 q2 => ?_⟩
  cases k with
  | zero =>
    simp only [List.getElem?_cons_zero, Option.some.injEq, Prod.mk.injEq] at q1 q2
    obtain ⟨rfl, rfl⟩ := q1
    subst q2
    exact ⟨h1, h2⟩
  | succ k => simp at q1
set_option maxHeartbeats 1000000 in
theorem pSameNames_any (v1 v2 : Value) (zs : List ByteArray) (w : World) (h1 : Strs w v1 zs) (h2 : Strs w v2 zs) :
    Calls Tryd.prog 27 #[v1, v2] w fun e w' => e = .returned (.bool true) ∧ Kept w w' := by
  obtain ⟨A, c, rfl, hnc, hcm, hl⟩ := h1.1.out
  obtain ⟨A2, c2, rfl, hnc2, hcm2, hl2⟩ := h2.1.out
  unfold maxLen at hcm hcm2
  have HL := Lib.hid hl
  have HL2 := Lib.hid hl2
  clear hl h1 hl2 h2
  have hne : ((zs.length : Int) != (zs.length : Int)) = false := by simp
  go_enter Tryd.func27, Tryd.ntmps27
  go_wp2_with fail
  go_loopw [13] (fun i wr => ∃ k : Nat, k ≤ zs.length ∧ i = .int .i64 k ∧ Kept w wr) (fun i _ => zs.length - (intOf i).toNat)
  case atStart => exact ⟨0, Nat.zero_le _, rfl, Kept.refl _⟩
  case round =>
    obtain ⟨k, hk, rfl, hkept⟩ := hrel
    by_cases hlt : k < zs.length
    · obtain ⟨b, o, z, rfl, hb, hz, hc⟩ := strs_at (HL.out.kept hkept) hlt
      obtain ⟨b2, o2, z2, rfl, hb2, hz2, hc2⟩ := strs_at (HL2.out.kept hkept) hlt
      rw [hz] at hz2
      injection hz2 with hz2
      subst hz2
      have hlt' : (k : Int) < (zs.length : Int) := by omega
      clear hz
      go_wp2_with fail
      go_quiet (fail)
      go_wp2_with fail
      go_roundw
      case rel => exact ⟨k + 1, by omega, by go_num, hkept.drewN _⟩
      case measure => simp [intOf]; omega
    · go_wp2_with fail
      go_ret
      exact ⟨rfl, hkept⟩
set_option maxHeartbeats 1000000 in
theorem sameIntsT_any (v1 v2 : Value) (zs : List Int) (w : World) (h1 : Ints w v1 zs) (h2 : Ints w v2 zs) :
    Calls Tryd.prog 28 #[v1, v2] w fun e w' => e = .returned (.bool true) ∧ Kept w w' := by
  obtain ⟨A, c, rfl, hnc, hcm, hl⟩ := h1.out
  obtain ⟨A2, c2, rfl, hnc2, hcm2, hl2⟩ := h2.out
  unfold maxLen at hcm hcm2
  have HL := Lib.hid hl
  have HL2 := Lib.hid hl2
  clear hl h1 hl2 h2
  have hne : ((zs.length : Int) != (zs.length : Int)) = false := by simp
  go_enter Tryd.func28, Tryd.ntmps28
  go_wp2_with fail
  go_loopw [13] (fun i wr => ∃ k : Nat, k ≤ zs.length ∧ i = .int .i64 k ∧ Kept w wr) (fun i _ => zs.length - (intOf i).toNat)
  case atStart => exact ⟨0, Nat.zero_le _, rfl, Kept.refl _⟩
  case round =>
    obtain ⟨k, hk, rfl, hkept⟩ := hrel
    by_cases hlt : k < zs.length
    · obtain ⟨b, o, z, rfl, hb, hz, hc⟩ := ints_at (HL.out.kept hkept) hlt
      obtain ⟨b2, o2, z2, rfl, hb2, hz2, hc2⟩ := ints_at (HL2.out.kept hkept) hlt
      rw [hz] at hz2
      injection hz2 with hz2
      subst hz2
      have hlt' : (k : Int) < (zs.length : Int) := by omega
      clear hz
      go_wp2_with fail
      go_quiet (fail)
      go_wp2_with fail
      go_roundw
      case rel => exact ⟨k + 1, by omega, by go_num, hkept.drewN _⟩
      case measure => simp [intOf]; omega
    · go_wp2_with fail
      go_ret
      exact ⟨rfl, hkept⟩
set_option maxRecDepth 100000 in
set_option maxHeartbeats 4000000 in
theorem pSameItems_any (v1 v2 : Value) (its : List ItemD) (w : World) (h1 : ItemsAt w v1 its) (h2 : ItemsAt w v2 its) :
    Calls Tryd.prog 11 #[v1, v2] w fun e w' => e = .returned (.bool true) ∧ Kept w w' := by
  obtain ⟨A, c, cs, rfl, hnc, hcm, hA⟩ := h1.out
  obtain ⟨A', c', cs', rfl, hnc', hcm', hA'⟩ := h2.out
  unfold maxLen at hcm hcm'
  have HA := Lib.hid hA
  have HA' := Lib.hid hA'
  clear hA h1 hA' h2
  have hne : ((its.length : Int) != (its.length : Int)) = false := by simp
  go_enter Tryd.func11, Tryd.ntmps11
  go_wp2_with fail
  go_loopw [13] (fun i wr => ∃ k : Nat, k ≤ its.length ∧ i = .int .i64 k ∧ Kept w wr) (fun i _ => its.length - (intOf i).toNat)
  case atStart => exact ⟨0, Nat.zero_le _, rfl, Kept.refl _⟩
  case round =>
    obtain ⟨k, hk, rfl, hkept⟩ := hrel
    by_cases hlt : k < its.length
    · obtain ⟨b, o, A1, c1, A2, c2, it, rfl, hb, h2, h3, hit, q0, q1, q2⟩ := items_at (HA.out.kept hkept) hlt
      obtain ⟨b', o', A1', c1', A2', c2', it', rfl, hb', h2', h3', hit', q0', q1', q2'⟩ := items_at (HA'.out.kept hkept) hlt
      rw [h2] at h2'
      injection h2' with h2'
      subst h2'
      have S1 := Lib.hid ((HA.out.kept hkept).2.2 k _ _ _ h3 h2)
      have S2 := Lib.hid ((HA'.out.kept hkept).2.2 k _ _ _ h3' h2)
      have hlt' : (k : Int) < (its.length : Int) := by omega
      have hlate : (it.late != it.late) = false := by simp
      clear h2 h3 h3' hit hit'
      have Kd1 : Kept wr wr.drew := (Kept.refl _).drew
      have y0 := After.cell (W := wr.drew) ((Kd1.cell (p := ⟨b, o + k * 3, none⟩) hb).trans q0) hb
      have y1 := After.cell (W := wr.drew) ((Kd1.cell (p := ⟨b, o + k * 3 + 1, none⟩) hb).trans q1) hb
      have y2 := After.cell (W := wr.drew) ((Kd1.cell (p := ⟨b, o + k * 3 + 2, none⟩) hb).trans q2) hb
      have z0 := After.cell (W := wr.drew) ((Kd1.cell (p := ⟨b', o' + k * 3, none⟩) hb').trans q0') hb'
      have z1 := After.cell (W := wr.drew) ((Kd1.cell (p := ⟨b', o' + k * 3 + 1, none⟩) hb').trans q1') hb'
      have z2 := After.cell (W := wr.drew) ((Kd1.cell (p := ⟨b', o' + k * 3 + 2, none⟩) hb').trans q2') hb'
      have N1 := Lib.hid (S1.out.1.kept Kd1)
      have N2 := Lib.hid (S2.out.1.kept Kd1)
      have M1 := Lib.hid (S1.out.2.kept Kd1)
      have M2 := Lib.hid (S2.out.2.kept Kd1)
      clear q0 q1 q2 q0' q1' q2' S1 S2
      go_upto_region 6 with (fail)
      refine region_after (by kernel_rfl) (by kernel_rfl) ?_
      repeat (go_big_quiet_step ((first | (go_at_call 27; exact after_of (pSameNames_any _ _ it.names _ (N1.out.kept (After.kept _)) (N2.out.kept (After.kept _)))) | (go_at_call 28; exact after_of (sameIntsT_any _ _ it.marks _ (M1.out.kept (After.kept _)) (M2.out.kept (After.kept _)))))))
      refine wpQuiet_nil ?_
      intro wq hw'
      obtain ⟨⟨_, kq⟩, hw''⟩ := hw'
      subst hw''
      try dsimp only
      clear y0 y1 y2 z0 z1 z2
      go_wp2_with fail
      go_roundw
      case rel => exact ⟨k + 1, by omega, by go_num, (hkept.trans Kd1).trans kq⟩
      case measure => simp [intOf]; omega
    · go_wp2_with fail
      go_ret
      exact ⟨rfl, hkept⟩
end Go.Proofs.YtkkdhmbkpebajaaDoor

/- A helper of the laws: big. -/
namespace Go.Proofs.YtkkdhmbkpebajaaDoor
set_option linter.unusedVariables false
set_option linter.unusedSimpArgs false
open Go.RowKit

def BoolPost (e : Ending) : Prop := ∃ b : Bool, e = .returned (.bool b)
theorem big_any (v0 v1 : Value) (w : World) (h0 : Byts w v0) (h1 : Byts w v1) :
    Calls Tryd.prog 5 #[v0, v1] w fun e w' => BoolPost e ∧ Kept w w' := by
  obtain ⟨A, n, c, rfl, hnc, hcm, _⟩ := h0
  obtain ⟨A1, n1, c1, rfl, hnc1, hcm1, _⟩ := h1
  unfold maxLen at hcm hcm1
  go_enter Tryd.func5, Tryd.ntmps5
  go_wp2_with fail
  all_goals
    go_ret
    exact ⟨⟨_, rfl⟩, Kept.refl _⟩
end Go.Proofs.YtkkdhmbkpebajaaDoor

/- Items: ParseItem, the reference's side and the law. -/
namespace Go.Proofs.YtkkdhmbkpebajaaDoor
set_option linter.unusedVariables false
set_option linter.unusedSimpArgs false
set_option linter.unnecessarySimpa false
open Go.RowKit Go.Lib

theorem specParseItem_any (s : ByteArray) (w : World) (hs : s.size ≤ 1048576) :
    Calls Tryd.prog 14 #[.string s] w fun e w' => PiPost s w e w' := by
  have CS : Hid (∀ w0 : World, Calls Tryd.prog 37 #[.string s] w0 fun e w' => PiPost s w0 e w') := Lib.hid (fun w0 => itParse_any s w0 hs)
  go_enter Tryd.func14, Tryd.ntmps14
  go_wp2_with fail
  obtain ⟨w0, hw0⟩ : ∃ x : World, x = w.alloc (.cells #[.slice none 0 0, .slice none 0 0, .bool false] 34) := ⟨_, rfl⟩
  rw [← hw0]
  have B2 : Box w0 w.heap.size 34 #[.slice none 0 0, .slice none 0 0, .bool false] := hw0 ▸ Box.new w _ _ _ rfl
  have K0 : Kept w w0 := hw0 ▸ (Kept.refl w).alloc _
  clear hw0
  refine (CS.out _).mono ?_
  rintro e w1 ⟨v1, rfl, o1, k1⟩
  have K1 := K0.trans k1
  have sz0 := K0.size
  have hl := B2.lt
  have b2 := B2.kept k1
  obtain ⟨n1, m1, rfl, p1, q1, nd1⟩ := o1
  obtain ⟨An, cn, rfl, _⟩ := own_form p1.1
  obtain ⟨Am, cm, rfl, _⟩ := own_form q1
  have O1 : Hid (OwnT w1 w0.heap.size (.agg #[.slice An (piV s).names.length cn, .slice Am (piV s).marks.length cm, .bool (piV s).late]) (piV s)) := Lib.hid ⟨_, _, rfl, p1, q1, nd1⟩
  clear p1 q1 nd1 k1
  obtain ⟨x2, y2⟩ := b2.three
  go_wp2_with fail
  clear x2 y2
  obtain ⟨w5, hw5, B5, Q5⟩ := set3 b2 (.slice An (piV s).names.length cn) (.slice Am (piV s).marks.length cm) (.bool (piV s).late)
  rw [← hw5]
  clear hw5
  obtain ⟨cc, ff⟩ := B5.three
  refine bodyPost_ret (v := .tuple #[.agg #[.slice An (piV s).names.length cn, .slice Am (piV s).marks.length cm, .bool (piV s).late], .bool (piB s)]) (by simp [results, Tryd.results14, go_sem, cc, ff]) rfl ?_
  refine ⟨_, rfl, ?_, Q5.above K1 (by simp)⟩
  have o5 := O1.out.only Q5 (fun b hb hm => by rw [List.mem_singleton] at hm; have := (O1.out.fps b hb).1; omega)
  obtain ⟨n', m', e, h1, h2, h3⟩ := o5
  exact ⟨n', m', e, OwnS.base h1 sz0, own_base h2 sz0, h3⟩
end Go.Proofs.YtkkdhmbkpebajaaDoor

/- strings.Builder's WriteString at this program, laid by hand: two of the numbers that the structures name stand in no body of the closure here. -/
namespace Go.Proofs
set_option linter.unusedVariables false
set_option linter.unusedSimpArgs false
open Go Go.Shelf Go.RowKit
end Go.Proofs

/- Items: ItemsText, both sides and the law. -/
namespace Go.Proofs.YtkkdhmbkpebajaaDoor
set_option linter.unusedVariables false
set_option linter.unusedSimpArgs false
set_option linter.unnecessarySimpa false
open Go.RowKit Go.Lib

def lnT (its : List ItemD) (k : Nat) : List UInt8 := itsTxt (its.take k)
theorem lnT_zero (its : List ItemD) : lnT its 0 = [] := rfl
theorem lnT_succ {its : List ItemD} {k : Nat} {it : ItemD} (h : its[k]? = some it) : lnT its (k + 1) = lnT its k ++ ((itT it ++ ⟨#[10]⟩ : ByteArray)).data.toList := by
  unfold lnT itsTxt itT
  rw [take_snoc h, List.map_append, List.flatten_append]
  congr 1
  show _ ++ [] = (tx (itTxt it) ++ tx [10]).data.toList
  rw [List.append_nil, tx_app]
  rfl
theorem lnT_size {its : List ItemD} (h : ∀ it ∈ its, itemB it = true) : ∀ k, k ≤ its.length → (lnT its k).length ≤ 24 * k
  | 0, _ => Nat.le_refl 0
  | k + 1, hk => by
    have h1 : its[k]? = some its[k] := List.getElem?_eq_getElem (by omega)
    have ih := lnT_size h k (by omega)
    have hs := itT_size (h _ (List.mem_of_getElem? h1))
    rw [lnT_succ h1, List.length_append, ← size_eq, ByteArray.size_append]
    have e : (⟨#[10]⟩ : ByteArray).size = 1 := rfl
    omega
theorem lnT_all (its : List ItemD) : lnT its its.length = itsTxt its := by unfold lnT; rw [List.take_length]
def itsV (its : List ItemD) : ByteArray := if itemsB its then tx (itsTxt its) else ⟨#[]⟩
theorem itsV_yes {its : List ItemD} (h : itemsB its = true) : itsV its = tx (itsTxt its) := by unfold itsV; rw [h]; rfl
theorem itsV_no {its : List ItemD} (h : itemsB its = false) : itsV its = ⟨#[]⟩ := by unfold itsV; rw [h]; rfl
theorem tx_lnT {its : List ItemD} {k : Nat} {it : ItemD} (h : its[k]? = some it) : tx (lnT its k) ++ (itT it ++ ⟨#[10]⟩) = tx (lnT its (k + 1)) := by
  rw [lnT_succ h, ← tx_app, tx_of]
theorem isB_kept {T e : TypeId} {B b : Nat} {bs : List Value} {w w' : World} (h : IsBuilder T e B b bs w) (k : Kept w w') : IsBuilder T e B b bs w' := by
  have go : ∀ p, BuilderAt T e B b p bs w → BuilderAt T e B b p bs w' := fun p hp => by
    have hl := hp.lt
    obtain ⟨h1, v, h2, h3, h4⟩ := hp
    exact ⟨h1, v, (k.block b hl).trans h2, own_kept h3 k, h4⟩
  exact h.elim (fun x => .inl (go _ x)) (fun x => .inr (go _ x))
end Go.Proofs.YtkkdhmbkpebajaaDoor

/- Lists of items: ParseItems, the reference's side and the law. -/
namespace Go.Proofs.YtkkdhmbkpebajaaDoor
set_option linter.unusedVariables false
set_option linter.unusedSimpArgs false
set_option linter.unnecessarySimpa false
open Go.RowKit Go.Lib

theorem specParseItems_any (s : ByteArray) (w : World) (hs : s.size ≤ 1048576) :
    Calls Tryd.prog 10 #[.string s] w fun e w' => PsPost s w e w' := by
  have CS : Hid (∀ w0 : World, Calls Tryd.prog 24 #[.string s] w0 fun e w' => PsPost s w0 e w') := Lib.hid (fun w0 => itRead_any s w0 hs)
  go_enter Tryd.func10, Tryd.ntmps10
  go_wp2_with fail
  refine (CS.out _).mono ?_
  rintro e w1 ⟨v1, S1, rfl, o1, k1⟩
  have O1 := Lib.hid o1
  have K1 := Lib.hid k1
  clear o1 k1
  go_wp2_with fail
  go_ret2
  exact ⟨_, _, rfl, O1.out, K1.out⟩
theorem szp_sum (l : List Nat) (m : Nat) (h : ∀ x ∈ l, x ≤ m) : l.sum ≤ l.length * m := by
  induction l with
  | nil => simp
  | cons x t ih =>
    have h1 := h x (by simp)
    have h2 := ih (fun y hy => h y (List.mem_cons_of_mem _ hy))
    rw [List.sum_cons, List.length_cons, Nat.succ_mul]
    omega
theorem szp_item {it : ItemD} (h : itemB it = true) : it.size ≤ 21 := by
  obtain ⟨h1, _, h3, _, h5⟩ := item_of h
  unfold ItemD.size strsSize
  have h2 := szp_sum (it.names.map ByteArray.size) 5 (by
    intro x hx
    obtain ⟨z, hz, rfl⟩ := List.mem_map.1 hx
    have hn := h1 z hz
    unfold nameB at hn
    simp only [Bool.and_eq_true] at hn
    have := inB_true hn.2
    omega)
  rw [List.length_map] at h2
  omega
theorem szp_items {its : List ItemD} (h : itemsB its = true) : itemsSize its ≤ its.length * 22 := by
  unfold itemsSize
  have h2 := szp_sum (its.map ItemD.size) 21 (by
    intro x hx
    obtain ⟨it, hi, rfl⟩ := List.mem_map.1 hx
    exact szp_item ((itemsB_true h).2 it hi))
  rw [List.length_map] at h2
  omega
theorem psL_size (s : ByteArray) : itemsSize (psL s) ≤ 308 := by
  obtain ⟨h1, h2⟩ := psL_len s
  have h3 := szp_items h2
  omega
end Go.Proofs.YtkkdhmbkpebajaaDoor
