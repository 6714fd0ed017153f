/- Contracts of functions that the proof leans on. No condition. -/
import Derived.Test.YtkkdhmbkpebajaaDoorM714976e7dc
/- Reading a byte, the program's side. -/
namespace Go.Proofs.YtkkdhmbkpebajaaDoor
set_option linter.unusedVariables false
set_option linter.unusedSimpArgs false
set_option linter.unnecessarySimpa false
open Go.RowKit Go.Lib

set_option maxRecDepth 100000 in
set_option maxHeartbeats 40000000 in
theorem read_any (x : StI) (c : UInt8) (p : Nat) (w : World) (hg : GoodI x) (hb : Box w p 53 (cellsI x)) :
    Calls Tryd.prog 23 #[.pointer (some ⟨p, 0, none⟩), .int .u8 c.toNat] w fun e w' => StepPost p 53 ((stepI x c).map cellsI) w e w' := by
  obtain ⟨items, names, chars, stage⟩ := x
  obtain ⟨⟨hi0, hi14⟩, hst⟩ := hg
  simp only at hi0 hi14 hst
  have HB : Hid (Box w p 53 #[.int .i64 items, .int .i64 names, .int .i64 chars, .int .i64 stage]) := Lib.hid hb
  have hpl := hb.lt
  clear hb
  have HC : Hid (∀ w0 : World, Calls Tryd.prog 53 #[.string (tx [c])] w0 fun e w' => e = .returned (.bool (nmB c)) ∧ w0 = w') := Lib.hid (fun w0 => by
    have h := isName_any (tx [c]) w0 (by rw [tx_size]; unfold maxLen; simp)
    rw [nm_byte] at h
    exact h)
  have HNC : Hid (nmB c = true → (65 ≤ c.toNat ∧ c.toNat ≤ 90) ∨ (48 ≤ c.toNat ∧ c.toNat ≤ 57)) := Lib.hid nmB_nat
  have HCV : Hid ((convert 22 9 (.slice (some ⟨w.heap.size, 0, none⟩) 1 1)).run Tryd.prog (w.alloc (.cells #[.int .u8 (c.toNat : Int)] 5)) = .ok (.string (tx [c])) (w.alloc (.cells #[.int .u8 (c.toNat : Int)] 5))) := Lib.hid (conv_box (W := w.alloc (.cells #[.int .u8 (c.toNat : Int)] 5)) (g := w.heap.size) (c := c) (n := (c.toNat : Int)) (by simp) rfl)
  rcases hst with ⟨rfl, rfl, rfl⟩ | ⟨rfl, hn1, hn3, hc0, hc5, hi⟩ | ⟨rfl, hn1, hn3, hc1⟩ | ⟨rfl, hc1⟩ | ⟨rfl, hc1⟩
  · by_cases hn : nmB c = true
    · by_cases h14 : items < 14
      · skip
        have HF : Hid ((stepI ⟨items, 0, 0, 0⟩ c).map cellsI = some #[.int .i64 (items), .int .i64 (1), .int .i64 (1), .int .i64 (0)]) := Lib.hid (by simp [stepI, cellsI, hn, h14])
        have hC : Hid (∀ w0 : World, Calls Tryd.prog 53 #[.string (tx [c])] w0 fun e w' => e = .returned (.bool true) ∧ w0 = w') := Lib.hid (by have h := HC.out; rw [hn] at h; exact h)
        have hcv := HCV.out
        clear hn
        obtain ⟨⟨q0, q1, q2, q3⟩, f0, f1, f2, f3⟩ := HB.out.four
        go_enter Tryd.func23, Tryd.ntmps23
        go_wp2_with (go_at_call 53; refine (hC.out _).mono ?_; rintro e w' ⟨rfl, rfl⟩)
        go_ret
        exact StepPost.yes HF.out (((HB.out.setB _).setC _).alloc _) (Only.trans (by exact (((Only.refl [p] w).setCell (by simp) _).setCell (by simp) _)) (((Kept.refl _).alloc _).only _))
      · skip
        have hd : decide (items < 14) = false := decide_eq_false h14
        have HF : Hid ((stepI ⟨items, 0, 0, 0⟩ c).map cellsI = none) := Lib.hid (by simp [stepI, hn, h14])
        have hC : Hid (∀ w0 : World, Calls Tryd.prog 53 #[.string (tx [c])] w0 fun e w' => e = .returned (.bool true) ∧ w0 = w') := Lib.hid (by have h := HC.out; rw [hn] at h; exact h)
        have hcv := HCV.out
        clear hn
        obtain ⟨⟨q0, q1, q2, q3⟩, f0, f1, f2, f3⟩ := HB.out.four
        go_enter Tryd.func23, Tryd.ntmps23
        go_wp2_with (go_at_call 53; refine (hC.out _).mono ?_; rintro e w' ⟨rfl, rfl⟩)
        go_ret
        try rw [hd]
        exact StepPost.no HF.out (Only.trans (by exact (((Only.refl [p] w).setCell (by simp) _).setCell (by simp) _)) (((Kept.refl _).alloc _).only _))
    · simp only [Bool.not_eq_true] at hn
      have HF : Hid ((stepI ⟨items, 0, 0, 0⟩ c).map cellsI = none) := Lib.hid (by simp [stepI, hn])
      have hC : Hid (∀ w0 : World, Calls Tryd.prog 53 #[.string (tx [c])] w0 fun e w' => e = .returned (.bool false) ∧ w0 = w') := Lib.hid (by have h := HC.out; rw [hn] at h; exact h)
      have hcv := HCV.out
      clear hn
      obtain ⟨⟨q0, q1, q2, q3⟩, f0, f1, f2, f3⟩ := HB.out.four
      go_enter Tryd.func23, Tryd.ntmps23
      go_wp2_with (go_at_call 53; refine (hC.out _).mono ?_; rintro e w' ⟨rfl, rfl⟩)
      go_ret
      exact StepPost.no HF.out (Only.trans (by exact (Only.refl [p] w)) (((Kept.refl _).alloc _).only _))
  · have hn0 : ¬ names = 0 := by omega
    have tn0 : (names == 0) = false := int_no hn0
    by_cases hn : nmB c = true
    · by_cases h5 : chars + 1 ≤ 5
      · skip
        have HF : Hid ((stepI ⟨items, names, chars, 0⟩ c).map cellsI = some #[.int .i64 (items), .int .i64 (names), .int .i64 (chars + 1), .int .i64 (0)]) := Lib.hid (by simp [stepI, cellsI, hn, h5, hi, hn0])
        have hC : Hid (∀ w0 : World, Calls Tryd.prog 53 #[.string (tx [c])] w0 fun e w' => e = .returned (.bool true) ∧ w0 = w') := Lib.hid (by have h := HC.out; rw [hn] at h; exact h)
        have hcv := HCV.out
        clear hn hn0
        obtain ⟨⟨q0, q1, q2, q3⟩, f0, f1, f2, f3⟩ := HB.out.four
        go_enter Tryd.func23, Tryd.ntmps23
        go_wp2_with (go_at_call 53; refine (hC.out _).mono ?_; rintro e w' ⟨rfl, rfl⟩)
        go_ret
        exact StepPost.yes HF.out ((HB.out.setC _).alloc _) (Only.trans (by exact ((Only.refl [p] w).setCell (by simp) _)) (((Kept.refl _).alloc _).only _))
      · skip
        have HF : Hid ((stepI ⟨items, names, chars, 0⟩ c).map cellsI = none) := Lib.hid (by simp [stepI, hn, h5, hi, hn0])
        have hC : Hid (∀ w0 : World, Calls Tryd.prog 53 #[.string (tx [c])] w0 fun e w' => e = .returned (.bool true) ∧ w0 = w') := Lib.hid (by have h := HC.out; rw [hn] at h; exact h)
        have hcv := HCV.out
        clear hn hn0
        obtain ⟨⟨q0, q1, q2, q3⟩, f0, f1, f2, f3⟩ := HB.out.four
        go_enter Tryd.func23, Tryd.ntmps23
        go_wp2_with (go_at_call 53; refine (hC.out _).mono ?_; rintro e w' ⟨rfl, rfl⟩)
        go_ret
        exact StepPost.no HF.out (Only.trans (by exact ((Only.refl [p] w).setCell (by simp) _)) (((Kept.refl _).alloc _).only _))
    · simp only [Bool.not_eq_true] at hn
      by_cases hch : chars = 0
      case pos =>
        have tch : (chars == 0) = true := by rw [hch]; rfl
        have HF : Hid ((stepI ⟨items, names, chars, 0⟩ c).map cellsI = none) := Lib.hid (by simp [stepI, hn, hch])
        have hC : Hid (∀ w0 : World, Calls Tryd.prog 53 #[.string (tx [c])] w0 fun e w' => e = .returned (.bool false) ∧ w0 = w') := Lib.hid (by have h := HC.out; rw [hn] at h; exact h)
        have hcv := HCV.out
        clear hn hn0 hch
        obtain ⟨⟨q0, q1, q2, q3⟩, f0, f1, f2, f3⟩ := HB.out.four
        go_enter Tryd.func23, Tryd.ntmps23
        go_wp2_with (go_at_call 53; refine (hC.out _).mono ?_; rintro e w' ⟨rfl, rfl⟩)
        go_ret
        exact StepPost.no HF.out (Only.trans (by exact (Only.refl [p] w)) (((Kept.refl _).alloc _).only _))
      have tch : (chars == 0) = false := int_no hch
      by_cases hcc : c.toNat = 10
      case pos =>
        have hc : c.toNat = 10 := hcc
        have t10 : ((c.toNat : Int) == 10) = true := byte_yes (k := 10) hc
        have n60 : ¬ c.toNat = 60 := by omega
        have t60 : ((c.toNat : Int) == 60) = false := byte_no (k := 60) n60
        have n101 : ¬ c.toNat = 101 := by omega
        have t101 : ((c.toNat : Int) == 101) = false := byte_no (k := 101) n101
        have n42 : ¬ c.toNat = 42 := by omega
        have t42 : ((c.toNat : Int) == 42) = false := byte_no (k := 42) n42
        have n43 : ¬ c.toNat = 43 := by omega
        have t43 : ((c.toNat : Int) == 43) = false := byte_no (k := 43) n43
        have n32 : ¬ c.toNat = 32 := by omega
        have t32 : ((c.toNat : Int) == 32) = false := byte_no (k := 32) n32
        have n120 : ¬ c.toNat = 120 := by omega
        have t120 : ((c.toNat : Int) == 120) = false := byte_no (k := 120) n120
        have HF : Hid ((stepI ⟨items, names, chars, 0⟩ c).map cellsI = some #[.int .i64 (items + 1), .int .i64 (0), .int .i64 (0), .int .i64 (0)]) := Lib.hid (by simp [stepI, cellsI, hn, hch, hc, n60, n101, n42, n43, n32, n120])
        have hC : Hid (∀ w0 : World, Calls Tryd.prog 53 #[.string (tx [c])] w0 fun e w' => e = .returned (.bool false) ∧ w0 = w') := Lib.hid (by have h := HC.out; rw [hn] at h; exact h)
        have hcv := HCV.out
        clear hn hn0 hch n60 n101 n42 n43 n32 n120 hc hcc
        obtain ⟨⟨q0, q1, q2, q3⟩, f0, f1, f2, f3⟩ := HB.out.four
        go_enter Tryd.func23, Tryd.ntmps23
        go_wp2_with (go_at_call 53; refine (hC.out _).mono ?_; rintro e w' ⟨rfl, rfl⟩)
        go_ret
        exact StepPost.yes HF.out (((((HB.out.setA _).setB _).setC _).setD _).alloc _) (Only.trans (by exact (((((Only.refl [p] w).setCell (by simp) _).setCell (by simp) _).setCell (by simp) _).setCell (by simp) _)) (((Kept.refl _).alloc _).only _))
      have n10 := hcc
      clear hcc
      by_cases hcc : c.toNat = 32
      case pos =>
        have hc : c.toNat = 32 := hcc
        have t32 : ((c.toNat : Int) == 32) = true := byte_yes (k := 32) hc
        have n60 : ¬ c.toNat = 60 := by omega
        have t60 : ((c.toNat : Int) == 60) = false := byte_no (k := 60) n60
        have n101 : ¬ c.toNat = 101 := by omega
        have t101 : ((c.toNat : Int) == 101) = false := byte_no (k := 101) n101
        have n42 : ¬ c.toNat = 42 := by omega
        have t42 : ((c.toNat : Int) == 42) = false := byte_no (k := 42) n42
        have n43 : ¬ c.toNat = 43 := by omega
        have t43 : ((c.toNat : Int) == 43) = false := byte_no (k := 43) n43
        have n10 : ¬ c.toNat = 10 := by omega
        have t10 : ((c.toNat : Int) == 10) = false := byte_no (k := 10) n10
        have n120 : ¬ c.toNat = 120 := by omega
        have t120 : ((c.toNat : Int) == 120) = false := byte_no (k := 120) n120
        have HF : Hid ((stepI ⟨items, names, chars, 0⟩ c).map cellsI = some #[.int .i64 (items), .int .i64 (names), .int .i64 (chars), .int .i64 (2)]) := Lib.hid (by simp [stepI, cellsI, hn, hch, hc, n60, n101, n42, n43, n10, n120])
        have hC : Hid (∀ w0 : World, Calls Tryd.prog 53 #[.string (tx [c])] w0 fun e w' => e = .returned (.bool false) ∧ w0 = w') := Lib.hid (by have h := HC.out; rw [hn] at h; exact h)
        have hcv := HCV.out
        clear hn hn0 hch n60 n101 n42 n43 n10 n120 hc hcc
        obtain ⟨⟨q0, q1, q2, q3⟩, f0, f1, f2, f3⟩ := HB.out.four
        go_enter Tryd.func23, Tryd.ntmps23
        go_wp2_with (go_at_call 53; refine (hC.out _).mono ?_; rintro e w' ⟨rfl, rfl⟩)
        go_ret
        exact StepPost.yes HF.out ((HB.out.setD _).alloc _) (Only.trans (by exact ((Only.refl [p] w).setCell (by simp) _)) (((Kept.refl _).alloc _).only _))
      have n32 := hcc
      clear hcc
      by_cases hcc : c.toNat = 43
      case pos =>
        by_cases h3 : names + 1 ≤ 3
        · skip
          have hc : c.toNat = 43 := hcc
          have t43 : ((c.toNat : Int) == 43) = true := byte_yes (k := 43) hc
          have n60 : ¬ c.toNat = 60 := by omega
          have t60 : ((c.toNat : Int) == 60) = false := byte_no (k := 60) n60
          have n101 : ¬ c.toNat = 101 := by omega
          have t101 : ((c.toNat : Int) == 101) = false := byte_no (k := 101) n101
          have n42 : ¬ c.toNat = 42 := by omega
          have t42 : ((c.toNat : Int) == 42) = false := byte_no (k := 42) n42
          have n32 : ¬ c.toNat = 32 := by omega
          have t32 : ((c.toNat : Int) == 32) = false := byte_no (k := 32) n32
          have n10 : ¬ c.toNat = 10 := by omega
          have t10 : ((c.toNat : Int) == 10) = false := byte_no (k := 10) n10
          have n120 : ¬ c.toNat = 120 := by omega
          have t120 : ((c.toNat : Int) == 120) = false := byte_no (k := 120) n120
          have HF : Hid ((stepI ⟨items, names, chars, 0⟩ c).map cellsI = some #[.int .i64 (items), .int .i64 (names + 1), .int .i64 (0), .int .i64 (0)]) := Lib.hid (by simp [stepI, cellsI, hn, hch, hc, n60, n101, n42, n32, n10, n120, h3])
          have hC : Hid (∀ w0 : World, Calls Tryd.prog 53 #[.string (tx [c])] w0 fun e w' => e = .returned (.bool false) ∧ w0 = w') := Lib.hid (by have h := HC.out; rw [hn] at h; exact h)
          have hcv := HCV.out
          clear hn hn0 hch n60 n101 n42 n32 n10 n120 hc hcc
          obtain ⟨⟨q0, q1, q2, q3⟩, f0, f1, f2, f3⟩ := HB.out.four
          go_enter Tryd.func23, Tryd.ntmps23
          go_wp2_with (go_at_call 53; refine (hC.out _).mono ?_; rintro e w' ⟨rfl, rfl⟩)
          go_ret
          exact StepPost.yes HF.out ((((HB.out.setB _).setC _).setD _).alloc _) (Only.trans (by exact ((((Only.refl [p] w).setCell (by simp) _).setCell (by simp) _).setCell (by simp) _)) (((Kept.refl _).alloc _).only _))
        · skip
          have hc : c.toNat = 43 := hcc
          have t43 : ((c.toNat : Int) == 43) = true := byte_yes (k := 43) hc
          have n60 : ¬ c.toNat = 60 := by omega
          have t60 : ((c.toNat : Int) == 60) = false := byte_no (k := 60) n60
          have n101 : ¬ c.toNat = 101 := by omega
          have t101 : ((c.toNat : Int) == 101) = false := byte_no (k := 101) n101
          have n42 : ¬ c.toNat = 42 := by omega
          have t42 : ((c.toNat : Int) == 42) = false := byte_no (k := 42) n42
          have n32 : ¬ c.toNat = 32 := by omega
          have t32 : ((c.toNat : Int) == 32) = false := byte_no (k := 32) n32
          have n10 : ¬ c.toNat = 10 := by omega
          have t10 : ((c.toNat : Int) == 10) = false := byte_no (k := 10) n10
          have n120 : ¬ c.toNat = 120 := by omega
          have t120 : ((c.toNat : Int) == 120) = false := byte_no (k := 120) n120
          have hd : decide (names + 1 ≤ 3) = false := decide_eq_false h3
          have HF : Hid ((stepI ⟨items, names, chars, 0⟩ c).map cellsI = none) := Lib.hid (by simp [stepI, hn, hch, hc, n60, n101, n42, n32, n10, n120, h3])
          have hC : Hid (∀ w0 : World, Calls Tryd.prog 53 #[.string (tx [c])] w0 fun e w' => e = .returned (.bool false) ∧ w0 = w') := Lib.hid (by have h := HC.out; rw [hn] at h; exact h)
          have hcv := HCV.out
          clear hn hn0 hch n60 n101 n42 n32 n10 n120 hc hcc
          obtain ⟨⟨q0, q1, q2, q3⟩, f0, f1, f2, f3⟩ := HB.out.four
          go_enter Tryd.func23, Tryd.ntmps23
          go_wp2_with (go_at_call 53; refine (hC.out _).mono ?_; rintro e w' ⟨rfl, rfl⟩)
          go_ret
          try rw [hd]
          exact StepPost.no HF.out (Only.trans (by exact ((((Only.refl [p] w).setCell (by simp) _).setCell (by simp) _).setCell (by simp) _)) (((Kept.refl _).alloc _).only _))
      have n43 := hcc
      clear hcc
      by_cases hcc : c.toNat = 60
      case pos =>
        have hc : c.toNat = 60 := hcc
        have t60 : ((c.toNat : Int) == 60) = true := byte_yes (k := 60) hc
        have n101 : ¬ c.toNat = 101 := by omega
        have t101 : ((c.toNat : Int) == 101) = false := byte_no (k := 101) n101
        have n42 : ¬ c.toNat = 42 := by omega
        have t42 : ((c.toNat : Int) == 42) = false := byte_no (k := 42) n42
        have n43 : ¬ c.toNat = 43 := by omega
        have t43 : ((c.toNat : Int) == 43) = false := byte_no (k := 43) n43
        have n32 : ¬ c.toNat = 32 := by omega
        have t32 : ((c.toNat : Int) == 32) = false := byte_no (k := 32) n32
        have n10 : ¬ c.toNat = 10 := by omega
        have t10 : ((c.toNat : Int) == 10) = false := byte_no (k := 10) n10
        have n120 : ¬ c.toNat = 120 := by omega
        have t120 : ((c.toNat : Int) == 120) = false := byte_no (k := 120) n120
        have HF : Hid ((stepI ⟨items, names, chars, 0⟩ c).map cellsI = some #[.int .i64 (items), .int .i64 (names), .int .i64 (chars), .int .i64 (1)]) := Lib.hid (by simp [stepI, cellsI, hn, hch, hc, n101, n42, n43, n32, n10, n120])
        have hC : Hid (∀ w0 : World, Calls Tryd.prog 53 #[.string (tx [c])] w0 fun e w' => e = .returned (.bool false) ∧ w0 = w') := Lib.hid (by have h := HC.out; rw [hn] at h; exact h)
        have hcv := HCV.out
        clear hn hn0 hch n101 n42 n43 n32 n10 n120 hc hcc
        obtain ⟨⟨q0, q1, q2, q3⟩, f0, f1, f2, f3⟩ := HB.out.four
        go_enter Tryd.func23, Tryd.ntmps23
        go_wp2_with (go_at_call 53; refine (hC.out _).mono ?_; rintro e w' ⟨rfl, rfl⟩)
        go_ret
        exact StepPost.yes HF.out ((HB.out.setD _).alloc _) (Only.trans (by exact ((Only.refl [p] w).setCell (by simp) _)) (((Kept.refl _).alloc _).only _))
      have n60 := hcc
      clear hcc
      by_cases hcc : c.toNat = 101
      case pos =>
        have hc : c.toNat = 101 := hcc
        have t101 : ((c.toNat : Int) == 101) = true := byte_yes (k := 101) hc
        have n60 : ¬ c.toNat = 60 := by omega
        have t60 : ((c.toNat : Int) == 60) = false := byte_no (k := 60) n60
        have n42 : ¬ c.toNat = 42 := by omega
        have t42 : ((c.toNat : Int) == 42) = false := byte_no (k := 42) n42
        have n43 : ¬ c.toNat = 43 := by omega
        have t43 : ((c.toNat : Int) == 43) = false := byte_no (k := 43) n43
        have n32 : ¬ c.toNat = 32 := by omega
        have t32 : ((c.toNat : Int) == 32) = false := byte_no (k := 32) n32
        have n10 : ¬ c.toNat = 10 := by omega
        have t10 : ((c.toNat : Int) == 10) = false := byte_no (k := 10) n10
        have n120 : ¬ c.toNat = 120 := by omega
        have t120 : ((c.toNat : Int) == 120) = false := byte_no (k := 120) n120
        have HF : Hid ((stepI ⟨items, names, chars, 0⟩ c).map cellsI = some #[.int .i64 (items), .int .i64 (names), .int .i64 (chars), .int .i64 (1)]) := Lib.hid (by simp [stepI, cellsI, hn, hch, hc, n60, n42, n43, n32, n10, n120])
        have hC : Hid (∀ w0 : World, Calls Tryd.prog 53 #[.string (tx [c])] w0 fun e w' => e = .returned (.bool false) ∧ w0 = w') := Lib.hid (by have h := HC.out; rw [hn] at h; exact h)
        have hcv := HCV.out
        clear hn hn0 hch n60 n42 n43 n32 n10 n120 hc hcc
        obtain ⟨⟨q0, q1, q2, q3⟩, f0, f1, f2, f3⟩ := HB.out.four
        go_enter Tryd.func23, Tryd.ntmps23
        go_wp2_with (go_at_call 53; refine (hC.out _).mono ?_; rintro e w' ⟨rfl, rfl⟩)
        go_ret
        exact StepPost.yes HF.out ((HB.out.setD _).alloc _) (Only.trans (by exact ((Only.refl [p] w).setCell (by simp) _)) (((Kept.refl _).alloc _).only _))
      have n101 := hcc
      clear hcc
      by_cases hcc : c.toNat = 42
      case pos =>
        have hc : c.toNat = 42 := hcc
        have t42 : ((c.toNat : Int) == 42) = true := byte_yes (k := 42) hc
        have n60 : ¬ c.toNat = 60 := by omega
        have t60 : ((c.toNat : Int) == 60) = false := byte_no (k := 60) n60
        have n101 : ¬ c.toNat = 101 := by omega
        have t101 : ((c.toNat : Int) == 101) = false := byte_no (k := 101) n101
        have n43 : ¬ c.toNat = 43 := by omega
        have t43 : ((c.toNat : Int) == 43) = false := byte_no (k := 43) n43
        have n32 : ¬ c.toNat = 32 := by omega
        have t32 : ((c.toNat : Int) == 32) = false := byte_no (k := 32) n32
        have n10 : ¬ c.toNat = 10 := by omega
        have t10 : ((c.toNat : Int) == 10) = false := byte_no (k := 10) n10
        have n120 : ¬ c.toNat = 120 := by omega
        have t120 : ((c.toNat : Int) == 120) = false := byte_no (k := 120) n120
        have HF : Hid ((stepI ⟨items, names, chars, 0⟩ c).map cellsI = some #[.int .i64 (items), .int .i64 (names), .int .i64 (chars), .int .i64 (1)]) := Lib.hid (by simp [stepI, cellsI, hn, hch, hc, n60, n101, n43, n32, n10, n120])
        have hC : Hid (∀ w0 : World, Calls Tryd.prog 53 #[.string (tx [c])] w0 fun e w' => e = .returned (.bool false) ∧ w0 = w') := Lib.hid (by have h := HC.out; rw [hn] at h; exact h)
        have hcv := HCV.out
        clear hn hn0 hch n60 n101 n43 n32 n10 n120 hc hcc
        obtain ⟨⟨q0, q1, q2, q3⟩, f0, f1, f2, f3⟩ := HB.out.four
        go_enter Tryd.func23, Tryd.ntmps23
        go_wp2_with (go_at_call 53; refine (hC.out _).mono ?_; rintro e w' ⟨rfl, rfl⟩)
        go_ret
        exact StepPost.yes HF.out ((HB.out.setD _).alloc _) (Only.trans (by exact ((Only.refl [p] w).setCell (by simp) _)) (((Kept.refl _).alloc _).only _))
      have n42 := hcc
      clear hcc
      have t10 : ((c.toNat : Int) == 10) = false := byte_no (k := 10) n10
      have t32 : ((c.toNat : Int) == 32) = false := byte_no (k := 32) n32
      have t43 : ((c.toNat : Int) == 43) = false := byte_no (k := 43) n43
      have t60 : ((c.toNat : Int) == 60) = false := byte_no (k := 60) n60
      have t101 : ((c.toNat : Int) == 101) = false := byte_no (k := 101) n101
      have t42 : ((c.toNat : Int) == 42) = false := byte_no (k := 42) n42
      have HF : Hid ((stepI ⟨items, names, chars, 0⟩ c).map cellsI = none) := Lib.hid (by simp [stepI, hn, hch, n10, n32, n43, n60, n101, n42])
      have hC : Hid (∀ w0 : World, Calls Tryd.prog 53 #[.string (tx [c])] w0 fun e w' => e = .returned (.bool false) ∧ w0 = w') := Lib.hid (by have h := HC.out; rw [hn] at h; exact h)
      have hcv := HCV.out
      clear hn hn0 hch n10 n32 n43 n60 n101 n42
      obtain ⟨⟨q0, q1, q2, q3⟩, f0, f1, f2, f3⟩ := HB.out.four
      go_enter Tryd.func23, Tryd.ntmps23
      go_wp2_with (go_at_call 53; refine (hC.out _).mono ?_; rintro e w' ⟨rfl, rfl⟩)
      go_ret
      exact StepPost.no HF.out (Only.trans (by exact (Only.refl [p] w)) (((Kept.refl _).alloc _).only _))
  · have hch : ¬ chars = 0 := by omega
    have tch : (chars == 0) = false := int_no hch
    by_cases hcc : c.toNat = 10
    case pos =>
      have hc : c.toNat = 10 := hcc
      have t10 : ((c.toNat : Int) == 10) = true := byte_yes (k := 10) hc
      have n60 : ¬ c.toNat = 60 := by omega
      have t60 : ((c.toNat : Int) == 60) = false := byte_no (k := 60) n60
      have n101 : ¬ c.toNat = 101 := by omega
      have t101 : ((c.toNat : Int) == 101) = false := byte_no (k := 101) n101
      have n42 : ¬ c.toNat = 42 := by omega
      have t42 : ((c.toNat : Int) == 42) = false := byte_no (k := 42) n42
      have n43 : ¬ c.toNat = 43 := by omega
      have t43 : ((c.toNat : Int) == 43) = false := byte_no (k := 43) n43
      have n32 : ¬ c.toNat = 32 := by omega
      have t32 : ((c.toNat : Int) == 32) = false := byte_no (k := 32) n32
      have n120 : ¬ c.toNat = 120 := by omega
      have t120 : ((c.toNat : Int) == 120) = false := byte_no (k := 120) n120
      have HF : Hid ((stepI ⟨items, names, chars, 1⟩ c).map cellsI = some #[.int .i64 (items + 1), .int .i64 (0), .int .i64 (0), .int .i64 (0)]) := Lib.hid (by simp [stepI, cellsI, hch, hc, n60, n101, n42, n43, n32, n120])
      clear hch n60 n101 n42 n43 n32 n120 hc hcc
      obtain ⟨⟨q0, q1, q2, q3⟩, f0, f1, f2, f3⟩ := HB.out.four
      go_enter Tryd.func23, Tryd.ntmps23
      go_wp2_with fail
      go_ret
      exact StepPost.yes HF.out ((((HB.out.setA _).setB _).setC _).setD _) (((((Only.refl [p] w).setCell (by simp) _).setCell (by simp) _).setCell (by simp) _).setCell (by simp) _)
    have n10 := hcc
    clear hcc
    by_cases hcc : c.toNat = 32
    case pos =>
      have hc : c.toNat = 32 := hcc
      have t32 : ((c.toNat : Int) == 32) = true := byte_yes (k := 32) hc
      have n60 : ¬ c.toNat = 60 := by omega
      have t60 : ((c.toNat : Int) == 60) = false := byte_no (k := 60) n60
      have n101 : ¬ c.toNat = 101 := by omega
      have t101 : ((c.toNat : Int) == 101) = false := byte_no (k := 101) n101
      have n42 : ¬ c.toNat = 42 := by omega
      have t42 : ((c.toNat : Int) == 42) = false := byte_no (k := 42) n42
      have n43 : ¬ c.toNat = 43 := by omega
      have t43 : ((c.toNat : Int) == 43) = false := byte_no (k := 43) n43
      have n10 : ¬ c.toNat = 10 := by omega
      have t10 : ((c.toNat : Int) == 10) = false := byte_no (k := 10) n10
      have n120 : ¬ c.toNat = 120 := by omega
      have t120 : ((c.toNat : Int) == 120) = false := byte_no (k := 120) n120
      have HF : Hid ((stepI ⟨items, names, chars, 1⟩ c).map cellsI = some #[.int .i64 (items), .int .i64 (names), .int .i64 (chars), .int .i64 (2)]) := Lib.hid (by simp [stepI, cellsI, hch, hc, n60, n101, n42, n43, n10, n120])
      clear hch n60 n101 n42 n43 n10 n120 hc hcc
      obtain ⟨⟨q0, q1, q2, q3⟩, f0, f1, f2, f3⟩ := HB.out.four
      go_enter Tryd.func23, Tryd.ntmps23
      go_wp2_with fail
      go_ret
      exact StepPost.yes HF.out (HB.out.setD _) ((Only.refl [p] w).setCell (by simp) _)
    have n32 := hcc
    clear hcc
    by_cases hcc : c.toNat = 43
    case pos =>
      by_cases h3 : names + 1 ≤ 3
      · skip
        have hc : c.toNat = 43 := hcc
        have t43 : ((c.toNat : Int) == 43) = true := byte_yes (k := 43) hc
        have n60 : ¬ c.toNat = 60 := by omega
        have t60 : ((c.toNat : Int) == 60) = false := byte_no (k := 60) n60
        have n101 : ¬ c.toNat = 101 := by omega
        have t101 : ((c.toNat : Int) == 101) = false := byte_no (k := 101) n101
        have n42 : ¬ c.toNat = 42 := by omega
        have t42 : ((c.toNat : Int) == 42) = false := byte_no (k := 42) n42
        have n32 : ¬ c.toNat = 32 := by omega
        have t32 : ((c.toNat : Int) == 32) = false := byte_no (k := 32) n32
        have n10 : ¬ c.toNat = 10 := by omega
        have t10 : ((c.toNat : Int) == 10) = false := byte_no (k := 10) n10
        have n120 : ¬ c.toNat = 120 := by omega
        have t120 : ((c.toNat : Int) == 120) = false := byte_no (k := 120) n120
        have HF : Hid ((stepI ⟨items, names, chars, 1⟩ c).map cellsI = some #[.int .i64 (items), .int .i64 (names + 1), .int .i64 (0), .int .i64 (0)]) := Lib.hid (by simp [stepI, cellsI, hch, hc, n60, n101, n42, n32, n10, n120, h3])
        clear hch n60 n101 n42 n32 n10 n120 hc hcc
        obtain ⟨⟨q0, q1, q2, q3⟩, f0, f1, f2, f3⟩ := HB.out.four
        go_enter Tryd.func23, Tryd.ntmps23
        go_wp2_with fail
        go_ret
        exact StepPost.yes HF.out (((HB.out.setB _).setC _).setD _) ((((Only.refl [p] w).setCell (by simp) _).setCell (by simp) _).setCell (by simp) _)
      · skip
        have hc : c.toNat = 43 := hcc
        have t43 : ((c.toNat : Int) == 43) = true := byte_yes (k := 43) hc
        have n60 : ¬ c.toNat = 60 := by omega
        have t60 : ((c.toNat : Int) == 60) = false := byte_no (k := 60) n60
        have n101 : ¬ c.toNat = 101 := by omega
        have t101 : ((c.toNat : Int) == 101) = false := byte_no (k := 101) n101
        have n42 : ¬ c.toNat = 42 := by omega
        have t42 : ((c.toNat : Int) == 42) = false := byte_no (k := 42) n42
        have n32 : ¬ c.toNat = 32 := by omega
        have t32 : ((c.toNat : Int) == 32) = false := byte_no (k := 32) n32
        have n10 : ¬ c.toNat = 10 := by omega
        have t10 : ((c.toNat : Int) == 10) = false := byte_no (k := 10) n10
        have n120 : ¬ c.toNat = 120 := by omega
        have t120 : ((c.toNat : Int) == 120) = false := byte_no (k := 120) n120
        have hd : decide (names + 1 ≤ 3) = false := decide_eq_false h3
        have HF : Hid ((stepI ⟨items, names, chars, 1⟩ c).map cellsI = none) := Lib.hid (by simp [stepI, hch, hc, n60, n101, n42, n32, n10, n120, h3])
        clear hch n60 n101 n42 n32 n10 n120 hc hcc
        obtain ⟨⟨q0, q1, q2, q3⟩, f0, f1, f2, f3⟩ := HB.out.four
        go_enter Tryd.func23, Tryd.ntmps23
        go_wp2_with fail
        go_ret
        try rw [hd]
        exact StepPost.no HF.out ((((Only.refl [p] w).setCell (by simp) _).setCell (by simp) _).setCell (by simp) _)
    have n43 := hcc
    clear hcc
    by_cases hcc : c.toNat = 60
    case pos =>
      have hc : c.toNat = 60 := hcc
      have t60 : ((c.toNat : Int) == 60) = true := byte_yes (k := 60) hc
      have n101 : ¬ c.toNat = 101 := by omega
      have t101 : ((c.toNat : Int) == 101) = false := byte_no (k := 101) n101
      have n42 : ¬ c.toNat = 42 := by omega
      have t42 : ((c.toNat : Int) == 42) = false := byte_no (k := 42) n42
      have n43 : ¬ c.toNat = 43 := by omega
      have t43 : ((c.toNat : Int) == 43) = false := byte_no (k := 43) n43
      have n32 : ¬ c.toNat = 32 := by omega
      have t32 : ((c.toNat : Int) == 32) = false := byte_no (k := 32) n32
      have n10 : ¬ c.toNat = 10 := by omega
      have t10 : ((c.toNat : Int) == 10) = false := byte_no (k := 10) n10
      have n120 : ¬ c.toNat = 120 := by omega
      have t120 : ((c.toNat : Int) == 120) = false := byte_no (k := 120) n120
      have HF : Hid ((stepI ⟨items, names, chars, 1⟩ c).map cellsI = none) := Lib.hid (by simp [stepI, hch, hc, n101, n42, n43, n32, n10, n120])
      clear hch n101 n42 n43 n32 n10 n120 hc hcc
      obtain ⟨⟨q0, q1, q2, q3⟩, f0, f1, f2, f3⟩ := HB.out.four
      go_enter Tryd.func23, Tryd.ntmps23
      go_wp2_with fail
      go_ret
      exact StepPost.no HF.out ((Only.refl [p] w).setCell (by simp) _)
    have n60 := hcc
    clear hcc
    by_cases hcc : c.toNat = 101
    case pos =>
      have hc : c.toNat = 101 := hcc
      have t101 : ((c.toNat : Int) == 101) = true := byte_yes (k := 101) hc
      have n60 : ¬ c.toNat = 60 := by omega
      have t60 : ((c.toNat : Int) == 60) = false := byte_no (k := 60) n60
      have n42 : ¬ c.toNat = 42 := by omega
      have t42 : ((c.toNat : Int) == 42) = false := byte_no (k := 42) n42
      have n43 : ¬ c.toNat = 43 := by omega
      have t43 : ((c.toNat : Int) == 43) = false := byte_no (k := 43) n43
      have n32 : ¬ c.toNat = 32 := by omega
      have t32 : ((c.toNat : Int) == 32) = false := byte_no (k := 32) n32
      have n10 : ¬ c.toNat = 10 := by omega
      have t10 : ((c.toNat : Int) == 10) = false := byte_no (k := 10) n10
      have n120 : ¬ c.toNat = 120 := by omega
      have t120 : ((c.toNat : Int) == 120) = false := byte_no (k := 120) n120
      have HF : Hid ((stepI ⟨items, names, chars, 1⟩ c).map cellsI = none) := Lib.hid (by simp [stepI, hch, hc, n60, n42, n43, n32, n10, n120])
      clear hch n60 n42 n43 n32 n10 n120 hc hcc
      obtain ⟨⟨q0, q1, q2, q3⟩, f0, f1, f2, f3⟩ := HB.out.four
      go_enter Tryd.func23, Tryd.ntmps23
      go_wp2_with fail
      go_ret
      exact StepPost.no HF.out ((Only.refl [p] w).setCell (by simp) _)
    have n101 := hcc
    clear hcc
    by_cases hcc : c.toNat = 42
    case pos =>
      have hc : c.toNat = 42 := hcc
      have t42 : ((c.toNat : Int) == 42) = true := byte_yes (k := 42) hc
      have n60 : ¬ c.toNat = 60 := by omega
      have t60 : ((c.toNat : Int) == 60) = false := byte_no (k := 60) n60
      have n101 : ¬ c.toNat = 101 := by omega
      have t101 : ((c.toNat : Int) == 101) = false := byte_no (k := 101) n101
      have n43 : ¬ c.toNat = 43 := by omega
      have t43 : ((c.toNat : Int) == 43) = false := byte_no (k := 43) n43
      have n32 : ¬ c.toNat = 32 := by omega
      have t32 : ((c.toNat : Int) == 32) = false := byte_no (k := 32) n32
      have n10 : ¬ c.toNat = 10 := by omega
      have t10 : ((c.toNat : Int) == 10) = false := byte_no (k := 10) n10
      have n120 : ¬ c.toNat = 120 := by omega
      have t120 : ((c.toNat : Int) == 120) = false := byte_no (k := 120) n120
      have HF : Hid ((stepI ⟨items, names, chars, 1⟩ c).map cellsI = none) := Lib.hid (by simp [stepI, hch, hc, n60, n101, n43, n32, n10, n120])
      clear hch n60 n101 n43 n32 n10 n120 hc hcc
      obtain ⟨⟨q0, q1, q2, q3⟩, f0, f1, f2, f3⟩ := HB.out.four
      go_enter Tryd.func23, Tryd.ntmps23
      go_wp2_with fail
      go_ret
      exact StepPost.no HF.out ((Only.refl [p] w).setCell (by simp) _)
    have n42 := hcc
    clear hcc
    have t10 : ((c.toNat : Int) == 10) = false := byte_no (k := 10) n10
    have t32 : ((c.toNat : Int) == 32) = false := byte_no (k := 32) n32
    have t43 : ((c.toNat : Int) == 43) = false := byte_no (k := 43) n43
    have t60 : ((c.toNat : Int) == 60) = false := byte_no (k := 60) n60
    have t101 : ((c.toNat : Int) == 101) = false := byte_no (k := 101) n101
    have t42 : ((c.toNat : Int) == 42) = false := byte_no (k := 42) n42
    have HF : Hid ((stepI ⟨items, names, chars, 1⟩ c).map cellsI = none) := Lib.hid (by simp [stepI, hch, n10, n32, n43, n60, n101, n42])
    clear hch n10 n32 n43 n60 n101 n42
    obtain ⟨⟨q0, q1, q2, q3⟩, f0, f1, f2, f3⟩ := HB.out.four
    go_enter Tryd.func23, Tryd.ntmps23
    go_wp2_with fail
    go_ret
    exact StepPost.no HF.out (Only.refl [p] w)
  · by_cases hcc : c.toNat = 120
    · have t : ((c.toNat : Int) == 120) = true := byte_yes (k := 120) hcc
      have HF : Hid ((stepI ⟨items, names, chars, 2⟩ c).map cellsI = some #[.int .i64 (items), .int .i64 (names), .int .i64 (chars), .int .i64 (3)]) := Lib.hid (by simp [stepI, cellsI, hcc])
      clear hcc
      obtain ⟨⟨q0, q1, q2, q3⟩, f0, f1, f2, f3⟩ := HB.out.four
      go_enter Tryd.func23, Tryd.ntmps23
      go_wp2_with fail
      go_ret
      exact StepPost.yes HF.out (HB.out.setD _) ((Only.refl [p] w).setCell (by simp) _)
    · have t : ((c.toNat : Int) == 120) = false := byte_no (k := 120) hcc
      have HF : Hid ((stepI ⟨items, names, chars, 2⟩ c).map cellsI = none) := Lib.hid (by simp [stepI, hcc])
      clear hcc
      obtain ⟨⟨q0, q1, q2, q3⟩, f0, f1, f2, f3⟩ := HB.out.four
      go_enter Tryd.func23, Tryd.ntmps23
      go_wp2_with fail
      go_ret
      exact StepPost.no HF.out ((Only.refl [p] w).setCell (by simp) _)
  · have hch : ¬ chars = 0 := by omega
    have tch : (chars == 0) = false := int_no hch
    by_cases hcc : c.toNat = 10
    · have t : ((c.toNat : Int) == 10) = true := byte_yes (k := 10) hcc
      have HF : Hid ((stepI ⟨items, names, chars, 3⟩ c).map cellsI = some #[.int .i64 (items + 1), .int .i64 (0), .int .i64 (0), .int .i64 (0)]) := Lib.hid (by simp [stepI, cellsI, hcc, hch])
      clear hcc hch
      obtain ⟨⟨q0, q1, q2, q3⟩, f0, f1, f2, f3⟩ := HB.out.four
      go_enter Tryd.func23, Tryd.ntmps23
      go_wp2_with fail
      go_ret
      exact StepPost.yes HF.out ((((HB.out.setA _).setB _).setC _).setD _) (((((Only.refl [p] w).setCell (by simp) _).setCell (by simp) _).setCell (by simp) _).setCell (by simp) _)
    · have t : ((c.toNat : Int) == 10) = false := byte_no (k := 10) hcc
      have HF : Hid ((stepI ⟨items, names, chars, 3⟩ c).map cellsI = none) := Lib.hid (by simp [stepI, hcc, hch])
      clear hcc hch
      obtain ⟨⟨q0, q1, q2, q3⟩, f0, f1, f2, f3⟩ := HB.out.four
      go_enter Tryd.func23, Tryd.ntmps23
      go_wp2_with fail
      go_ret
      exact StepPost.no HF.out (Only.refl [p] w)
end Go.Proofs.YtkkdhmbkpebajaaDoor

/- FirstWrong: both sides, the law. -/
namespace Go.Proofs.YtkkdhmbkpebajaaDoor
set_option linter.unusedVariables false
set_option linter.unusedSimpArgs false
set_option linter.unnecessarySimpa false
open Go.RowKit Go.Lib

theorem Alike.goodS {x : StS} {r : StI} (h : Alike x r) : GoodS x := by
  obtain ⟨hl, lo, hi, on⟩ := h
  exact ⟨⟨by omega, by omega⟩, by omega⟩
theorem Alike.goodI {x : StS} {r : StI} (h : Alike x r) : GoodI r := by
  obtain ⟨hl, lo, hi, on⟩ := h
  exact ⟨⟨by omega, by omega⟩, by omega⟩
def fwV (s : ByteArray) : Int × Int × Bool := if psB s || decide (2000 < s.size) then (0, 0, false) else ((wrongP s.data.toList).1, (wrongP s.data.toList).2, true)
def fwE (s : ByteArray) : Ending := .returned (.tuple #[.int .i64 (fwV s).1, .int .i64 (fwV s).2.1, .bool (fwV s).2.2])
theorem fwE_no {s : ByteArray} (h : psB s = true ∨ 2000 < s.size) : Ending.returned (.tuple #[.int .i64 0, .int .i64 0, .bool false]) = fwE s := by
  unfold fwE fwV
  rcases h with h | h
  · rw [h]; rfl
  · rw [decide_eq_true h, Bool.or_true]; rfl
theorem fwE_yes {s : ByteArray} {a b : Int} (h : psB s = false) (h2 : ¬ 2000 < s.size) (e : (a, b) = wrongP s.data.toList) : Ending.returned (.tuple #[.int .i64 a, .int .i64 b, .bool true]) = fwE s := by
  unfold fwE fwV
  rw [h, decide_eq_false h2, ← e]
  rfl
def posOf (x : StS) (l : List UInt8) (p : Int × Int) : Int × Int := posS x l p
theorem pos_stop {x : StS} {l : List UInt8} {c : UInt8} {k : Nat} {p : Int × Int} (h : l[k]? = some c) (hs : stepS x c = none) : posS x (l.drop k) p = p := by
  obtain ⟨hk, e⟩ := List.getElem?_eq_some_iff.1 h
  rw [List.drop_eq_getElem_cons hk, e, posS, hs]
theorem pos_on {x x' : StS} {l : List UInt8} {c : UInt8} {k : Nat} {p : Int × Int} (h : l[k]? = some c) (hs : stepS x c = some x') : posS x (l.drop k) p = posS x' (l.drop (k + 1)) (nextP p c) := by
  obtain ⟨hk, e⟩ := List.getElem?_eq_some_iff.1 h
  rw [List.drop_eq_getElem_cons hk, e, posS, hs]
theorem pos_end {x : StS} {l : List UInt8} {k : Nat} {p : Int × Int} (h : l.length ≤ k) : posS x (l.drop k) p = p := by
  rw [List.drop_of_length_le h, posS]
theorem next_line {p q : Int} {c : UInt8} (h : c.toNat = 10) : nextP (p, q) c = (p + 1, 1) := by unfold nextP; rw [if_pos h]
theorem next_col {p q : Int} {c : UInt8} (h : ¬ c.toNat = 10) : nextP (p, q) c = (p, q + 1) := by unfold nextP; rw [if_neg h]
set_option maxRecDepth 100000 in
set_option maxHeartbeats 16000000 in
theorem specFirstWrong_any (s : ByteArray) (w : World) (hs : s.size ≤ 1048576) :
    Calls Tryd.prog 8 #[.string s] w fun e w' => e = fwE s ∧ Kept w w' := by
  have CR := Lib.hid (itRead_any s w hs)
  go_enter Tryd.func8, Tryd.ntmps8
  go_wp2_with fail
  refine (CR.out).mono ?_
  rintro e w1 ⟨v1, S1, rfl, o1, k1⟩
  clear o1
  cases hps : psB s with
  | true =>
    have HN := Lib.hid (fwE_no (.inl hps))
    clear hps
    go_wp2_with fail
    go_ret3
    exact ⟨HN.out, k1⟩
  | false =>
    have HPS := Lib.hid hps
    clear hps
    by_cases hbig : 2000 < s.size
    · have HN := Lib.hid (fwE_no (.inr hbig))
      have hbig' : (2000 : Int) < (s.size : Int) := by omega
      clear hbig
      go_wp2_with fail
      go_ret3
      exact ⟨HN.out, k1⟩
    have HBG := Lib.hid hbig
    have hbig' : ¬ (2000 : Int) < (s.size : Int) := by omega
    have hsz : s.size ≤ 2000 := by omega
    clear hbig
    go_wp2_with fail
    obtain ⟨w0, hw0⟩ : ∃ x : World, x = w1.alloc (.cells #[.int .i64 0, .int .i64 0, .int .i64 0, .int .i64 0] 57) := ⟨_, rfl⟩
    rw [← hw0]
    have B0 : Box w0 w1.heap.size 57 (cellsS ⟨0, 0, 0, 0⟩) := hw0 ▸ Box.new w1 _ _ _ rfl
    have K0 := Lib.hid (k1.trans (hw0 ▸ (Kept.refl w1).alloc _ : Kept w1 w0))
    have hgg := k1.size
    obtain ⟨p, hp⟩ : ∃ p, p = w1.heap.size := ⟨_, rfl⟩
    rw [← hp] at B0 hgg
    rw [← hp]
    clear hw0 hp k1
    have HB0 := Lib.hid B0
    clear B0
    go_loopw [8, 9, 10] (fun ln cl i wr => ∃ (k : Nat) (a b : Int) (x : StS) (r : StI), k ≤ s.size ∧ i = .int .i64 k ∧ ln = .int .i64 a ∧ cl = .int .i64 b ∧ (1 ≤ a ∧ a ≤ k + 1) ∧ (1 ≤ b ∧ b ≤ k + 1) ∧ Alike x r ∧ Box wr p 57 (cellsS x) ∧ posOf x (s.data.toList.drop k) (a, b) = wrongP s.data.toList ∧ Only [p] w0 wr) (fun _ _ i _ => s.size - (RowKit.intOf i).toNat)
    case atStart => exact ⟨0, 1, 1, ⟨0, 0, 0, 0⟩, ⟨0, 0, 0, 0⟩, Nat.zero_le _, rfl, rfl, rfl, ⟨by omega, by omega⟩, ⟨by omega, by omega⟩, alike_start, HB0.out, rfl, Only.refl _ _⟩
    case round =>
      obtain ⟨k, a, b, x, r, hk, rfl, rfl, rfl, ⟨ha1, ha2⟩, ⟨hb1, hb2⟩, hA, bx, hpos, hon⟩ := hrel
      have HA := Lib.hid hA
      have BX := Lib.hid bx
      have HP := Lib.hid hpos
      have HON := Lib.hid hon
      clear hA bx hpos hon
      by_cases hlt : k < s.size
      · have HG := Lib.hid (byte_get s k hlt)
        have HC := Lib.hid (step_any x s[k] p wr HA.out.goodS BX.out)
        have HAS := Lib.hid (alike_step HA.out s[k])
        cases hst : stepS x s[k] with
        | none =>
          have HSI : Hid (stepS x s[k] = none) := Lib.hid (by
            rcases HAS.out with ⟨e1, e2⟩ | ⟨x', r', e1, e2, _⟩
            · exact e1
            · rw [hst] at e1; cases e1)
          have C := Lib.hid ((HC.out).mono (fun e w' h => (⟨h.2.1 (by rw [HSI.out]; rfl), h.2.2⟩ : e = .returned (.bool false) ∧ Only [p] wr w')))
          have HE : Hid ((a, b) = wrongP s.data.toList) := Lib.hid (by have h := HP.out; unfold posOf at h; rw [pos_stop HG.out hst] at h; exact h)
          clear hst
          go_wp2_with fail
          with_reducible refine (C.out).mono ?_
          rintro e w2 ⟨rfl, on2⟩
          go_wp2_with fail
          go_ret3
          exact ⟨fwE_yes HPS.out HBG.out HE.out, (HON.out.trans on2).above K0.out (fun y hy => by rw [List.mem_singleton] at hy; subst hy; exact hgg)⟩
        | some x' =>
          obtain ⟨r', hr', hA'⟩ : ∃ r', stepI r s[k] = some r' ∧ Alike x' r' := by
            rcases HAS.out with ⟨e1, e2⟩ | ⟨x2, r', e1, e2, h⟩
            · rw [hst] at e1; cases e1
            · rw [hst] at e1; injection e1 with e1; subst e1; exact ⟨r', e2, h⟩
          have HA' := Lib.hid hA'
          have C := Lib.hid ((HC.out).mono (fun e w' h => (⟨(h.1 _ (by rw [hst]; rfl)).1, (h.1 _ (by rw [hst]; rfl)).2, h.2.2⟩ : e = .returned (.bool true) ∧ Box w' p 57 (cellsS x') ∧ Only [p] wr w')))
          have HP' : Hid (posOf x' (s.data.toList.drop (k + 1)) (nextP (a, b) s[k]) = wrongP s.data.toList) := Lib.hid (by have h := HP.out; unfold posOf at h; rw [pos_on HG.out hst] at h; exact h)
          clear hst hr' hA'
          by_cases hc : s[k].toNat = 10
          · have HX := Lib.hid (next_line (p := a) (q := b) hc)
            have t10 : ((s[k].toNat : Int) == 10) = true := byte_yes (k := 10) hc
            clear hc
            go_wp2_with fail
            with_reducible refine (C.out).mono ?_
            rintro e w2 ⟨rfl, b2, on2⟩
            have HB2 := Lib.hid b2
            clear b2
            go_wp2_with fail
            go_roundw
            case rel => exact ⟨k + 1, a + 1, 1, x', r', by omega, by go_num, rfl, rfl, ⟨by omega, by omega⟩, ⟨by omega, by omega⟩, HA'.out, HB2.out, by have h := HP'.out; rw [HX.out] at h; exact h, HON.out.trans on2⟩
            case measure => simp [RowKit.intOf]; omega
          · have HX := Lib.hid (next_col (p := a) (q := b) hc)
            have t10 : ((s[k].toNat : Int) == 10) = false := byte_no (k := 10) hc
            clear hc
            go_wp2_with fail
            with_reducible refine (C.out).mono ?_
            rintro e w2 ⟨rfl, b2, on2⟩
            have HB2 := Lib.hid b2
            clear b2
            go_wp2_with fail
            go_roundw
            case rel => exact ⟨k + 1, a, b + 1, x', r', by omega, by go_num, rfl, rfl, ⟨by omega, by omega⟩, ⟨by omega, by omega⟩, HA'.out, HB2.out, by have h := HP'.out; rw [HX.out] at h; exact h, HON.out.trans on2⟩
            case measure => simp [RowKit.intOf]; omega
      · have HE : Hid ((a, b) = wrongP s.data.toList) := Lib.hid (by have h := HP.out; unfold posOf at h; rw [pos_end (by rw [← size_eq]; omega)] at h; exact h)
        go_wp2_with fail
        go_ret3
        exact ⟨fwE_yes HPS.out HBG.out HE.out, HON.out.above K0.out (fun y hy => by rw [List.mem_singleton] at hy; subst hy; exact hgg)⟩
set_option maxRecDepth 100000 in
set_option maxHeartbeats 16000000 in
theorem implFirstWrong_any (s : ByteArray) (w : World) (hs : s.size ≤ 1048576) (hsg : HasSigns w) (hmx : HasMax w) :
    Calls Tryd.prog 7 #[.string s] w fun e w' => e = fwE s ∧ Kept w w' := by
  have CR := Lib.hid (implParseItems_any s w hs hsg hmx)
  clear hsg hmx
  by_cases hbig : 2000 < s.size
  · have HN := Lib.hid (fwE_no (.inr hbig))
    have hbig' : (2000 : Int) < (s.size : Int) := by omega
    clear hbig
    go_enter Tryd.func7, Tryd.ntmps7
    go_wp2_with fail
    go_ret3
    exact ⟨HN.out, Kept.refl _⟩
  have HBG := Lib.hid hbig
  have hbig' : ¬ (2000 : Int) < (s.size : Int) := by omega
  have hsz : s.size ≤ 2000 := by omega
  clear hbig
  go_enter Tryd.func7, Tryd.ntmps7
  go_wp2_with fail
  refine (CR.out).mono ?_
  rintro e w1 ⟨v1, S1, rfl, o1, k1⟩
  clear o1
  cases hps : psB s with
  | true =>
    have HN := Lib.hid (fwE_no (.inl hps))
    clear hps
    go_wp2_with fail
    go_ret3
    exact ⟨HN.out, k1⟩
  | false =>
    have HPS := Lib.hid hps
    clear hps
    go_wp2_with fail
    obtain ⟨w0, hw0⟩ : ∃ x : World, x = w1.alloc (.cells #[.int .i64 0, .int .i64 0, .int .i64 0, .int .i64 0] 53) := ⟨_, rfl⟩
    rw [← hw0]
    have B0 : Box w0 w1.heap.size 53 (cellsI ⟨0, 0, 0, 0⟩) := hw0 ▸ Box.new w1 _ _ _ rfl
    have K0 := Lib.hid (k1.trans (hw0 ▸ (Kept.refl w1).alloc _ : Kept w1 w0))
    have hgg := k1.size
    obtain ⟨p, hp⟩ : ∃ p, p = w1.heap.size := ⟨_, rfl⟩
    rw [← hp] at B0 hgg
    rw [← hp]
    clear hw0 hp k1
    have HB0 := Lib.hid B0
    clear B0
    go_loopw [8, 9, 10] (fun ln cl i wr => ∃ (k : Nat) (a b : Int) (x : StS) (r : StI), k ≤ s.size ∧ i = .int .i64 k ∧ ln = .int .i64 a ∧ cl = .int .i64 b ∧ (1 ≤ a ∧ a ≤ k + 1) ∧ (1 ≤ b ∧ b ≤ k + 1) ∧ Alike x r ∧ Box wr p 53 (cellsI r) ∧ posOf x (s.data.toList.drop k) (a, b) = wrongP s.data.toList ∧ Only [p] w0 wr) (fun _ _ i _ => s.size - (RowKit.intOf i).toNat)
    case atStart => exact ⟨0, 1, 1, ⟨0, 0, 0, 0⟩, ⟨0, 0, 0, 0⟩, Nat.zero_le _, rfl, rfl, rfl, ⟨by omega, by omega⟩, ⟨by omega, by omega⟩, alike_start, HB0.out, rfl, Only.refl _ _⟩
    case round =>
      obtain ⟨k, a, b, x, r, hk, rfl, rfl, rfl, ⟨ha1, ha2⟩, ⟨hb1, hb2⟩, hA, bx, hpos, hon⟩ := hrel
      have HA := Lib.hid hA
      have BX := Lib.hid bx
      have HP := Lib.hid hpos
      have HON := Lib.hid hon
      clear hA bx hpos hon
      by_cases hlt : k < s.size
      · have HG := Lib.hid (byte_get s k hlt)
        have HC := Lib.hid (read_any r s[k] p wr HA.out.goodI BX.out)
        have HAS := Lib.hid (alike_step HA.out s[k])
        cases hst : stepS x s[k] with
        | none =>
          have HSI : Hid (stepI r s[k] = none) := Lib.hid (by
            rcases HAS.out with ⟨e1, e2⟩ | ⟨x', r', e1, e2, _⟩
            · exact e2
            · rw [hst] at e1; cases e1)
          have C := Lib.hid ((HC.out).mono (fun e w' h => (⟨h.2.1 (by rw [HSI.out]; rfl), h.2.2⟩ : e = .returned (.bool false) ∧ Only [p] wr w')))
          have HE : Hid ((a, b) = wrongP s.data.toList) := Lib.hid (by have h := HP.out; unfold posOf at h; rw [pos_stop HG.out hst] at h; exact h)
          clear hst
          go_wp2_with fail
          with_reducible refine (C.out).mono ?_
          rintro e w2 ⟨rfl, on2⟩
          go_wp2_with fail
          go_ret3
          exact ⟨fwE_yes HPS.out HBG.out HE.out, (HON.out.trans on2).above K0.out (fun y hy => by rw [List.mem_singleton] at hy; subst hy; exact hgg)⟩
        | some x' =>
          obtain ⟨r', hr', hA'⟩ : ∃ r', stepI r s[k] = some r' ∧ Alike x' r' := by
            rcases HAS.out with ⟨e1, e2⟩ | ⟨x2, r', e1, e2, h⟩
            · rw [hst] at e1; cases e1
            · rw [hst] at e1; injection e1 with e1; subst e1; exact ⟨r', e2, h⟩
          have HA' := Lib.hid hA'
          have C := Lib.hid ((HC.out).mono (fun e w' h => (⟨(h.1 _ (by rw [hr']; rfl)).1, (h.1 _ (by rw [hr']; rfl)).2, h.2.2⟩ : e = .returned (.bool true) ∧ Box w' p 53 (cellsI r') ∧ Only [p] wr w')))
          have HP' : Hid (posOf x' (s.data.toList.drop (k + 1)) (nextP (a, b) s[k]) = wrongP s.data.toList) := Lib.hid (by have h := HP.out; unfold posOf at h; rw [pos_on HG.out hst] at h; exact h)
          clear hst hr' hA'
          by_cases hc : s[k].toNat = 10
          · have HX := Lib.hid (next_line (p := a) (q := b) hc)
            have t10 : ((s[k].toNat : Int) == 10) = true := byte_yes (k := 10) hc
            clear hc
            go_wp2_with fail
            with_reducible refine (C.out).mono ?_
            rintro e w2 ⟨rfl, b2, on2⟩
            have HB2 := Lib.hid b2
            clear b2
            go_wp2_with fail
            go_roundw
            case rel => exact ⟨k + 1, a + 1, 1, x', r', by omega, by go_num, rfl, rfl, ⟨by omega, by omega⟩, ⟨by omega, by omega⟩, HA'.out, HB2.out, by have h := HP'.out; rw [HX.out] at h; exact h, HON.out.trans on2⟩
            case measure => simp [RowKit.intOf]; omega
          · have HX := Lib.hid (next_col (p := a) (q := b) hc)
            have t10 : ((s[k].toNat : Int) == 10) = false := byte_no (k := 10) hc
            clear hc
            go_wp2_with fail
            with_reducible refine (C.out).mono ?_
            rintro e w2 ⟨rfl, b2, on2⟩
            have HB2 := Lib.hid b2
            clear b2
            go_wp2_with fail
            go_roundw
            case rel => exact ⟨k + 1, a, b + 1, x', r', by omega, by go_num, rfl, rfl, ⟨by omega, by omega⟩, ⟨by omega, by omega⟩, HA'.out, HB2.out, by have h := HP'.out; rw [HX.out] at h; exact h, HON.out.trans on2⟩
            case measure => simp [RowKit.intOf]; omega
      · have HE : Hid ((a, b) = wrongP s.data.toList) := Lib.hid (by have h := HP.out; unfold posOf at h; rw [pos_end (by rw [← size_eq]; omega)] at h; exact h)
        go_wp2_with fail
        go_ret3
        exact ⟨fwE_yes HPS.out HBG.out HE.out, HON.out.above K0.out (fun y hy => by rw [List.mem_singleton] at hy; subst hy; exact hgg)⟩
end Go.Proofs.YtkkdhmbkpebajaaDoor

/- FnWrong: what the law asks of the first wrong place, in numbers. -/
namespace Go.Proofs.YtkkdhmbkpebajaaDoor
set_option linter.unusedVariables false
set_option linter.unusedSimpArgs false
open Go.RowKit Go.Lib

/-- how many lines end within the first bytes -/
def cntNl (s : ByteArray) (j : Nat) : Nat := (s.data.toList.take j).count 10
theorem cntNl_zero (s : ByteArray) : cntNl s 0 = 0 := rfl
theorem cntNl_le (s : ByteArray) (j : Nat) : cntNl s j ≤ j := by
  unfold cntNl
  have := List.count_le_length (a := (10 : UInt8)) (l := s.data.toList.take j)
  rw [List.length_take] at this
  omega
theorem cntNl_yes {s : ByteArray} {j : Nat} (h : j < s.size) (hc : s[j].toNat = 10) : cntNl s (j + 1) = cntNl s j + 1 := by
  have := cnt_snoc_nl (byte_get s j h)
  rw [if_pos hc] at this
  exact this
theorem cntNl_no {s : ByteArray} {j : Nat} (h : j < s.size) (hc : ¬ s[j].toNat = 10) : cntNl s (j + 1) = cntNl s j := by
  have := cnt_snoc_nl (byte_get s j h)
  rw [if_neg hc] at this
  exact this
theorem ext_take (s : ByteArray) (k : Nat) : (s.extract 0 k).data.toList = s.data.toList.take k := by
  simp [ByteArray.data_extract]
/-- the first wrong place of a text: line 1 + m behind p bytes, byte 1 + q; what is before it is wrong at its end alone -/
theorem wrong_at {s : ByteArray} (h : (fwV s).2.2 = true) : psB s = false ∧ s.size ≤ 2000 ∧ ∃ p q m : Nat, p + q ≤ s.size ∧ fwV s = ((1 : Int) + (m : Int), (1 : Int) + (q : Int), true) ∧ (∀ j, j < p → cntNl s j < m) ∧ cntNl s p = m ∧
    ((fwV (s.extract 0 (p + q))).2.2 = true → fwV (s.extract 0 (p + q)) = ((1 : Int) + (m : Int), (1 : Int) + (q : Int), true)) := by
  have hv : ∀ t : ByteArray, (fwV t).2.2 = true → psB t = false ∧ t.size ≤ 2000 ∧ fwV t = ((wrongP t.data.toList).1, (wrongP t.data.toList).2, true) := by
    intro t ht
    unfold fwV at ht ⊢
    by_cases hp : psB t = true
    · rw [hp] at ht; simp at ht
    · simp only [Bool.not_eq_true] at hp
      by_cases hb : 2000 < t.size
      · rw [decide_eq_true hb, Bool.or_true] at ht; simp at ht
      · rw [hp, decide_eq_false hb]
        exact ⟨rfl, by omega, rfl⟩
  obtain ⟨h1, h2, h3⟩ := hv s h
  obtain ⟨k, P, Q, hk, e, hl, hP, hw, hw2⟩ := wrong_cut s.data.toList
  refine ⟨h1, h2, P.length, Q.length, P.count 10, ?_, ?_, ?_, ?_, ?_⟩
  · have : s.data.toList.length = s.size := (size_eq s).symm
    omega
  · rw [h3, hw]
  · intro j hj
    exact line_lt e hl hP hj
  · exact line_at e hl
  · intro h4
    obtain ⟨_, _, h5⟩ := hv _ h4
    rw [h5, ext_take, hl, hw2, hw]
end Go.Proofs.YtkkdhmbkpebajaaDoor
