/- Contracts of functions that the proof leans on. No condition. -/
import Derived.Test.YtkkdhmbkpebajaaDoorM180e324aef
import Derived.Deep.DeepCutAuto
/- The readers of a text of a list: one byte, both sides. -/
namespace Go.Proofs.YtkkdhmbkpebajaaDoor
set_option linter.unusedVariables false
set_option linter.unusedSimpArgs false
set_option linter.unnecessarySimpa false
open Go.RowKit Go.Lib

def cellsS (x : StS) : Array Value := #[.int .i64 x.at_, .int .i64 x.names, .int .i64 x.bytes, .int .i64 x.lines]
def cellsI (r : StI) : Array Value := #[.int .i64 r.items, .int .i64 r.names, .int .i64 r.chars, .int .i64 r.stage]
/-- what reading a byte leaves: the new state, or 'no' -/
def StepPost (p : Nat) (t : TypeId) (o : Option (Array Value)) (w : World) (e : Ending) (w' : World) : Prop :=
  (∀ cs, o = some cs → e = .returned (.bool true) ∧ Box w' p t cs) ∧ (o = none → e = .returned (.bool false)) ∧ Only [p] w w'
theorem StepPost.no {p : Nat} {t : TypeId} {o : Option (Array Value)} {w w' : World} (h : o = none) (k : Only [p] w w') : StepPost p t o w (.returned (.bool false)) w' :=
  ⟨fun cs e => (by rw [h] at e; cases e), fun _ => rfl, k⟩
theorem StepPost.yes {p : Nat} {t : TypeId} {o : Option (Array Value)} {cs : Array Value} {w w' : World} (h : o = some cs) (b : Box w' p t cs) (k : Only [p] w w') : StepPost p t o w (.returned (.bool true)) w' :=
  ⟨fun cs' e => (by rw [h] at e; injection e with e; exact ⟨rfl, e ▸ b⟩), fun e => (by rw [h] at e; cases e), k⟩
theorem Box.setA {w : World} {b : Nat} {t : TypeId} {x y z u : Value} (h : Box w b t #[x, y, z, u]) (v : Value) : Box (w.setCell ⟨b, 0, none⟩ v) b t #[v, y, z, u] := h.set 0 v
theorem Box.setB {w : World} {b : Nat} {t : TypeId} {x y z u : Value} (h : Box w b t #[x, y, z, u]) (v : Value) : Box (w.setCell ⟨b, 1, none⟩ v) b t #[x, v, z, u] := h.set 1 v
theorem Box.setC {w : World} {b : Nat} {t : TypeId} {x y z u : Value} (h : Box w b t #[x, y, z, u]) (v : Value) : Box (w.setCell ⟨b, 2, none⟩ v) b t #[x, y, v, u] := h.set 2 v
theorem Box.setD {w : World} {b : Nat} {t : TypeId} {x y z u : Value} (h : Box w b t #[x, y, z, u]) (v : Value) : Box (w.setCell ⟨b, 3, none⟩ v) b t #[x, y, z, v] := h.set 3 v
def GoodS (x : StS) : Prop := (0 ≤ x.lines ∧ x.lines ≤ 14) ∧ ((x.at_ = 0 ∧ 0 ≤ x.names ∧ x.names ≤ 3) ∨ (x.at_ = 1 ∧ 0 ≤ x.names ∧ x.names ≤ 3) ∨ (x.at_ = 2 ∧ 0 ≤ x.names ∧ x.names ≤ 3 ∧ 0 ≤ x.bytes ∧ x.bytes ≤ 5) ∨ (x.at_ = 3 ∧ 0 ≤ x.names ∧ x.names ≤ 3) ∨ x.at_ = 4 ∨ x.at_ = 5)
def GoodI (r : StI) : Prop := (0 ≤ r.items ∧ r.items ≤ 14) ∧ ((r.stage = 0 ∧ r.names = 0 ∧ r.chars = 0) ∨ (r.stage = 0 ∧ 1 ≤ r.names ∧ r.names ≤ 3 ∧ 0 ≤ r.chars ∧ r.chars ≤ 5 ∧ r.items < 14) ∨
  (r.stage = 1 ∧ 1 ≤ r.names ∧ r.names ≤ 3 ∧ 1 ≤ r.chars) ∨ (r.stage = 2 ∧ 1 ≤ r.chars) ∨ (r.stage = 3 ∧ 1 ≤ r.chars))
theorem byte_is (c : UInt8) (k : Nat) : (((c.toNat : Int) == (k : Int)) = true ∧ c.toNat = k) ∨ (((c.toNat : Int) == (k : Int)) = false ∧ ¬ c.toNat = k) := by
  by_cases h : c.toNat = k
  · exact .inl ⟨by rw [h]; simp, h⟩
  · exact .inr ⟨by rw [beq_eq_false_iff_ne]; omega, h⟩
theorem byte_no {c : UInt8} {k : Nat} (h : ¬ c.toNat = k) : ((c.toNat : Int) == (k : Int)) = false := by rw [beq_eq_false_iff_ne]; omega
theorem byte_yes {c : UInt8} {k : Nat} (h : c.toNat = k) : ((c.toNat : Int) == (k : Int)) = true := by rw [h]; simp
theorem int_no {a k : Int} (h : ¬ a = k) : (a == k) = false := beq_eq_false_iff_ne.2 h
theorem nm_byte (c : UInt8) : nameB (tx [c]) = nmB c := by
  unfold nameB
  rw [tx_size]
  show ([c].all nmB && inB 1 1 5) = nmB c
  have : inB 1 1 5 = true := by decide
  rw [this]
  simp
set_option maxRecDepth 100000 in
set_option maxHeartbeats 40000000 in
theorem step_any (x : StS) (c : UInt8) (p : Nat) (w : World) (hg : GoodS x) (hb : Box w p 57 (cellsS x)) :
    Calls Tryd.prog 25 #[.pointer (some ⟨p, 0, none⟩), .int .u8 c.toNat] w fun e w' => StepPost p 57 ((stepS x c).map cellsS) w e w' := by
  obtain ⟨at_, names, bytes, lines⟩ := x
  obtain ⟨⟨hl0, hl14⟩, hat⟩ := hg
  simp only at hl0 hl14 hat
  have HB : Hid (Box w p 57 #[.int .i64 at_, .int .i64 names, .int .i64 bytes, .int .i64 lines]) := Lib.hid hb
  have hpl := hb.lt
  clear hb
  have HC := Lib.hid (fun w0 => itByte_any c w0)
  have HNC : Hid (nmB c = true → (65 ≤ c.toNat ∧ c.toNat ≤ 90) ∨ (48 ≤ c.toNat ∧ c.toNat ≤ 57)) := Lib.hid nmB_nat
  rcases hat with ⟨rfl, hn0, hn3⟩ | ⟨rfl, hn0, hn3⟩ | ⟨rfl, hn0, hn3, hb0, hb5⟩ | ⟨rfl, hn0, hn3⟩ | rfl | rfl
  · by_cases hn : nmB c = true
    · by_cases h14 : lines = 14
      · have t14 : (lines == 14) = true := by rw [h14]; rfl
        have HF : Hid ((stepS ⟨0, names, bytes, lines⟩ c).map cellsS = none) := Lib.hid (by simp [stepS, hn, h14])
        have hC : Hid (∀ w0 : World, Calls Tryd.prog 54 #[.int .u8 c.toNat] w0 fun e w' => e = .returned (.bool true) ∧ w0 = w') := Lib.hid (by have h := HC.out; rw [hn] at h; exact h)
        clear hn h14
        obtain ⟨⟨q0, q1, q2, q3⟩, f0, f1, f2, f3⟩ := HB.out.four
        go_enter Tryd.func25, Tryd.ntmps25
        go_wp2_with (go_at_call 54; refine (hC.out _).mono ?_; rintro e w' ⟨rfl, rfl⟩)
        go_ret
        exact StepPost.no HF.out (Only.refl [p] w)
      · have t14 : (lines == 14) = false := int_no h14
        have HF : Hid ((stepS ⟨0, names, bytes, lines⟩ c).map cellsS = some #[.int .i64 (2), .int .i64 (names + 1), .int .i64 (1), .int .i64 (lines)]) := Lib.hid (by simp [stepS, cellsS, hn, h14])
        have hC : Hid (∀ w0 : World, Calls Tryd.prog 54 #[.int .u8 c.toNat] w0 fun e w' => e = .returned (.bool true) ∧ w0 = w') := Lib.hid (by have h := HC.out; rw [hn] at h; exact h)
        clear hn h14
        obtain ⟨⟨q0, q1, q2, q3⟩, f0, f1, f2, f3⟩ := HB.out.four
        go_enter Tryd.func25, Tryd.ntmps25
        go_wp2_with (go_at_call 54; refine (hC.out _).mono ?_; rintro e w' ⟨rfl, rfl⟩)
        go_ret
        exact StepPost.yes HF.out (((HB.out.setA _).setB _).setC _) ((((Only.refl [p] w).setCell (by simp) _).setCell (by simp) _).setCell (by simp) _)
    · simp only [Bool.not_eq_true] at hn
      have HF : Hid ((stepS ⟨0, names, bytes, lines⟩ c).map cellsS = none) := Lib.hid (by simp [stepS, hn])
      have hC : Hid (∀ w0 : World, Calls Tryd.prog 54 #[.int .u8 c.toNat] w0 fun e w' => e = .returned (.bool false) ∧ w0 = w') := Lib.hid (by have h := HC.out; rw [hn] at h; exact h)
      clear hn
      obtain ⟨⟨q0, q1, q2, q3⟩, f0, f1, f2, f3⟩ := HB.out.four
      go_enter Tryd.func25, Tryd.ntmps25
      go_wp2_with (go_at_call 54; refine (hC.out _).mono ?_; rintro e w' ⟨rfl, rfl⟩)
      go_ret
      exact StepPost.no HF.out (Only.refl [p] w)
  · by_cases hn : nmB c = true
    · skip
      have HF : Hid ((stepS ⟨1, names, bytes, lines⟩ c).map cellsS = some #[.int .i64 (2), .int .i64 (names + 1), .int .i64 (1), .int .i64 (lines)]) := Lib.hid (by simp [stepS, cellsS, hn])
      have hC : Hid (∀ w0 : World, Calls Tryd.prog 54 #[.int .u8 c.toNat] w0 fun e w' => e = .returned (.bool true) ∧ w0 = w') := Lib.hid (by have h := HC.out; rw [hn] at h; exact h)
      clear hn
      obtain ⟨⟨q0, q1, q2, q3⟩, f0, f1, f2, f3⟩ := HB.out.four
      go_enter Tryd.func25, Tryd.ntmps25
      go_wp2_with (go_at_call 54; refine (hC.out _).mono ?_; rintro e w' ⟨rfl, rfl⟩)
      go_ret
      exact StepPost.yes HF.out (((HB.out.setA _).setB _).setC _) ((((Only.refl [p] w).setCell (by simp) _).setCell (by simp) _).setCell (by simp) _)
    · simp only [Bool.not_eq_true] at hn
      have HF : Hid ((stepS ⟨1, names, bytes, lines⟩ c).map cellsS = none) := Lib.hid (by simp [stepS, hn])
      have hC : Hid (∀ w0 : World, Calls Tryd.prog 54 #[.int .u8 c.toNat] w0 fun e w' => e = .returned (.bool false) ∧ w0 = w') := Lib.hid (by have h := HC.out; rw [hn] at h; exact h)
      clear hn
      obtain ⟨⟨q0, q1, q2, q3⟩, f0, f1, f2, f3⟩ := HB.out.four
      go_enter Tryd.func25, Tryd.ntmps25
      go_wp2_with (go_at_call 54; refine (hC.out _).mono ?_; rintro e w' ⟨rfl, rfl⟩)
      go_ret
      exact StepPost.no HF.out (Only.refl [p] w)
  · by_cases hn : nmB c = true
    · by_cases h5 : bytes < 5
      · skip
        have HF : Hid ((stepS ⟨2, names, bytes, lines⟩ c).map cellsS = some #[.int .i64 (2), .int .i64 (names), .int .i64 (bytes + 1), .int .i64 (lines)]) := Lib.hid (by simp [stepS, cellsS, hn, h5])
        have hC : Hid (∀ w0 : World, Calls Tryd.prog 54 #[.int .u8 c.toNat] w0 fun e w' => e = .returned (.bool true) ∧ w0 = w') := Lib.hid (by have h := HC.out; rw [hn] at h; exact h)
        clear hn
        obtain ⟨⟨q0, q1, q2, q3⟩, f0, f1, f2, f3⟩ := HB.out.four
        go_enter Tryd.func25, Tryd.ntmps25
        go_wp2_with (go_at_call 54; refine (hC.out _).mono ?_; rintro e w' ⟨rfl, rfl⟩)
        go_ret
        exact StepPost.yes HF.out (HB.out.setC _) ((Only.refl [p] w).setCell (by simp) _)
      · have n60 : ¬ c.toNat = 60 := by have := HNC.out hn; omega
        have n101 : ¬ c.toNat = 101 := by have := HNC.out hn; omega
        have n42 : ¬ c.toNat = 42 := by have := HNC.out hn; omega
        have n43 : ¬ c.toNat = 43 := by have := HNC.out hn; omega
        have n32 : ¬ c.toNat = 32 := by have := HNC.out hn; omega
        have n10 : ¬ c.toNat = 10 := by have := HNC.out hn; omega
        have n120 : ¬ c.toNat = 120 := by have := HNC.out hn; omega
        have t60 : ((c.toNat : Int) == 60) = false := byte_no (k := 60) n60
        have t101 : ((c.toNat : Int) == 101) = false := byte_no (k := 101) n101
        have t42 : ((c.toNat : Int) == 42) = false := byte_no (k := 42) n42
        have t43 : ((c.toNat : Int) == 43) = false := byte_no (k := 43) n43
        have t32 : ((c.toNat : Int) == 32) = false := byte_no (k := 32) n32
        have t10 : ((c.toNat : Int) == 10) = false := byte_no (k := 10) n10
        have t120 : ((c.toNat : Int) == 120) = false := byte_no (k := 120) n120
        have HF : Hid ((stepS ⟨2, names, bytes, lines⟩ c).map cellsS = none) := Lib.hid (by simp [stepS, hn, h5, n60, n101, n42, n43, n32, n10])
        have hC : Hid (∀ w0 : World, Calls Tryd.prog 54 #[.int .u8 c.toNat] w0 fun e w' => e = .returned (.bool true) ∧ w0 = w') := Lib.hid (by have h := HC.out; rw [hn] at h; exact h)
        clear hn n60 n101 n42 n43 n32 n10 n120
        obtain ⟨⟨q0, q1, q2, q3⟩, f0, f1, f2, f3⟩ := HB.out.four
        go_enter Tryd.func25, Tryd.ntmps25
        go_wp2_with (go_at_call 54; refine (hC.out _).mono ?_; rintro e w' ⟨rfl, rfl⟩)
        go_ret
        exact StepPost.no HF.out (Only.refl [p] w)
    · simp only [Bool.not_eq_true] at hn
      by_cases hcc : c.toNat = 60
      case pos =>
        have hc : c.toNat = 60 := hcc
        have t60 : ((c.toNat : Int) == 60) = true := byte_yes (k := 60) hc
        have n101 : ¬ c.toNat = 101 := by omega
        have t101 : ((c.toNat : Int) == 101) = false := byte_no (k := 101) n101
        have n42 : ¬ c.toNat = 42 := by omega
        have t42 : ((c.toNat : Int) == 42) = false := byte_no (k := 42) n42
        have n43 : ¬ c.toNat = 43 := by omega
        have t43 : ((c.toNat : Int) == 43) = false := byte_no (k := 43) n43
        have n32 : ¬ c.toNat = 32 := by omega
        have t32 : ((c.toNat : Int) == 32) = false := byte_no (k := 32) n32
        have n10 : ¬ c.toNat = 10 := by omega
        have t10 : ((c.toNat : Int) == 10) = false := byte_no (k := 10) n10
        have n120 : ¬ c.toNat = 120 := by omega
        have t120 : ((c.toNat : Int) == 120) = false := byte_no (k := 120) n120
        have HF : Hid ((stepS ⟨2, names, bytes, lines⟩ c).map cellsS = some #[.int .i64 (3), .int .i64 (names), .int .i64 (bytes), .int .i64 (lines)]) := Lib.hid (by simp [stepS, cellsS, hn, hc])
        have hC : Hid (∀ w0 : World, Calls Tryd.prog 54 #[.int .u8 c.toNat] w0 fun e w' => e = .returned (.bool false) ∧ w0 = w') := Lib.hid (by have h := HC.out; rw [hn] at h; exact h)
        clear hn n101 n42 n43 n32 n10 n120 hc hcc
        obtain ⟨⟨q0, q1, q2, q3⟩, f0, f1, f2, f3⟩ := HB.out.four
        go_enter Tryd.func25, Tryd.ntmps25
        go_wp2_with (go_at_call 54; refine (hC.out _).mono ?_; rintro e w' ⟨rfl, rfl⟩)
        go_ret
        exact StepPost.yes HF.out (HB.out.setA _) ((Only.refl [p] w).setCell (by simp) _)
      have n60 := hcc
      clear hcc
      by_cases hcc : c.toNat = 101
      case pos =>
        have hc : c.toNat = 101 := hcc
        have t101 : ((c.toNat : Int) == 101) = true := byte_yes (k := 101) hc
        have n60 : ¬ c.toNat = 60 := by omega
        have t60 : ((c.toNat : Int) == 60) = false := byte_no (k := 60) n60
        have n42 : ¬ c.toNat = 42 := by omega
        have t42 : ((c.toNat : Int) == 42) = false := byte_no (k := 42) n42
        have n43 : ¬ c.toNat = 43 := by omega
        have t43 : ((c.toNat : Int) == 43) = false := byte_no (k := 43) n43
        have n32 : ¬ c.toNat = 32 := by omega
        have t32 : ((c.toNat : Int) == 32) = false := byte_no (k := 32) n32
        have n10 : ¬ c.toNat = 10 := by omega
        have t10 : ((c.toNat : Int) == 10) = false := byte_no (k := 10) n10
        have n120 : ¬ c.toNat = 120 := by omega
        have t120 : ((c.toNat : Int) == 120) = false := byte_no (k := 120) n120
        have HF : Hid ((stepS ⟨2, names, bytes, lines⟩ c).map cellsS = some #[.int .i64 (3), .int .i64 (names), .int .i64 (bytes), .int .i64 (lines)]) := Lib.hid (by simp [stepS, cellsS, hn, hc])
        have hC : Hid (∀ w0 : World, Calls Tryd.prog 54 #[.int .u8 c.toNat] w0 fun e w' => e = .returned (.bool false) ∧ w0 = w') := Lib.hid (by have h := HC.out; rw [hn] at h; exact h)
        clear hn n60 n42 n43 n32 n10 n120 hc hcc
        obtain ⟨⟨q0, q1, q2, q3⟩, f0, f1, f2, f3⟩ := HB.out.four
        go_enter Tryd.func25, Tryd.ntmps25
        go_wp2_with (go_at_call 54; refine (hC.out _).mono ?_; rintro e w' ⟨rfl, rfl⟩)
        go_ret
        exact StepPost.yes HF.out (HB.out.setA _) ((Only.refl [p] w).setCell (by simp) _)
      have n101 := hcc
      clear hcc
      by_cases hcc : c.toNat = 42
      case pos =>
        have hc : c.toNat = 42 := hcc
        have t42 : ((c.toNat : Int) == 42) = true := byte_yes (k := 42) hc
        have n60 : ¬ c.toNat = 60 := by omega
        have t60 : ((c.toNat : Int) == 60) = false := byte_no (k := 60) n60
        have n101 : ¬ c.toNat = 101 := by omega
        have t101 : ((c.toNat : Int) == 101) = false := byte_no (k := 101) n101
        have n43 : ¬ c.toNat = 43 := by omega
        have t43 : ((c.toNat : Int) == 43) = false := byte_no (k := 43) n43
        have n32 : ¬ c.toNat = 32 := by omega
        have t32 : ((c.toNat : Int) == 32) = false := byte_no (k := 32) n32
        have n10 : ¬ c.toNat = 10 := by omega
        have t10 : ((c.toNat : Int) == 10) = false := byte_no (k := 10) n10
        have n120 : ¬ c.toNat = 120 := by omega
        have t120 : ((c.toNat : Int) == 120) = false := byte_no (k := 120) n120
        have HF : Hid ((stepS ⟨2, names, bytes, lines⟩ c).map cellsS = some #[.int .i64 (3), .int .i64 (names), .int .i64 (bytes), .int .i64 (lines)]) := Lib.hid (by simp [stepS, cellsS, hn, hc])
        have hC : Hid (∀ w0 : World, Calls Tryd.prog 54 #[.int .u8 c.toNat] w0 fun e w' => e = .returned (.bool false) ∧ w0 = w') := Lib.hid (by have h := HC.out; rw [hn] at h; exact h)
        clear hn n60 n101 n43 n32 n10 n120 hc hcc
        obtain ⟨⟨q0, q1, q2, q3⟩, f0, f1, f2, f3⟩ := HB.out.four
        go_enter Tryd.func25, Tryd.ntmps25
        go_wp2_with (go_at_call 54; refine (hC.out _).mono ?_; rintro e w' ⟨rfl, rfl⟩)
        go_ret
        exact StepPost.yes HF.out (HB.out.setA _) ((Only.refl [p] w).setCell (by simp) _)
      have n42 := hcc
      clear hcc
      by_cases hcc : c.toNat = 43
      case pos =>
        by_cases h3 : names < 3
        · skip
          have hc : c.toNat = 43 := hcc
          have t43 : ((c.toNat : Int) == 43) = true := byte_yes (k := 43) hc
          have n60 : ¬ c.toNat = 60 := by omega
          have t60 : ((c.toNat : Int) == 60) = false := byte_no (k := 60) n60
          have n101 : ¬ c.toNat = 101 := by omega
          have t101 : ((c.toNat : Int) == 101) = false := byte_no (k := 101) n101
          have n42 : ¬ c.toNat = 42 := by omega
          have t42 : ((c.toNat : Int) == 42) = false := byte_no (k := 42) n42
          have n32 : ¬ c.toNat = 32 := by omega
          have t32 : ((c.toNat : Int) == 32) = false := byte_no (k := 32) n32
          have n10 : ¬ c.toNat = 10 := by omega
          have t10 : ((c.toNat : Int) == 10) = false := byte_no (k := 10) n10
          have n120 : ¬ c.toNat = 120 := by omega
          have t120 : ((c.toNat : Int) == 120) = false := byte_no (k := 120) n120
          have HF : Hid ((stepS ⟨2, names, bytes, lines⟩ c).map cellsS = some #[.int .i64 (1), .int .i64 (names), .int .i64 (bytes), .int .i64 (lines)]) := Lib.hid (by simp [stepS, cellsS, hn, hc, h3])
          have hC : Hid (∀ w0 : World, Calls Tryd.prog 54 #[.int .u8 c.toNat] w0 fun e w' => e = .returned (.bool false) ∧ w0 = w') := Lib.hid (by have h := HC.out; rw [hn] at h; exact h)
          clear hn n60 n101 n42 n32 n10 n120 hc hcc
          obtain ⟨⟨q0, q1, q2, q3⟩, f0, f1, f2, f3⟩ := HB.out.four
          go_enter Tryd.func25, Tryd.ntmps25
          go_wp2_with (go_at_call 54; refine (hC.out _).mono ?_; rintro e w' ⟨rfl, rfl⟩)
          go_ret
          exact StepPost.yes HF.out (HB.out.setA _) ((Only.refl [p] w).setCell (by simp) _)
        · skip
          have hc : c.toNat = 43 := hcc
          have t43 : ((c.toNat : Int) == 43) = true := byte_yes (k := 43) hc
          have n60 : ¬ c.toNat = 60 := by omega
          have t60 : ((c.toNat : Int) == 60) = false := byte_no (k := 60) n60
          have n101 : ¬ c.toNat = 101 := by omega
          have t101 : ((c.toNat : Int) == 101) = false := byte_no (k := 101) n101
          have n42 : ¬ c.toNat = 42 := by omega
          have t42 : ((c.toNat : Int) == 42) = false := byte_no (k := 42) n42
          have n32 : ¬ c.toNat = 32 := by omega
          have t32 : ((c.toNat : Int) == 32) = false := byte_no (k := 32) n32
          have n10 : ¬ c.toNat = 10 := by omega
          have t10 : ((c.toNat : Int) == 10) = false := byte_no (k := 10) n10
          have n120 : ¬ c.toNat = 120 := by omega
          have t120 : ((c.toNat : Int) == 120) = false := byte_no (k := 120) n120
          have HF : Hid ((stepS ⟨2, names, bytes, lines⟩ c).map cellsS = none) := Lib.hid (by simp [stepS, hn, hc, h3])
          have hC : Hid (∀ w0 : World, Calls Tryd.prog 54 #[.int .u8 c.toNat] w0 fun e w' => e = .returned (.bool false) ∧ w0 = w') := Lib.hid (by have h := HC.out; rw [hn] at h; exact h)
          clear hn n60 n101 n42 n32 n10 n120 hc hcc
          obtain ⟨⟨q0, q1, q2, q3⟩, f0, f1, f2, f3⟩ := HB.out.four
          go_enter Tryd.func25, Tryd.ntmps25
          go_wp2_with (go_at_call 54; refine (hC.out _).mono ?_; rintro e w' ⟨rfl, rfl⟩)
          go_ret
          exact StepPost.no HF.out (Only.refl [p] w)
      have n43 := hcc
      clear hcc
      by_cases hcc : c.toNat = 32
      case pos =>
        have hc : c.toNat = 32 := hcc
        have t32 : ((c.toNat : Int) == 32) = true := byte_yes (k := 32) hc
        have n60 : ¬ c.toNat = 60 := by omega
        have t60 : ((c.toNat : Int) == 60) = false := byte_no (k := 60) n60
        have n101 : ¬ c.toNat = 101 := by omega
        have t101 : ((c.toNat : Int) == 101) = false := byte_no (k := 101) n101
        have n42 : ¬ c.toNat = 42 := by omega
        have t42 : ((c.toNat : Int) == 42) = false := byte_no (k := 42) n42
        have n43 : ¬ c.toNat = 43 := by omega
        have t43 : ((c.toNat : Int) == 43) = false := byte_no (k := 43) n43
        have n10 : ¬ c.toNat = 10 := by omega
        have t10 : ((c.toNat : Int) == 10) = false := byte_no (k := 10) n10
        have n120 : ¬ c.toNat = 120 := by omega
        have t120 : ((c.toNat : Int) == 120) = false := byte_no (k := 120) n120
        have HF : Hid ((stepS ⟨2, names, bytes, lines⟩ c).map cellsS = some #[.int .i64 (4), .int .i64 (names), .int .i64 (bytes), .int .i64 (lines)]) := Lib.hid (by simp [stepS, cellsS, hn, hc])
        have hC : Hid (∀ w0 : World, Calls Tryd.prog 54 #[.int .u8 c.toNat] w0 fun e w' => e = .returned (.bool false) ∧ w0 = w') := Lib.hid (by have h := HC.out; rw [hn] at h; exact h)
        clear hn n60 n101 n42 n43 n10 n120 hc hcc
        obtain ⟨⟨q0, q1, q2, q3⟩, f0, f1, f2, f3⟩ := HB.out.four
        go_enter Tryd.func25, Tryd.ntmps25
        go_wp2_with (go_at_call 54; refine (hC.out _).mono ?_; rintro e w' ⟨rfl, rfl⟩)
        go_ret
        exact StepPost.yes HF.out (HB.out.setA _) ((Only.refl [p] w).setCell (by simp) _)
      have n32 := hcc
      clear hcc
      by_cases hcc : c.toNat = 10
      case pos =>
        have hc : c.toNat = 10 := hcc
        have t10 : ((c.toNat : Int) == 10) = true := byte_yes (k := 10) hc
        have n60 : ¬ c.toNat = 60 := by omega
        have t60 : ((c.toNat : Int) == 60) = false := byte_no (k := 60) n60
        have n101 : ¬ c.toNat = 101 := by omega
        have t101 : ((c.toNat : Int) == 101) = false := byte_no (k := 101) n101
        have n42 : ¬ c.toNat = 42 := by omega
        have t42 : ((c.toNat : Int) == 42) = false := byte_no (k := 42) n42
        have n43 : ¬ c.toNat = 43 := by omega
        have t43 : ((c.toNat : Int) == 43) = false := byte_no (k := 43) n43
        have n32 : ¬ c.toNat = 32 := by omega
        have t32 : ((c.toNat : Int) == 32) = false := byte_no (k := 32) n32
        have n120 : ¬ c.toNat = 120 := by omega
        have t120 : ((c.toNat : Int) == 120) = false := byte_no (k := 120) n120
        have HF : Hid ((stepS ⟨2, names, bytes, lines⟩ c).map cellsS = some #[.int .i64 (0), .int .i64 (0), .int .i64 (bytes), .int .i64 (lines + 1)]) := Lib.hid (by simp [stepS, cellsS, hn, hc])
        have hC : Hid (∀ w0 : World, Calls Tryd.prog 54 #[.int .u8 c.toNat] w0 fun e w' => e = .returned (.bool false) ∧ w0 = w') := Lib.hid (by have h := HC.out; rw [hn] at h; exact h)
        clear hn n60 n101 n42 n43 n32 n120 hc hcc
        obtain ⟨⟨q0, q1, q2, q3⟩, f0, f1, f2, f3⟩ := HB.out.four
        go_enter Tryd.func25, Tryd.ntmps25
        go_wp2_with (go_at_call 54; refine (hC.out _).mono ?_; rintro e w' ⟨rfl, rfl⟩)
        go_ret
        exact StepPost.yes HF.out (((HB.out.setA _).setB _).setD _) ((((Only.refl [p] w).setCell (by simp) _).setCell (by simp) _).setCell (by simp) _)
      have n10 := hcc
      clear hcc
      have t120 : True := trivial
      have t60 : ((c.toNat : Int) == 60) = false := byte_no (k := 60) n60
      have t101 : ((c.toNat : Int) == 101) = false := byte_no (k := 101) n101
      have t42 : ((c.toNat : Int) == 42) = false := byte_no (k := 42) n42
      have t43 : ((c.toNat : Int) == 43) = false := byte_no (k := 43) n43
      have t32 : ((c.toNat : Int) == 32) = false := byte_no (k := 32) n32
      have t10 : ((c.toNat : Int) == 10) = false := byte_no (k := 10) n10
      have HF : Hid ((stepS ⟨2, names, bytes, lines⟩ c).map cellsS = none) := Lib.hid (by simp [stepS, hn, n60, n101, n42, n43, n32, n10])
      have hC : Hid (∀ w0 : World, Calls Tryd.prog 54 #[.int .u8 c.toNat] w0 fun e w' => e = .returned (.bool false) ∧ w0 = w') := Lib.hid (by have h := HC.out; rw [hn] at h; exact h)
      clear hn n60 n101 n42 n43 n32 n10
      obtain ⟨⟨q0, q1, q2, q3⟩, f0, f1, f2, f3⟩ := HB.out.four
      go_enter Tryd.func25, Tryd.ntmps25
      go_wp2_with (go_at_call 54; refine (hC.out _).mono ?_; rintro e w' ⟨rfl, rfl⟩)
      go_ret
      exact StepPost.no HF.out (Only.refl [p] w)
  · by_cases hcc : c.toNat = 43
    case pos =>
      by_cases h3 : names < 3
      · skip
        have hc : c.toNat = 43 := hcc
        have t43 : ((c.toNat : Int) == 43) = true := byte_yes (k := 43) hc
        have n60 : ¬ c.toNat = 60 := by omega
        have t60 : ((c.toNat : Int) == 60) = false := byte_no (k := 60) n60
        have n101 : ¬ c.toNat = 101 := by omega
        have t101 : ((c.toNat : Int) == 101) = false := byte_no (k := 101) n101
        have n42 : ¬ c.toNat = 42 := by omega
        have t42 : ((c.toNat : Int) == 42) = false := byte_no (k := 42) n42
        have n32 : ¬ c.toNat = 32 := by omega
        have t32 : ((c.toNat : Int) == 32) = false := byte_no (k := 32) n32
        have n10 : ¬ c.toNat = 10 := by omega
        have t10 : ((c.toNat : Int) == 10) = false := byte_no (k := 10) n10
        have n120 : ¬ c.toNat = 120 := by omega
        have t120 : ((c.toNat : Int) == 120) = false := byte_no (k := 120) n120
        have HF : Hid ((stepS ⟨3, names, bytes, lines⟩ c).map cellsS = some #[.int .i64 (1), .int .i64 (names), .int .i64 (bytes), .int .i64 (lines)]) := Lib.hid (by simp [stepS, cellsS, hc, h3])
        clear n60 n101 n42 n32 n10 n120 hc hcc
        obtain ⟨⟨q0, q1, q2, q3⟩, f0, f1, f2, f3⟩ := HB.out.four
        go_enter Tryd.func25, Tryd.ntmps25
        go_wp2_with fail
        go_ret
        exact StepPost.yes HF.out (HB.out.setA _) ((Only.refl [p] w).setCell (by simp) _)
      · skip
        have hc : c.toNat = 43 := hcc
        have t43 : ((c.toNat : Int) == 43) = true := byte_yes (k := 43) hc
        have n60 : ¬ c.toNat = 60 := by omega
        have t60 : ((c.toNat : Int) == 60) = false := byte_no (k := 60) n60
        have n101 : ¬ c.toNat = 101 := by omega
        have t101 : ((c.toNat : Int) == 101) = false := byte_no (k := 101) n101
        have n42 : ¬ c.toNat = 42 := by omega
        have t42 : ((c.toNat : Int) == 42) = false := byte_no (k := 42) n42
        have n32 : ¬ c.toNat = 32 := by omega
        have t32 : ((c.toNat : Int) == 32) = false := byte_no (k := 32) n32
        have n10 : ¬ c.toNat = 10 := by omega
        have t10 : ((c.toNat : Int) == 10) = false := byte_no (k := 10) n10
        have n120 : ¬ c.toNat = 120 := by omega
        have t120 : ((c.toNat : Int) == 120) = false := byte_no (k := 120) n120
        have HF : Hid ((stepS ⟨3, names, bytes, lines⟩ c).map cellsS = none) := Lib.hid (by simp [stepS, hc, h3])
        clear n60 n101 n42 n32 n10 n120 hc hcc
        obtain ⟨⟨q0, q1, q2, q3⟩, f0, f1, f2, f3⟩ := HB.out.four
        go_enter Tryd.func25, Tryd.ntmps25
        go_wp2_with fail
        go_ret
        exact StepPost.no HF.out (Only.refl [p] w)
    have n43 := hcc
    clear hcc
    by_cases hcc : c.toNat = 32
    case pos =>
      have hc : c.toNat = 32 := hcc
      have t32 : ((c.toNat : Int) == 32) = true := byte_yes (k := 32) hc
      have n60 : ¬ c.toNat = 60 := by omega
      have t60 : ((c.toNat : Int) == 60) = false := byte_no (k := 60) n60
      have n101 : ¬ c.toNat = 101 := by omega
      have t101 : ((c.toNat : Int) == 101) = false := byte_no (k := 101) n101
      have n42 : ¬ c.toNat = 42 := by omega
      have t42 : ((c.toNat : Int) == 42) = false := byte_no (k := 42) n42
      have n43 : ¬ c.toNat = 43 := by omega
      have t43 : ((c.toNat : Int) == 43) = false := byte_no (k := 43) n43
      have n10 : ¬ c.toNat = 10 := by omega
      have t10 : ((c.toNat : Int) == 10) = false := byte_no (k := 10) n10
      have n120 : ¬ c.toNat = 120 := by omega
      have t120 : ((c.toNat : Int) == 120) = false := byte_no (k := 120) n120
      have HF : Hid ((stepS ⟨3, names, bytes, lines⟩ c).map cellsS = some #[.int .i64 (4), .int .i64 (names), .int .i64 (bytes), .int .i64 (lines)]) := Lib.hid (by simp [stepS, cellsS, hc])
      clear n60 n101 n42 n43 n10 n120 hc hcc
      obtain ⟨⟨q0, q1, q2, q3⟩, f0, f1, f2, f3⟩ := HB.out.four
      go_enter Tryd.func25, Tryd.ntmps25
      go_wp2_with fail
      go_ret
      exact StepPost.yes HF.out (HB.out.setA _) ((Only.refl [p] w).setCell (by simp) _)
    have n32 := hcc
    clear hcc
    by_cases hcc : c.toNat = 10
    case pos =>
      have hc : c.toNat = 10 := hcc
      have t10 : ((c.toNat : Int) == 10) = true := byte_yes (k := 10) hc
      have n60 : ¬ c.toNat = 60 := by omega
      have t60 : ((c.toNat : Int) == 60) = false := byte_no (k := 60) n60
      have n101 : ¬ c.toNat = 101 := by omega
      have t101 : ((c.toNat : Int) == 101) = false := byte_no (k := 101) n101
      have n42 : ¬ c.toNat = 42 := by omega
      have t42 : ((c.toNat : Int) == 42) = false := byte_no (k := 42) n42
      have n43 : ¬ c.toNat = 43 := by omega
      have t43 : ((c.toNat : Int) == 43) = false := byte_no (k := 43) n43
      have n32 : ¬ c.toNat = 32 := by omega
      have t32 : ((c.toNat : Int) == 32) = false := byte_no (k := 32) n32
      have n120 : ¬ c.toNat = 120 := by omega
      have t120 : ((c.toNat : Int) == 120) = false := byte_no (k := 120) n120
      have HF : Hid ((stepS ⟨3, names, bytes, lines⟩ c).map cellsS = some #[.int .i64 (0), .int .i64 (0), .int .i64 (bytes), .int .i64 (lines + 1)]) := Lib.hid (by simp [stepS, cellsS, hc])
      clear n60 n101 n42 n43 n32 n120 hc hcc
      obtain ⟨⟨q0, q1, q2, q3⟩, f0, f1, f2, f3⟩ := HB.out.four
      go_enter Tryd.func25, Tryd.ntmps25
      go_wp2_with fail
      go_ret
      exact StepPost.yes HF.out (((HB.out.setA _).setB _).setD _) ((((Only.refl [p] w).setCell (by simp) _).setCell (by simp) _).setCell (by simp) _)
    have n10 := hcc
    clear hcc
    have t43 : ((c.toNat : Int) == 43) = false := byte_no (k := 43) n43
    have t32 : ((c.toNat : Int) == 32) = false := byte_no (k := 32) n32
    have t10 : ((c.toNat : Int) == 10) = false := byte_no (k := 10) n10
    have HF : Hid ((stepS ⟨3, names, bytes, lines⟩ c).map cellsS = none) := Lib.hid (by simp [stepS, n43, n32, n10])
    clear n43 n32 n10
    obtain ⟨⟨q0, q1, q2, q3⟩, f0, f1, f2, f3⟩ := HB.out.four
    go_enter Tryd.func25, Tryd.ntmps25
    go_wp2_with fail
    go_ret
    exact StepPost.no HF.out (Only.refl [p] w)
  · by_cases hcc : c.toNat = 120
    · have t : ((c.toNat : Int) == 120) = true := byte_yes (k := 120) hcc
      have HF : Hid ((stepS ⟨4, names, bytes, lines⟩ c).map cellsS = some #[.int .i64 (5), .int .i64 (names), .int .i64 (bytes), .int .i64 (lines)]) := Lib.hid (by simp [stepS, cellsS, hcc])
      clear hcc
      obtain ⟨⟨q0, q1, q2, q3⟩, f0, f1, f2, f3⟩ := HB.out.four
      go_enter Tryd.func25, Tryd.ntmps25
      go_wp2_with fail
      go_ret
      exact StepPost.yes HF.out (HB.out.setA _) ((Only.refl [p] w).setCell (by simp) _)
    · have t : ((c.toNat : Int) == 120) = false := byte_no (k := 120) hcc
      have HF : Hid ((stepS ⟨4, names, bytes, lines⟩ c).map cellsS = none) := Lib.hid (by simp [stepS, hcc])
      clear hcc
      obtain ⟨⟨q0, q1, q2, q3⟩, f0, f1, f2, f3⟩ := HB.out.four
      go_enter Tryd.func25, Tryd.ntmps25
      go_wp2_with fail
      go_ret
      exact StepPost.no HF.out (Only.refl [p] w)
  · by_cases hcc : c.toNat = 10
    · have t : ((c.toNat : Int) == 10) = true := byte_yes (k := 10) hcc
      have HF : Hid ((stepS ⟨5, names, bytes, lines⟩ c).map cellsS = some #[.int .i64 (0), .int .i64 (0), .int .i64 (bytes), .int .i64 (lines + 1)]) := Lib.hid (by simp [stepS, cellsS, hcc])
      clear hcc
      obtain ⟨⟨q0, q1, q2, q3⟩, f0, f1, f2, f3⟩ := HB.out.four
      go_enter Tryd.func25, Tryd.ntmps25
      go_wp2_with fail
      go_ret
      exact StepPost.yes HF.out (((HB.out.setA _).setB _).setD _) ((((Only.refl [p] w).setCell (by simp) _).setCell (by simp) _).setCell (by simp) _)
    · have t : ((c.toNat : Int) == 10) = false := byte_no (k := 10) hcc
      have HF : Hid ((stepS ⟨5, names, bytes, lines⟩ c).map cellsS = none) := Lib.hid (by simp [stepS, hcc])
      clear hcc
      obtain ⟨⟨q0, q1, q2, q3⟩, f0, f1, f2, f3⟩ := HB.out.four
      go_enter Tryd.func25, Tryd.ntmps25
      go_wp2_with fail
      go_ret
      exact StepPost.no HF.out (Only.refl [p] w)
end Go.Proofs.YtkkdhmbkpebajaaDoor
