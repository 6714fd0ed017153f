/- Contracts of functions that the proof leans on. No condition. -/
import Derived.Test.YtldinfdbkffdpaaGreatDoorM50d78f29a2
import Derived.Lib.Split
import Derived.Lib.CountLaws
import Derived.Lib.IndexMore
import Derived.Lib.ItoaNum
import Derived.Lib.Join
import Derived.Lib.Strings
import Derived.StillTailTactics
import Derived.Deep.RegionHeld3
import Derived.Deep.DeepCutAuto
/- Draws: bytes given, a cursor over them, its choices. -/
namespace Go.Proofs.YtldinfdbkffdpaaGreatDoor
set_option linter.unusedVariables false
set_option linter.unusedSimpArgs false
set_option linter.unnecessarySimpa false
open Go.RowKit

def BytA (w : World) (p : Nat) (A : Option Addr) (n : Nat) : Prop := 0 < n → ∃ b o, A = some ⟨b, o, none⟩ ∧ b < w.heap.size ∧ b < p ∧ ∀ j, j < n → ∃ z : Int, 0 ≤ z ∧ z ≤ 255 ∧ w.cell? ⟨b, o + j, none⟩ = some (.int .u8 z)
theorem Only.cell {S : List Nat} {w w' : World} (h : Only S w w') {p : Addr} (hp : p.block < w.heap.size) (hn : p.block ∉ S) : w'.cell? p = w.cell? p := World.cell?_of_block (w := w) (h.block p.block hp hn)
theorem BytA.only {w w' : World} {p : Nat} {A : Option Addr} {n : Nat} {S : List Nat} (h : BytA w p A n) (ho : Only S w w') (hS : ∀ x ∈ S, x = p ∨ w.heap.size ≤ x) : BytA w' p A n := by
  intro hn
  obtain ⟨b, o, e, hb, hp, hc⟩ := h hn
  refine ⟨b, o, e, Nat.lt_of_lt_of_le hb ho.size, hp, fun j hj => ?_⟩
  obtain ⟨z, h0, h1, hz⟩ := hc j hj
  refine ⟨z, h0, h1, (ho.cell (p := ⟨b, o + j, none⟩) hb (fun hx => ?_)).trans hz⟩
  rcases hS b hx with rfl | hge
  · omega
  · omega
/-- a cursor at p: at most m bytes have been read -/
def Cur (w : World) (p m : Nat) : Prop := ∃ (A : Option Addr) (n c at_ : Nat) (seed : Int), Box w p 46 #[.slice A n c, .int .i64 at_, .int .u64 seed] ∧ at_ ≤ m ∧ n ≤ c ∧ c ≤ maxLen ∧ BytA w p A n
theorem Cur.lt {w : World} {p m : Nat} (h : Cur w p m) : p < w.heap.size := by obtain ⟨_, _, _, _, _, hB, _⟩ := h; exact hB.lt
theorem Cur.le {w : World} {p m m' : Nat} (h : Cur w p m) (hm : m ≤ m') : Cur w p m' := by
  obtain ⟨A, n, c, a, s, hB, h1, h2⟩ := h
  exact ⟨A, n, c, a, s, hB, Nat.le_trans h1 hm, h2⟩
theorem Cur.kept {w w' : World} {p m : Nat} (h : Cur w p m) (k : Kept w w') : Cur w' p m := by
  obtain ⟨A, n, c, a, s, hB, h1, h2, h3, h4⟩ := h
  exact ⟨A, n, c, a, s, hB.kept k, h1, h2, h3, h4.only (k.only []) (fun x hx => by cases hx)⟩
theorem Cur.far {w w' : World} {p m : Nat} {S : List Nat} (h : Cur w p m) (k : Only S w w') (hS : ∀ x ∈ S, p < x) : Cur w' p m := by
  obtain ⟨A, n, c, a, s, hB, h1, h2, h3, h4⟩ := h
  refine ⟨A, n, c, a, s, hB.only k (fun hx => by have := hS p hx; omega), h1, h2, h3, fun hn => ?_⟩
  obtain ⟨b, o, e, hb, hp, hc⟩ := h4 hn
  refine ⟨b, o, e, Nat.lt_of_lt_of_le hb k.size, hp, fun j hj => ?_⟩
  obtain ⟨z, q0, q1, hz⟩ := hc j hj
  exact ⟨z, q0, q1, (k.cell (p := ⟨b, o + j, none⟩) hb (fun hx => by have := hS b hx; omega)).trans hz⟩
theorem Only.overD {w a b : World} {p : Nat} {S : List Nat} (h : Only [p] w a) (k : Only S a b) (hS : ∀ x ∈ S, w.heap.size ≤ x) : Only [p] w b :=
  ⟨k.os.trans h.os, k.tape.trans h.tape, k.output.trans h.output, Nat.le_trans h.size k.size, fun i hi hn => (k.block i (Nat.lt_of_lt_of_le hi h.size) (fun hx => by have := hS i hx; omega)).trans (h.block i hi hn)⟩
theorem OwnI.drawn {w w' : World} {p base : Nat} {v : Value} {zs : List Int} (h : OwnI w base v zs) (on : Only [p] w w') (hp : p < base) : OwnI w' base v zs :=
  h.only on (fun b hb hm => by rw [List.mem_singleton] at hm; have := (own_fp h b hb).1; omega)
theorem OwnS.drawn {w w' : World} {p base : Nat} {v : Value} {zs : List ByteArray} (h : OwnS w base v zs) (on : Only [p] w w') (hp : p < base) : OwnS w' base v zs :=
  h.only on (fun b hb hm => by rw [List.mem_singleton] at hm; have := (own_fp h.1 b hb).1; omega)
def lenV : Value → Nat
  | .slice _ n _ => n
  | _ => 0
theorem lenV_own {w : World} {base : Nat} {e : TypeId} {size : Nat} {v : Value} {n : Nat} {xs : List Value} (h : w.ownsRow base e size v n xs) : lenV v = n := by
  obtain ⟨A, c, rfl, _⟩ := own_form h
  rfl
theorem and255 (x : Int) : 0 ≤ bits .and .u64 x 255 ∧ bits .and .u64 x 255 ≤ 255 := by
  have h : ∀ a : BitVec 64, 0 ≤ IntKind.u64.wrap ((a &&& BitVec.ofInt 64 255).toNat) ∧ IntKind.u64.wrap ((a &&& BitVec.ofInt 64 255).toNat) ≤ 255 := fun a => by
    have h1 : (a &&& BitVec.ofInt 64 255).toNat ≤ 255 := by
      rw [BitVec.toNat_and]
      exact Nat.and_le_right
    have h2 : IntKind.u64.wrap (((a &&& BitVec.ofInt 64 255).toNat : Nat) : Int) = ((a &&& BitVec.ofInt 64 255).toNat : Nat) := IntWalk.u64_in _ (by omega)
    rw [h2]
    omega
  exact h _
theorem and255w (x : Int) : 0 ≤ wrap64 (bits .and .u64 x 255) ∧ wrap64 (bits .and .u64 x 255) ≤ 255 := by
  have h := and255 x
  rw [IntWalk.wrap64_in _ (by omega)]
  exact h
theorem next_any (p m : Nat) (w : World) (h : Cur w p m) (hm : m ≤ 1000000000000) :
    Calls Tryz.prog 62 #[.pointer (some ⟨p, 0, none⟩)] w fun e w' => ∃ x : Int, e = .returned (.int .i64 x) ∧ (0 ≤ x ∧ x ≤ 255) ∧ Cur w' p (m + 1) ∧ Only [p] w w' := by
  obtain ⟨A, n, c, at_, seed, hB, hat, hnc, hcm, hby⟩ := h
  obtain ⟨x0, y0⟩ := hB.three
  have hl := hB.lt
  have HB := Lib.hid hB
  have HBY := Lib.hid hby
  unfold maxLen at hcm
  have HC : Hid (∀ (a b : Nat) (s1 : Int), Cur ((((w.drewN a).setCell ⟨p, 1, none⟩ (.int .i64 ((at_ : Int) + 1))).setCell ⟨p, 2, none⟩ (.int .u64 s1)).drewN b) p (m + 1) ∧ Only [p] w ((((w.drewN a).setCell ⟨p, 1, none⟩ (.int .i64 ((at_ : Int) + 1))).setCell ⟨p, 2, none⟩ (.int .u64 s1)).drewN b)) := Lib.hid (fun a b s1 => by
    have ho : Only [p] w ((((w.drewN a).setCell ⟨p, 1, none⟩ (.int .i64 ((at_ : Int) + 1))).setCell ⟨p, 2, none⟩ (.int .u64 s1)).drewN b) := ((((Only.refl [p] w).drewN a).setCell (by simp) _).setCell (by simp) _).drewN b
    exact ⟨⟨A, n, c, at_ + 1, s1, (((HB.out.drewN a).set 1 _).set 2 _).drewN b, by omega, hnc, by unfold maxLen; omega, HBY.out.only ho (fun x hx => by rw [List.mem_singleton] at hx; exact .inl hx)⟩, ho⟩)
  clear hB hby
  by_cases hlt : at_ < n
  · obtain ⟨b, o, rfl, hbl, hbp, hc⟩ := HBY.out (by omega)
    obtain ⟨z, hz0, hz1, hx⟩ := hc at_ hlt
    have hle : (at_ : Int) + 1 ≤ (n : Int) := by omega
    clear hc
    go_enter Tryz.func62, Tryz.ntmps62
    go_wp2_with fail
    go_quiet (fail)
    go_wp2_with fail
    go_quiet (fail)
    go_wp2_with fail
    go_quiet (fail)
    go_wp2_with fail
    go_ret
    exact ⟨_, rfl, ⟨hz0, hz1⟩, (HC.out _ _ _).1, (HC.out _ _ _).2⟩
  · have hle : ¬ (at_ : Int) + 1 ≤ (n : Int) := by omega
    go_enter Tryz.func62, Tryz.ntmps62
    go_wp2_with fail
    go_quiet (fail)
    go_wp2_with fail
    go_quiet (fail)
    go_wp2_with fail
    go_ret
    exact ⟨_, rfl, and255w _, (HC.out _ _ _).1, (HC.out _ _ _).2⟩
theorem pick_any (p m : Nat) (n : Int) (w : World) (h : Cur w p m) (hm : m ≤ 100000000000) (hn : n ≤ 1000000000) :
    Calls Tryz.prog 34 #[.pointer (some ⟨p, 0, none⟩), .int .i64 n] w fun e w' => ∃ x : Int, e = .returned (.int .i64 x) ∧ (0 ≤ x ∧ (1 ≤ n → x < n)) ∧ Cur w' p (m + 2) ∧ Only [p] w w' := by
  have HC := Lib.hid h
  clear h
  by_cases h1 : n ≤ 1
  · go_enter Tryz.func34, Tryz.ntmps34
    go_wp2_with fail
    go_ret
    exact ⟨_, rfl, ⟨by omega, by omega⟩, HC.out.le (by omega), Only.refl _ _⟩
  · have C1 := Lib.hid (next_any p m w HC.out (by omega))
    by_cases h2 : 200 < n
    · go_enter Tryz.func34, Tryz.ntmps34
      go_wp2_with fail
      refine (C1.out).mono ?_
      rintro e w1 ⟨x, rfl, ⟨hx0, hx1⟩, c1, on1⟩
      have C2 := Lib.hid (next_any p (m + 1) w1 c1 (by omega))
      have ON1 := Lib.hid on1
      clear c1 on1
      go_wp2_with fail
      refine (C2.out).mono ?_
      rintro e w2 ⟨y, rfl, ⟨hy0, hy1⟩, c2, on2⟩
      have C3 := Lib.hid c2
      have ON2 := Lib.hid on2
      clear c2 on2
      go_wp2_with fail
      go_ret
      exact ⟨_, rfl, ⟨Int.emod_nonneg _ (by omega), fun _ => Int.emod_lt_of_pos _ (by omega)⟩, C3.out, ON1.out.trans ON2.out⟩
    · go_enter Tryz.func34, Tryz.ntmps34
      go_wp2_with fail
      refine (C1.out).mono ?_
      rintro e w1 ⟨x, rfl, ⟨hx0, hx1⟩, c1, on1⟩
      have C2 := Lib.hid (c1.le (m' := m + 2) (by omega))
      have ON1 := Lib.hid on1
      clear c1 on1
      go_wp2_with fail
      go_ret
      exact ⟨_, rfl, ⟨Int.emod_nonneg _ (by omega), fun _ => Int.emod_lt_of_pos _ (by omega)⟩, C2.out, ON1.out⟩
theorem one_any (p m : Nat) (n : Int) (w : World) (h : Cur w p m) (hm : m ≤ 100000000000) (hn : n ≤ 1000000000) :
    Calls Tryz.prog 53 #[.pointer (some ⟨p, 0, none⟩), .int .i64 n] w fun e w' => ∃ b : Bool, e = .returned (.bool b) ∧ Cur w' p (m + 2) ∧ Only [p] w w' := by
  have C := Lib.hid (pick_any p m n w h hm hn)
  clear h
  go_enter Tryz.func53, Tryz.ntmps53
  go_wp2_with fail
  refine (C.out).mono ?_
  rintro e w1 ⟨x, rfl, ⟨hx0, hx1⟩, c1, on1⟩
  have C2 := Lib.hid c1
  have ON1 := Lib.hid on1
  clear c1 on1
  go_wp2_with fail
  go_ret
  exact ⟨_, rfl, C2.out, ON1.out⟩
/-- a row that the cursor does not touch -/
theorem SeqA.only {S : List Nat} {w w' : World} {A : Option Addr} {n : Nat} {xs : List Value} (h : SeqA w A n xs) (ho : Only S w w') (hd : ∀ a, A = some a → a.block ∉ S) : SeqA w' A n xs := by
  intro hn
  obtain ⟨b, o, e, hb, hc⟩ := h hn
  exact ⟨b, o, e, Nat.lt_of_lt_of_le hb ho.size, fun j u hu => (ho.cell (p := ⟨b, o + j, none⟩) hb (hd ⟨b, o, none⟩ e)).trans (hc j u hu)⟩
theorem among_any (p m : Nat) (A : Option Addr) (k c : Nat) (zs : List Int) (w : World) (h : Cur w p m) (hm : m ≤ 100000000000) (hz : Ints w (.slice A k c) zs) (hk : k = zs.length) (h0 : 0 < zs.length) (h1 : zs.length ≤ 1000000) (hd : ∀ a, A = some a → a.block ≠ p) :
    Calls Tryz.prog 45 #[.pointer (some ⟨p, 0, none⟩), .slice A k c] w fun e w' => ∃ x : Int, e = .returned (.int .i64 x) ∧ x ∈ zs ∧ Cur w' p (m + 2) ∧ Only [p] w w' := by
  subst hk
  have C := Lib.hid (pick_any p m zs.length w h hm (by omega))
  have HA := Lib.hid hz.addr
  obtain ⟨_, _, e, hnc, hcm, _⟩ := hz.out
  cases e
  unfold maxLen at hcm
  clear h hz
  have HD := Lib.hid hd
  clear hd
  go_enter Tryz.func45, Tryz.ntmps45
  go_wp2_with fail
  refine (C.out).mono ?_
  rintro e w1 ⟨x, rfl, ⟨hx0, hx1⟩, c1, on1⟩
  obtain ⟨k, rfl⟩ : ∃ k : Nat, x = (k : Int) := ⟨x.toNat, by omega⟩
  have hk : k < zs.length := by have := hx1 (by omega); omega
  obtain ⟨b, o, z, rfl, hb, hzk, hc⟩ := ints_at (HA.out.only on1 (fun a ha hx => HD.out a ha (List.mem_singleton.1 hx))) hk
  have HM := Lib.hid (List.mem_of_getElem? hzk)
  have C2 := Lib.hid c1
  have ON1 := Lib.hid on1
  clear c1 on1 hzk hx1
  go_wp2_with fail
  go_ret
  exact ⟨_, rfl, HM.out, C2.out, ON1.out⟩
theorem of_any (p m : Nat) (A : Option Addr) (k c : Nat) (zs : List ByteArray) (w : World) (h : Cur w p m) (hm : m ≤ 100000000000) (hz : Strs w (.slice A k c) zs) (hk : k = zs.length) (h0 : 0 < zs.length) (h1 : zs.length ≤ 1000000) (hd : ∀ a, A = some a → a.block ≠ p) :
    Calls Tryz.prog 36 #[.pointer (some ⟨p, 0, none⟩), .slice A k c] w fun e w' => ∃ x : ByteArray, e = .returned (.string x) ∧ x ∈ zs ∧ Cur w' p (m + 2) ∧ Only [p] w w' := by
  subst hk
  have C := Lib.hid (pick_any p m zs.length w h hm (by omega))
  have HA := Lib.hid hz.1.addr
  obtain ⟨_, _, e, hnc, hcm, _⟩ := hz.1.out
  cases e
  unfold maxLen at hcm
  clear h hz
  have HD := Lib.hid hd
  clear hd
  go_enter Tryz.func36, Tryz.ntmps36
  go_wp2_with fail
  refine (C.out).mono ?_
  rintro e w1 ⟨x, rfl, ⟨hx0, hx1⟩, c1, on1⟩
  obtain ⟨k, rfl⟩ : ∃ k : Nat, x = (k : Int) := ⟨x.toNat, by omega⟩
  have hk : k < zs.length := by have := hx1 (by omega); omega
  obtain ⟨b, o, z, rfl, hb, hzk, hc⟩ := strs_at (HA.out.only on1 (fun a ha hx => HD.out a ha (List.mem_singleton.1 hx))) hk
  have HM := Lib.hid (List.mem_of_getElem? hzk)
  have C2 := Lib.hid c1
  have ON1 := Lib.hid on1
  clear c1 on1 hzk hx1
  go_wp2_with fail
  go_ret
  exact ⟨_, rfl, HM.out, C2.out, ON1.out⟩
end Go.Proofs.YtldinfdbkffdpaaGreatDoor

/- Draws of numbers, fractions and lists of numbers. -/
namespace Go.Proofs.YtldinfdbkffdpaaGreatDoor
set_option linter.unusedVariables false
set_option linter.unusedSimpArgs false
set_option linter.unnecessarySimpa false
open Go.RowKit

/-- a slice of bytes is given -/
def Byts (w : World) (v : Value) : Prop := ∃ (A : Option Addr) (n c : Nat), v = .slice A n c ∧ n ≤ c ∧ c ≤ maxLen ∧ (0 < n → ∃ b o, A = some ⟨b, o, none⟩ ∧ b < w.heap.size ∧ ∀ j, j < n → ∃ z : Int, 0 ≤ z ∧ z ≤ 255 ∧ w.cell? ⟨b, o + j, none⟩ = some (.int .u8 z))
theorem Byts.kept {w w' : World} {v : Value} (h : Byts w v) (k : Kept w w') : Byts w' v := by
  obtain ⟨A, n, c, rfl, h1, h2, h3⟩ := h
  refine ⟨A, n, c, rfl, h1, h2, fun hn => ?_⟩
  obtain ⟨b, o, e, hb, hc⟩ := h3 hn
  refine ⟨b, o, e, Nat.lt_of_lt_of_le hb k.size, fun j hj => ?_⟩
  obtain ⟨z, q0, q1, hz⟩ := hc j hj
  exact ⟨z, q0, q1, (k.cell (p := ⟨b, o + j, none⟩) hb).trans hz⟩
theorem Cur.init {w : World} {A : Option Addr} {n c : Nat} (hnc : n ≤ c) (hcm : c ≤ maxLen) (hb : 0 < n → ∃ b o, A = some ⟨b, o, none⟩ ∧ b < w.heap.size ∧ ∀ j, j < n → ∃ z : Int, 0 ≤ z ∧ z ≤ 255 ∧ w.cell? ⟨b, o + j, none⟩ = some (.int .u8 z)) :
    Cur (w.alloc (.cells #[.slice A n c, .int .i64 0, .int .u64 0] 46)) w.heap.size 0 := by
  have k : Kept w (w.alloc (.cells #[.slice A n c, .int .i64 0, .int .u64 0] 46)) := (Kept.refl w).alloc _
  refine ⟨A, n, c, 0, 0, Box.new w _ _ _ rfl, Nat.le_refl _, hnc, hcm, fun hn => ?_⟩
  obtain ⟨b, o, e, hbl, hc⟩ := hb hn
  refine ⟨b, o, e, Nat.lt_of_lt_of_le hbl k.size, hbl, fun j hj => ?_⟩
  obtain ⟨z, q0, q1, hz⟩ := hc j hj
  exact ⟨z, q0, q1, (k.cell (p := ⟨b, o + j, none⟩) hbl).trans hz⟩
theorem ints_lit {w : World} {g : Nat} {t : TypeId} {cs : Array Value} (zs : List Int) (h : Box w g t cs) (hc : cs = (zs.map (Value.int .i64)).toArray) (hl : zs.length ≤ 1000) : Ints w (.slice (some ⟨g, 0, none⟩) zs.length zs.length) zs :=
  ⟨_, zs.length, rfl, Nat.le_refl _, by unfold maxLen; omega, (fun h => by cases h), fun _ => ⟨g, 0, rfl, h.lt, fun j u hu => by
    rw [Nat.zero_add, h.cell j, ← hu, hc]
    exact List.getElem?_toArray⟩⟩
theorem strs_lit {w : World} {g : Nat} {t : TypeId} {cs : Array Value} (zs : List ByteArray) (h : Box w g t cs) (hc : cs = (zs.map Value.string).toArray) (hl : zs.length ≤ 1000) (hs : zs.all (fun z => decide (z.size ≤ 1000)) = true) : Strs w (.slice (some ⟨g, 0, none⟩) zs.length zs.length) zs :=
  ⟨⟨_, zs.length, rfl, Nat.le_refl _, by unfold maxLen; omega, (fun h => by cases h), fun _ => ⟨g, 0, rfl, h.lt, fun j u hu => by
    rw [Nat.zero_add, h.cell j, ← hu, hc]
    exact List.getElem?_toArray⟩⟩, fun e he => by have := List.all_eq_true.1 hs e he; simp at this; unfold maxLen; omega⟩
def RowPost (w : World) (e : Ending) (w' : World) : Prop := ∃ v' zs, e = .returned v' ∧ OwnI w' w.heap.size v' zs ∧ zs.length ≤ 61
theorem among_lit (p m g k : Nat) (zs : List Int) (w : World) {t : TypeId} (h : Cur w p m) (hm : m ≤ 100000000000) (hB : Box w g t (zs.map (Value.int .i64)).toArray) (hg : g ≠ p) (hk : zs.length = k) (h0 : 0 < k) (h1 : k ≤ 1000) :
    Calls Tryz.prog 45 #[.pointer (some ⟨p, 0, none⟩), .slice (some ⟨g, 0, none⟩) k k] w fun e w' => ∃ x : Int, e = .returned (.int .i64 x) ∧ x ∈ zs ∧ Cur w' p (m + 2) ∧ Only [p] w w' := by
  subst hk
  exact among_any p m _ _ _ zs w h hm (ints_lit zs hB rfl h1) rfl h0 (by omega) (fun a e => by cases e; exact hg)
theorem of_lit (p m g k : Nat) (zs : List ByteArray) (w : World) {t : TypeId} (h : Cur w p m) (hm : m ≤ 100000000000) (hB : Box w g t (zs.map Value.string).toArray) (hg : g ≠ p) (hk : zs.length = k) (h0 : 0 < k) (h1 : k ≤ 1000) (hs : zs.all (fun z => decide (z.size ≤ 1000)) = true) :
    Calls Tryz.prog 36 #[.pointer (some ⟨p, 0, none⟩), .slice (some ⟨g, 0, none⟩) k k] w fun e w' => ∃ x : ByteArray, e = .returned (.string x) ∧ x ∈ zs ∧ Cur w' p (m + 2) ∧ Only [p] w w' := by
  subst hk
  exact of_any p m _ _ _ zs w h hm (strs_lit zs hB rfl h1 hs) rfl h0 (by omega) (fun a e => by cases e; exact hg)
set_option maxHeartbeats 2000000 in
theorem points_any (p m : Nat)  (w : World) (h : Cur w p m) (hm : m ≤ 10000000000)  :
    Calls Tryz.prog 25 #[.pointer (some ⟨p, 0, none⟩)] w fun e w' => (∃ a : Int, e = .returned (.int .i64 a) ∧ -1000001 ≤ a ∧ a ≤ 1000001) ∧ Cur w' p (m + 8) ∧ Only [p] w w' := by
  have C0 := Lib.hid h
  have N0 : Hid (Only [p] w w) := Lib.hid (Only.refl _ _)
  clear h
  go_enter Tryz.func25, Tryz.ntmps25
  go_wp2_with fail
  with_reducible refine (pick_any p _ 60000 w C0.out (by omega) (by omega)).mono ?_
  rintro e w1 ⟨x1, rfl, ⟨lo1, hi1⟩, c1, on1⟩
  have C2 := Lib.hid c1
  have N2 := Lib.hid (N0.out.trans on1)
  clear c1 on1
  go_wp2_with fail
  with_reducible refine (pick_any p _ 60000 w1 C2.out (by omega) (by omega)).mono ?_
  rintro e w3 ⟨x3, rfl, ⟨lo3, hi3⟩, c3, on3⟩
  have C4 := Lib.hid c3
  have N4 := Lib.hid (N2.out.trans on3)
  clear c3 on3
  go_wp2_with fail
  obtain ⟨wb5, hwb5⟩ : ∃ x : World, x = w3.alloc (.cells #[.int .i64 1000000, .int .i64 1000001, .int .i64 (-1000000), .int .i64 (-1000001)] 3) := ⟨_, rfl⟩
  rw [← hwb5]
  have kb5 : Kept w3 wb5 := hwb5 ▸ (Kept.refl w3).alloc _
  have B5 : Box wb5 w3.heap.size 3 #[.int .i64 1000000, .int .i64 1000001, .int .i64 (-1000000), .int .i64 (-1000001)] := hwb5 ▸ Box.new w3 _ _ _ rfl
  have C5 := Lib.hid (C4.out.kept kb5)
  have N5 := Lib.hid (N4.out.trans (kb5.only _))
  have hp5 : w3.heap.size ≠ p := Nat.ne_of_gt C4.out.lt
  clear hwb5 kb5
  with_reducible refine (among_lit p _ w3.heap.size 4 [1000000, 1000001, (-1000000), (-1000001)] wb5 C5.out (by omega) B5 hp5 rfl (by omega) (by omega)).mono ?_
  rintro e w6 ⟨x6, rfl, hx6, c6, on6⟩
  have C7 := Lib.hid c6
  have N7 := Lib.hid (N5.out.trans on6)
  clear c6 on6
  go_wp2_with fail
  obtain ⟨wb8, hwb8⟩ : ∃ x : World, x = w6.alloc (.cells #[.int .i64 0, .int .i64 1, .int .i64 (-1), .int .i64 5, .int .i64 50, .int .i64 (-50), .int .i64 99, .int .i64 100, .int .i64 1234, .int .i64 (-1234), .int .i64 x1, .int .i64 x3, .int .i64 x6] 3) := ⟨_, rfl⟩
  rw [← hwb8]
  have kb8 : Kept w6 wb8 := hwb8 ▸ (Kept.refl w6).alloc _
  have B8 : Box wb8 w6.heap.size 3 #[.int .i64 0, .int .i64 1, .int .i64 (-1), .int .i64 5, .int .i64 50, .int .i64 (-50), .int .i64 99, .int .i64 100, .int .i64 1234, .int .i64 (-1234), .int .i64 x1, .int .i64 x3, .int .i64 x6] := hwb8 ▸ Box.new w6 _ _ _ rfl
  have C8 := Lib.hid (C7.out.kept kb8)
  have N8 := Lib.hid (N7.out.trans (kb8.only _))
  have hp8 : w6.heap.size ≠ p := Nat.ne_of_gt C7.out.lt
  clear hwb8 kb8
  with_reducible refine (among_lit p _ w6.heap.size 13 [0, 1, (-1), 5, 50, (-50), 99, 100, 1234, (-1234), x1, x3, x6] wb8 C8.out (by omega) B8 hp8 rfl (by omega) (by omega)).mono ?_
  rintro e w9 ⟨x9, rfl, hx9, c9, on9⟩
  have C10 := Lib.hid c9
  have N10 := Lib.hid (N8.out.trans on9)
  clear c9 on9
  have hb : Hid (-1000001 ≤ x9 ∧ x9 ≤ 1000001) := Lib.hid (by have h1 := hi1 (by omega); have h2 := hi3 (by omega); simp only [List.mem_cons, List.not_mem_nil, or_false] at hx6 hx9; omega)
  clear hx6 hx9
  go_wp2_with fail
  go_ret
  exact ⟨⟨_, rfl, hb.out.1, hb.out.2⟩, C10.out.le (by omega), N10.out⟩
set_option maxRecDepth 100000 in
set_option maxHeartbeats 4000000 in
theorem pointsList_any (p m : Nat) (w : World) (h : Cur w p m) (hm : m ≤ 1000000000) :
    Calls Tryz.prog 52 #[.pointer (some ⟨p, 0, none⟩)] w fun e w' => RowPost w e w' ∧ Cur w' p (m + 200) ∧ Only [p] w w' := by
  have C0 := Lib.hid h
  have hpl := h.lt
  clear h
  go_enter Tryz.func52, Tryz.ntmps52
  go_wp2_with fail
  with_reducible refine (pick_any p _ 9 w C0.out (by omega) (by omega)).mono ?_
  rintro e w1 ⟨x1, rfl, ⟨lo1, hi1⟩, c1, on1⟩
  have hi9 : x1 < 9 := hi1 (by omega)
  obtain ⟨k0, rfl⟩ : ∃ k : Nat, x1 = (k : Int) := ⟨x1.toNat, by omega⟩
  have C1 := Lib.hid c1
  have N1 := Lib.hid on1
  clear c1 on1 hi1
  go_wp2_with fail
  go_loopw [3, 4] (fun s3 s4 wr => ∃ (k : Nat) (zs : List Int), s4 = .int .i64 k ∧ zs.length + k ≤ 8 ∧ OwnI wr w.heap.size s3 zs ∧ Cur wr p (m + 2 + 8 * zs.length) ∧ Only [p] w wr) (fun _ i _ => (RowKit.intOf i).toNat)
  case atStart => exact ⟨k0, [], rfl, by simp; omega, own_nil _ _, C1.out.le (by omega), N1.out⟩
  case round =>
    clear C1 N1
    obtain ⟨k, zs, rfl, hzk, ho, hc, hon⟩ := hrel
    have HO := Lib.hid ho
    have HC := Lib.hid hc
    have HON := Lib.hid hon
    have hsz := hon.size
    clear ho hc hon
    by_cases hk : 0 < k
    · have hk' : (0 : Int) < (k : Int) := by omega
      go_wp2_with fail
      with_reducible refine (points_any p _ wr HC.out (by omega)).mono ?_
      rintro e w2 ⟨⟨a, rfl, _, _⟩, c2, on2⟩
      have O2 := Lib.hid (HO.out.drawn on2 hpl)
      have C2 := Lib.hid c2
      have N2 := Lib.hid (HON.out.trans on2)
      have sz2 := on2.size
      clear c2 on2
      go_wp2_with (at_builtin; refine wpList_append_I _ rfl _ _ rfl w.heap.size _ zs rfl (O2.out.kept ((Kept.refl _).alloc _)) _ [a] rfl (ints_box1 (Box.new _ _ _ _ rfl)) (by simp only [List.length_cons, List.length_nil]; omega) (by simp; omega) ?_; intro v3 w3 o3 g3)
      have hf := own_fp (O2.out.kept ((Kept.refl w2).alloc (.cells #[.int .i64 a] 3)))
      have C3 := Lib.hid ((C2.out.kept ((Kept.refl _).alloc _)).far (only_of_grown g3) (fun x hx => by have := (hf x hx).1; omega))
      have N3 := Lib.hid ((N2.out.trans (((Kept.refl _).alloc _).only _)).overD (only_of_grown g3) (fun x hx => (hf x hx).1))
      have O3 := Lib.hid o3
      clear o3 g3 hf
      go_wp2_with fail
      go_roundw
      case rel => exact ⟨k - 1, zs ++ [a], by (first | go_num | (congr 1; omega)), by simp; omega, O3.out, C3.out.le (by simp; omega), N3.out⟩
      case measure => simp [RowKit.intOf]; omega
    · obtain rfl : k = 0 := by omega
      go_wp2_with fail
      with_reducible refine (one_any p _ 16 wr HC.out (by omega) (by omega)).mono ?_
      rintro e w2 ⟨b2, rfl, c2, on2⟩
      have O2 := Lib.hid (HO.out.drawn on2 hpl)
      have C2 := Lib.hid c2
      have N2 := Lib.hid (HON.out.trans on2)
      have sz2 := on2.size
      clear c2 on2
      cases b2 with
      | false =>
        go_wp2_with fail
        go_ret
        exact ⟨⟨_, zs, rfl, O2.out, by omega⟩, C2.out.le (by omega), N2.out⟩
      | true =>
        go_wp2_with fail
        with_reducible refine (pick_any p _ 2 w2 C2.out (by omega) (by omega)).mono ?_
        rintro e w4 ⟨x4, rfl, ⟨lo4, hi4⟩, c4, on4⟩
        have hx4 : x4 < 2 := hi4 (by omega)
        have O4 := Lib.hid (O2.out.drawn on4 hpl)
        have C4 := Lib.hid c4
        have N4 := Lib.hid (N2.out.trans on4)
        have sz4 := on4.size
        clear c4 on4 hi4
        go_wp2_with fail
        go_loopw [3] (fun s3 wr2 => ∃ (ys : List Int), ys.length ≤ 61 ∧ OwnI wr2 w.heap.size s3 ys ∧ Cur wr2 p (m + 78 + 2 * ys.length) ∧ Only [p] w wr2) (fun s3 _ => 61 - lenV s3)
        case atStart => exact ⟨zs, by omega, O4.out, C4.out.le (by omega), N4.out⟩
        case round =>
          clear O4 C4 N4 O2 C2 N2
          obtain ⟨ys, hys, ho, hc, hon⟩ := hrel
          have HLV := Lib.hid (lenV_own ho)
          obtain ⟨A5, c5, rfl, hn5, hm5, _⟩ := own_form ho
          have HO5 := Lib.hid ho
          have HC5 := Lib.hid hc
          have HON5 := Lib.hid hon
          have hsz5 := hon.size
          unfold maxLen at hm5
          clear ho hc hon
          by_cases hlt : (ys.length : Int) < 60 + x4
          · go_wp2_with fail
            with_reducible refine (pick_any p _ 300 wr HC5.out (by omega) (by omega)).mono ?_
            rintro e w6 ⟨a, rfl, ⟨lo6, hi6⟩, c6, on6⟩
            have O6 := Lib.hid (HO5.out.drawn on6 hpl)
            have C6 := Lib.hid c6
            have N6 := Lib.hid (HON5.out.trans on6)
            have sz6 := on6.size
            clear c6 on6 hi6
            go_wp2_with (at_builtin; refine wpList_append_I _ rfl _ _ rfl w.heap.size _ ys rfl (O6.out.kept ((Kept.refl _).alloc _)) _ [a] rfl (ints_box1 (Box.new _ _ _ _ rfl)) (by simp only [List.length_cons, List.length_nil]; omega) (by simp; omega) ?_; intro v7 w7 o7 g7)
            have hf := own_fp (O6.out.kept ((Kept.refl w6).alloc (.cells #[.int .i64 a] 3)))
            have C7 := Lib.hid ((C6.out.kept ((Kept.refl _).alloc _)).far (only_of_grown g7) (fun x hx => by have := (hf x hx).1; omega))
            have N7 := Lib.hid ((N6.out.trans (((Kept.refl _).alloc _).only _)).overD (only_of_grown g7) (fun x hx => (hf x hx).1))
            have O7 := Lib.hid o7
            have HL7 := Lib.hid (lenV_own o7)
            clear o7 g7 hf
            go_wp2_with fail
            go_roundw
            case rel => exact ⟨ys ++ [a], by simp; omega, O7.out, C7.out.le (by simp; omega), N7.out⟩
            case measure => have h1 := HL7.out; have h2 := HLV.out; simp at h1 h2 ⊢; rw [h1]; try rw [h2]; omega
          · go_wp2_with fail
            go_ret
            exact ⟨⟨_, ys, rfl, HO5.out, hys⟩, HC5.out.le (by omega), HON5.out⟩
set_option maxHeartbeats 2000000 in
theorem drawSum_any (v : Value) (w : World) (h : Byts w v) :
    Calls Tryz.prog 23 #[v] w fun e w' => RowPost w e w' ∧ Kept w w' := by
  obtain ⟨A, n, c, rfl, hnc, hcm, hb⟩ := h
  go_enter Tryz.func23, Tryz.ntmps23
  go_wp2_with fail
  obtain ⟨w0, hw0⟩ : ∃ x : World, x = w.alloc (.cells #[.slice A n c, .int .i64 0, .int .u64 0] 46) := ⟨_, rfl⟩
  rw [← hw0]
  have C0 : Hid (Cur w0 w.heap.size 0) := Lib.hid (hw0 ▸ Cur.init hnc hcm hb)
  have K0 : Hid (Kept w w0) := Lib.hid (hw0 ▸ (Kept.refl w).alloc _)
  clear hw0 hb
  obtain ⟨p, hp⟩ : ∃ p, p = w.heap.size := ⟨_, rfl⟩
  rw [← hp] at C0 ⊢
  have hpw : w.heap.size ≤ p := Nat.le_of_eq hp.symm
  clear hp
  have N0 : Hid (Only [p] w0 w0) := Lib.hid (Only.refl _ _)
  with_reducible refine (pointsList_any p _ w0 C0.out (by omega)).mono ?_
  rintro e w1 ⟨⟨v1, zs1, rfl, o1, hz1⟩, c1, on1⟩
  have C2 := Lib.hid c1
  have N2 := Lib.hid (N0.out.trans on1)
  clear c1 on1
  have O1 := Lib.hid (own_base o1 K0.out.size)
  clear o1
  go_wp2_with fail
  go_ret
  exact ⟨⟨_, _, rfl, O1.out, hz1⟩, N2.out.above K0.out (fun x hx => by rw [List.mem_singleton] at hx; subst hx; exact hpw)⟩
end Go.Proofs.YtldinfdbkffdpaaGreatDoor

/- Texts, plain: splitting at a byte, joining, numerals. -/
namespace Go.Proofs.YtldinfdbkffdpaaGreatDoor
set_option linter.unnecessarySimpa false
open Go.Lib
set_option linter.unusedVariables false
set_option linter.unusedSimpArgs false

/-! ### splitting -/
def splitOn (b : UInt8) : List UInt8 → List (List UInt8)
  | [] => [[]]
  | c :: r => if c = b then [] :: splitOn b r else match splitOn b r with
    | [] => [[c]]
    | h :: t => (c :: h) :: t
def prep (p : List UInt8) : List (List UInt8) → List (List UInt8)
  | [] => [p]
  | h :: t => (p ++ h) :: t
theorem splitOn_ne (b : UInt8) (l : List UInt8) : splitOn b l ≠ [] := by
  cases l with
  | nil => simp [splitOn]
  | cons c r =>
    unfold splitOn
    split
    · simp
    · split <;> simp
theorem prep_nil {L : List (List UInt8)} (h : L ≠ []) : prep [] L = L := by
  cases L with
  | nil => exact absurd rfl h
  | cons x t => simp [prep]
theorem splitOn_cons_ne {b c : UInt8} (h : c ≠ b) (r : List UInt8) : splitOn b (c :: r) = prep [c] (splitOn b r) := by
  rw [splitOn, if_neg h]
  cases hs : splitOn b r with
  | nil => rfl
  | cons x t => rfl
theorem splitOn_cons_eq (b : UInt8) (r : List UInt8) : splitOn b (b :: r) = [] :: splitOn b r := by
  rw [splitOn, if_pos rfl]
theorem prep_prep (p q : List UInt8) (L : List (List UInt8)) : prep p (prep q L) = prep (p ++ q) L := by
  cases L <;> simp [prep]
theorem splitOn_pre {b : UInt8} : ∀ {p : List UInt8}, b ∉ p → ∀ l, splitOn b (p ++ l) = prep p (splitOn b l)
  | [], _, l => by rw [List.nil_append, prep_nil (splitOn_ne _ _)]
  | c :: p, h, l => by
    have h1 : c ≠ b := fun e => h (by simp [e])
    have h2 : b ∉ p := fun e => h (by simp [e])
    rw [List.cons_append, splitOn_cons_ne h1, splitOn_pre h2, prep_prep]
    rfl
theorem splitOn_none {b : UInt8} {p : List UInt8} (h : b ∉ p) : splitOn b p = [p] := by
  have := splitOn_pre h []
  rw [List.append_nil] at this
  rw [this]
  simp [splitOn, prep]
theorem splitOn_hit {b : UInt8} {p : List UInt8} (h : b ∉ p) (l : List UInt8) : splitOn b (p ++ b :: l) = p :: splitOn b l := by
  rw [splitOn_pre h, splitOn_cons_eq]
  simp [prep]
theorem splitOn_snoc (b : UInt8) (p : List UInt8) : splitOn b (p ++ [b]) = splitOn b p ++ [[]] := by
  induction p with
  | nil => simp [splitOn]
  | cons c p ih =>
    by_cases h : c = b
    · subst h
      rw [List.cons_append, splitOn_cons_eq, splitOn_cons_eq, ih]
      rfl
    · rw [List.cons_append, splitOn_cons_ne h, splitOn_cons_ne h, ih]
      cases hs : splitOn b p with
      | nil => exact absurd hs (splitOn_ne _ _)
      | cons x t => rfl
theorem splitOn_last {b : UInt8} {p : List UInt8} {c : UInt8} (h : c ≠ b) : ∃ L x, splitOn b (p ++ [c]) = L ++ [x ++ [c]] := by
  induction p with
  | nil => exact ⟨[], [], by simp [splitOn, h]⟩
  | cons d p ih =>
    obtain ⟨L, x, e⟩ := ih
    by_cases hd : d = b
    · subst hd
      exact ⟨[] :: L, x, by rw [List.cons_append, splitOn_cons_eq, e]; rfl⟩
    · cases L with
      | nil => exact ⟨[], d :: x, by rw [List.cons_append, splitOn_cons_ne hd, e]; rfl⟩
      | cons y L => exact ⟨(d :: y) :: L, x, by rw [List.cons_append, splitOn_cons_ne hd, e]; rfl⟩
theorem splitOn_join (b : UInt8) (l : List UInt8) : join (splitOn b l) [b] = l := by
  induction l with
  | nil => rfl
  | cons c r ih =>
    by_cases h : c = b
    · subst h
      rw [splitOn_cons_eq, join_cons]
      cases hs : splitOn c r with
      | nil => exact absurd hs (splitOn_ne _ _)
      | cons x t =>
        rw [hs, join_cons] at ih
        have e : joinTail [c] (x :: t) = [c] ++ x ++ joinTail [c] t := by simp [joinTail]
        rw [e, List.append_assoc, ih]
        rfl
    · rw [splitOn_cons_ne h]
      cases hs : splitOn b r with
      | nil => exact absurd hs (splitOn_ne _ _)
      | cons x t =>
        rw [hs, join_cons] at ih
        rw [prep, join_cons, ← ih]
        rfl
theorem splitOn_mem {b : UInt8} : ∀ {l : List UInt8} {x : List UInt8}, x ∈ splitOn b l → b ∉ x
  | [], x, h => by simp [splitOn] at h; simp [h]
  | c :: r, x, h => by
    by_cases hc : c = b
    · subst hc
      rw [splitOn_cons_eq] at h
      rcases List.mem_cons.1 h with e | e
      · simp [e]
      · exact splitOn_mem e
    · rw [splitOn_cons_ne hc] at h
      cases hs : splitOn b r with
      | nil => exact absurd hs (splitOn_ne _ _)
      | cons y t =>
        rw [hs, prep] at h
        rcases List.mem_cons.1 h with e | e
        · have : b ∉ y := splitOn_mem (l := r) (by rw [hs]; exact List.mem_cons_self)
          subst e
          simp [this, Ne.symm hc]
        · exact splitOn_mem (l := r) (by rw [hs]; exact List.mem_cons_of_mem _ e)
/-- Words without the byte, joined by it, split into themselves. -/
theorem splitOn_of_join {b : UInt8} : ∀ {L : List (List UInt8)}, L ≠ [] → (∀ x ∈ L, b ∉ x) → splitOn b (join L [b]) = L
  | [], h, _ => absurd rfl h
  | [x], _, h => by rw [join_one]; exact splitOn_none (h x (by simp))
  | x :: y :: t, _, h => by
    have e : join (x :: y :: t) [b] = x ++ b :: join (y :: t) [b] := by
      rw [join_cons, join_cons]
      simp [joinTail]
    rw [e, splitOn_hit (h x (by simp)), splitOn_of_join (by simp) (fun z hz => h z (List.mem_cons_of_mem _ hz))]

theorem index_one (b : UInt8) (s : List UInt8) : (index s [b] = -1 ∧ b ∉ s) ∨ ∃ i : Nat, index s [b] = i ∧ i < s.length ∧ b ∉ s.take i ∧ s = s.take i ++ b :: s.drop (i + 1) := by
  rcases index_spec s [b] with ⟨h, hn⟩ | ⟨i, h, hi, ho, hn⟩
  · refine .inl ⟨h, fun hm => ?_⟩
    obtain ⟨j, hj⟩ := List.getElem?_of_mem hm
    have hlt := (List.getElem?_eq_some_iff.1 hj).1
    have := hn j (by omega)
    unfold occAt at this
    rw [List.drop_eq_getElem_cons hlt] at this
    have e := (List.getElem?_eq_some_iff.1 hj).2
    simp [List.isPrefixOf, e] at this
  · have hh := occAt_head (t := []) rfl ho
    obtain ⟨hlt, e⟩ := List.getElem?_eq_some_iff.1 hh
    refine .inr ⟨i, h, hlt, fun hm => ?_, ?_⟩
    · obtain ⟨j, hj⟩ := List.getElem?_of_mem hm
      have hji : j < i := by
        have := (List.getElem?_eq_some_iff.1 hj).1
        rw [List.length_take] at this
        omega
      rw [List.getElem?_take_of_lt hji] at hj
      have := hn j hji
      have hl := (List.getElem?_eq_some_iff.1 hj).1
      unfold occAt at this
      rw [List.drop_eq_getElem_cons hl] at this
      have e := (List.getElem?_eq_some_iff.1 hj).2
      simp [List.isPrefixOf, e] at this
    · conv => lhs; rw [← List.take_append_drop i s]
      rw [List.drop_eq_getElem_cons hlt, e]
theorem splitK_one (b : UInt8) : ∀ (n : Nat) (s : List UInt8), s.length ≤ n → splitK [b] 0 (count s [b]) s = splitOn b s
  | n, s, hl => by
    rcases index_one b s with ⟨h, hn⟩ | ⟨i, h, hi, hn, hs⟩
    · rw [count_miss h, splitOn_none hn]
      rfl
    · have hd : (s.drop (i + 1)).length < s.length := by rw [List.length_drop]; omega
      cases n with
      | zero => omega
      | succ n =>
        have ih := splitK_one b n (s.drop (i + 1)) (by omega)
        rw [count_hit (by simp) h, Nat.add_comm, splitK, if_neg (by rw [h]; intro e; have := beq_iff_eq.1 e; omega)]
        conv => rhs; rw [hs, splitOn_hit hn]
        have e : (index s [b]).toNat = i := by rw [h]; simp
        rw [e, Nat.add_zero]
        have e2 : i + [b].length = i + 1 := rfl
        rw [e2, ih]
theorem splitB_one (b : UInt8) (s : ByteArray) : (splitB ⟨#[b]⟩ 0 (countB s ⟨#[b]⟩) s).map (·.data.toList) = splitOn b s.data.toList := by
  rw [splitB_data]
  exact splitK_one b _ s.data.toList (Nat.le_refl _)
theorem splitOn_length_count (b : UInt8) (s : List UInt8) : (splitOn b s).length = s.count b + 1 := by
  induction s with
  | nil => rfl
  | cons c r ih =>
    by_cases h : c = b
    · subst h
      rw [splitOn_cons_eq, List.length_cons, ih, List.count_cons_self]
    · rw [splitOn_cons_ne h, List.count_cons_of_ne h]
      cases hs : splitOn b r with
      | nil => exact absurd hs (splitOn_ne _ _)
      | cons x t => rw [hs] at ih; simpa [prep] using ih
theorem splitOn_length_le (b : UInt8) (s : List UInt8) : (splitOn b s).length ≤ s.length + 1 := by
  rw [splitOn_length_count]
  have := List.count_le_length (a := b) (l := s)
  omega

/-! ### joining -/
theorem join_snoc (L : List (List UInt8)) (y sep : List UInt8) (h : L ≠ []) : join (L ++ [y]) sep = join L sep ++ sep ++ y := by
  cases L with
  | nil => exact absurd rfl h
  | cons x t =>
    rw [List.cons_append, join_cons, join_cons]
    simp [joinTail]

/-! ### numerals -/
def isDg (b : UInt8) : Bool := 48 ≤ b && b ≤ 57
/-- The numeral's value. -/
def dval (l : List UInt8) : Nat := l.foldl (fun n b => 10 * n + (b.toNat - 48)) 0
/-- A canonical numeral of at most k digits. -/
def readNum (k : Nat) (l : List UInt8) : Option Nat :=
  if l.length = 0 ∨ k < l.length ∨ (1 < l.length ∧ l.head? = some 48) ∨ l.all isDg = false then none else some (dval l)
theorem dval_snoc (l : List UInt8) (b : UInt8) : dval (l ++ [b]) = 10 * dval l + (b.toNat - 48) := by
  simp [dval]
theorem isDg_of {d : Nat} (h : d < 10) : isDg (UInt8.ofNat (48 + d)) = true := by
  have : ∀ d : Fin 10, isDg (UInt8.ofNat (48 + d.val)) = true := by decide
  exact this ⟨d, h⟩
theorem toNat_of {d : Nat} (h : d < 10) : (UInt8.ofNat (48 + d)).toNat = 48 + d := by
  have : ∀ d : Fin 10, (UInt8.ofNat (48 + d.val)).toNat = 48 + d.val := by decide
  exact this ⟨d, h⟩
theorem isDg_iff (b : UInt8) : isDg b = true ↔ 48 ≤ b.toNat ∧ b.toNat ≤ 57 := by
  unfold isDg
  simp [UInt8.le_iff_toNat_le]
theorem of_isDg {b : UInt8} (h : isDg b = true) : b = UInt8.ofNat (48 + (b.toNat - 48)) ∧ b.toNat - 48 < 10 := by
  have h' := (isDg_iff b).1 h
  refine ⟨?_, by omega⟩
  rw [show 48 + (b.toNat - 48) = b.toNat by omega]
  simp
theorem decDigits_small {u : Nat} (h : u < 10) : decDigits u = [UInt8.ofNat (48 + u)] := decDigits_one h
theorem decDigits_big {u : Nat} (h : ¬ u < 10) : decDigits u = decDigits (u / 10) ++ [UInt8.ofNat (48 + u % 10)] := by rw [decDigits, dif_neg h]
theorem decDigits_ne (u : Nat) : decDigits u ≠ [] := by
  by_cases h : u < 10
  · rw [decDigits_small h]; simp
  · rw [decDigits_big h]; simp
theorem decDigits_all (u : Nat) : (decDigits u).all isDg = true := by
  induction u using Nat.strongRecOn with
  | _ u ih =>
    by_cases h : u < 10
    · rw [decDigits_small h, List.all_cons, isDg_of h]; rfl
    · rw [decDigits_big h, List.all_append, ih (u / 10) (by omega), List.all_cons, isDg_of (Nat.mod_lt u (by decide : 0 < 10))]; rfl
theorem decDigits_val (u : Nat) : dval (decDigits u) = u := by
  induction u using Nat.strongRecOn with
  | _ u ih =>
    by_cases h : u < 10
    · rw [decDigits_small h]
      show 10 * 0 + ((UInt8.ofNat (48 + u)).toNat - 48) = u
      rw [toNat_of h]
      omega
    · rw [decDigits_big h, dval_snoc, ih (u / 10) (by omega), toNat_of (Nat.mod_lt u (by decide : 0 < 10))]
      omega
theorem decDigits_head (u : Nat) (h : 0 < u) : (decDigits u).head? ≠ some 48 := by
  induction u using Nat.strongRecOn with
  | _ u ih =>
    by_cases h' : u < 10
    · rw [decDigits_small h']
      have : ∀ d : Fin 10, 0 < d.val → ([UInt8.ofNat (48 + d.val)] : List UInt8).head? ≠ some 48 := by decide
      exact this ⟨u, h'⟩ h
    · rw [decDigits_big h']
      have hh := ih (u / 10) (by omega) (by omega)
      cases hd : decDigits (u / 10) with
      | nil => exact absurd hd (decDigits_ne _)
      | cons c r => rw [hd] at hh; simpa using hh
theorem decDigits_len {u k : Nat} (h : u < 10 ^ (k + 1)) : (decDigits u).length ≤ k + 1 := by
  induction k generalizing u with
  | zero => rw [decDigits_small (by simpa using h)]; simp
  | succ k ih =>
    by_cases h' : u < 10
    · rw [decDigits_small h']; simp
    · rw [decDigits_big h', List.length_append]
      have := ih (u := u / 10) (by rw [Nat.pow_succ] at h; omega)
      simp; omega
theorem readNum_dec {u k : Nat} (h : u < 10 ^ (k + 1)) : readNum (k + 1) (decDigits u) = some u := by
  unfold readNum
  rw [if_neg, decDigits_val]
  rintro (h1 | h1 | ⟨h1, h2⟩ | h1)
  · exact decDigits_ne u (List.eq_nil_of_length_eq_zero h1)
  · have := decDigits_len h; omega
  · by_cases h0 : u = 0
    · subst h0
      rw [decDigits_small (by decide)] at h1
      simp at h1
    · exact decDigits_head u (by omega) h2
  · rw [decDigits_all] at h1; cases h1
theorem snocInd {p : List UInt8 → Prop} (h0 : p []) (h1 : ∀ l b, p l → p (l ++ [b])) (l : List UInt8) : p l := by
  have h : ∀ r : List UInt8, p r.reverse := by
    intro r
    induction r with
    | nil => exact h0
    | cons b r ih => rw [List.reverse_cons]; exact h1 _ _ ih
  have := h l.reverse
  rwa [List.reverse_reverse] at this
theorem dval_pos : ∀ (l : List UInt8), l.all isDg = true → l ≠ [] → l.head? ≠ some 48 → 0 < dval l := by
  intro l
  induction l using snocInd with
  | h0 => intro _ h; exact absurd rfl h
  | h1 l b ih =>
    intro ha _ hh
    rw [dval_snoc]
    rw [List.all_append] at ha
    simp at ha
    cases l with
    | nil =>
      have hb := (isDg_iff b).1 ha.2
      have : b ≠ 48 := by simpa using hh
      have : b.toNat ≠ 48 := fun e => this (by rw [← UInt8.toNat_inj]; exact e)
      simp [dval]; omega
    | cons c r =>
      have := ih (List.all_eq_true.2 ha.1) (by simp) (by simpa using hh)
      omega
/-- What is read is the value's numeral. -/
theorem dec_of_read {k : Nat} {l : List UInt8} {u : Nat} (h : readNum k l = some u) : l = decDigits u ∧ l.length ≤ k := by
  unfold readNum at h
  split at h
  · cases h
  · rename_i hn
    simp only [not_or] at hn
    obtain ⟨h1, h2, h3, h4⟩ := hn
    have ha : l.all isDg = true := by simpa using h4
    have hu : dval l = u := Option.some.inj h
    refine ⟨?_, by omega⟩
    subst hu
    clear h2 h4 h
    induction l using snocInd with
    | h0 => simp at h1
    | h1 l b ih =>
      rw [List.all_append] at ha
      simp at ha
      obtain ⟨eb, hb⟩ := of_isDg ha.2
      rw [dval_snoc]
      cases l with
      | nil =>
        have e : 10 * dval [] + (b.toNat - 48) = b.toNat - 48 := by simp [dval]
        rw [e, decDigits_small hb, ← eb]
        rfl
      | cons c r =>
        have hall : (c :: r).all isDg = true := List.all_eq_true.2 ha.1
        have hc : (c :: r).head? ≠ some 48 := fun e => h3 ⟨by simp, by simpa using e⟩
        have hp := dval_pos (c :: r) hall (by simp) hc
        have ih' := ih (by simp) (fun e => hc e.2) hall
        rw [decDigits_big (by omega), show (10 * dval (c :: r) + (b.toNat - 48)) / 10 = dval (c :: r) by omega, show (10 * dval (c :: r) + (b.toNat - 48)) % 10 = b.toNat - 48 by omega, ← ih', ← eb]
end Go.Proofs.YtldinfdbkffdpaaGreatDoor

/- Texts, plain: the text of points, and reading it. -/
namespace Go.Proofs.YtldinfdbkffdpaaGreatDoor
set_option linter.unusedVariables false
set_option linter.unusedSimpArgs false
set_option linter.unnecessarySimpa false
open Go.Lib

def ptN (u : Nat) : List UInt8 := decDigits (u / 100) ++ 46 :: (decDigits (u / 10 % 10) ++ decDigits (u % 10))
def ptxt (n : Int) : List UInt8 := if n < 0 then 45 :: ptN n.natAbs else ptN n.toNat
def ptGood (n : Int) : Prop := -1000000 ≤ n ∧ n ≤ 1000000
def IsRead (s : List UInt8) (v : Int) (ok : Bool) : Prop := (ok = true ∧ ptGood v ∧ ptxt v = s) ∨ (ok = false ∧ v = 0 ∧ ∀ n, ptGood n → ptxt n ≠ s)
theorem dg_notin {u : Nat} {b : UInt8} (h : isDg b = false) : b ∉ decDigits u := by
  intro hm
  have := List.all_eq_true.1 (decDigits_all u) b hm
  rw [h] at this
  cases this
theorem ptN_split (u : Nat) : splitOn 46 (ptN u) = [decDigits (u / 100), decDigits (u / 10 % 10) ++ decDigits (u % 10)] := by
  unfold ptN
  rw [splitOn_hit (dg_notin (by decide)), splitOn_none]
  intro hm
  rcases List.mem_append.1 hm with h | h
  · exact dg_notin (by decide) h
  · exact dg_notin (by decide) h
theorem ptN_head (u : Nat) : ∃ c r, ptN u = c :: r ∧ isDg c = true := by
  unfold ptN
  cases h : decDigits (u / 100) with
  | nil => exact absurd h (decDigits_ne _)
  | cons c r =>
    refine ⟨c, r ++ 46 :: (decDigits (u / 10 % 10) ++ decDigits (u % 10)), rfl, ?_⟩
    have := decDigits_all (u / 100)
    rw [h] at this
    simp at this
    exact this.1
theorem ptN_ne (u : Nat) (r : List UInt8) : ptN u ≠ 45 :: r := by
  obtain ⟨c, r', e, hc⟩ := ptN_head u
  rw [e]
  intro h
  injection h with h1 h2
  subst h1
  revert hc
  decide
theorem ptN_inj {u v : Nat} (h : ptN u = ptN v) : u = v := by
  have h1 : splitOn 46 (ptN u) = splitOn 46 (ptN v) := by rw [h]
  rw [ptN_split, ptN_split] at h1
  injection h1 with a b
  injection b with b _
  have ha := congrArg dval a
  rw [decDigits_val, decDigits_val] at ha
  have small : ∀ w : Nat, decDigits (w / 10 % 10) ++ decDigits (w % 10) = [UInt8.ofNat (48 + w / 10 % 10), UInt8.ofNat (48 + w % 10)] := by
    intro w
    rw [decDigits_small (Nat.mod_lt _ (by decide)), decDigits_small (Nat.mod_lt _ (by decide))]
    rfl
  rw [small u, small v] at b
  injection b with b1 b2
  injection b2 with b2 _
  have c1 := congrArg UInt8.toNat b1
  have c2 := congrArg UInt8.toNat b2
  rw [toNat_of (Nat.mod_lt _ (by decide)), toNat_of (Nat.mod_lt _ (by decide))] at c1
  rw [toNat_of (Nat.mod_lt _ (by decide)), toNat_of (Nat.mod_lt _ (by decide))] at c2
  omega
theorem ptxt_inj {a b : Int} (h : ptxt a = ptxt b) : a = b := by
  unfold ptxt at h
  by_cases ha : a < 0 <;> by_cases hb : b < 0
  · rw [if_pos ha, if_pos hb] at h
    injection h with _ h
    have := ptN_inj h
    omega
  · rw [if_pos ha, if_neg hb] at h
    exact absurd h.symm (ptN_ne _ _)
  · rw [if_neg ha, if_pos hb] at h
    exact absurd h (ptN_ne _ _)
  · rw [if_neg ha, if_neg hb] at h
    have := ptN_inj h
    omega
theorem IsRead.same {s : List UInt8} {v v' : Int} {ok ok' : Bool} (h : IsRead s v ok) (h' : IsRead s v' ok') : v = v' ∧ ok = ok' := by
  rcases h with ⟨rfl, g, e⟩ | ⟨rfl, rfl, n⟩ <;> rcases h' with ⟨rfl, g', e'⟩ | ⟨rfl, rfl, n'⟩
  · exact ⟨ptxt_inj (e.trans e'.symm), rfl⟩
  · exact absurd e (n' _ g)
  · exact absurd e' (n _ g')
  · exact ⟨rfl, rfl⟩
/-- What stands behind the sign, and whether there is one. -/
theorem ptxt_sign (n : Int) : trimPrefix (ptxt n) [45] = ptN n.natAbs ∧ hasPrefix (ptxt n) [45] = decide (n < 0) := by
  unfold ptxt trimPrefix hasPrefix
  by_cases h : n < 0
  · rw [if_pos h]
    simp [List.isPrefixOf, h]
  · rw [if_neg h]
    obtain ⟨c, r, e, hc⟩ := ptN_head n.toNat
    have hne : (45 == c) = false := by
      rw [beq_eq_false_iff_ne]
      rintro rfl
      revert hc
      decide
    have e2 : n.natAbs = n.toNat := by omega
    rw [e2, e]
    simp [List.isPrefixOf, hne, h]
theorem ptN_cut (u : Nat) : cut (ptN u) [46] = (decDigits (u / 100), decDigits (u / 10 % 10) ++ decDigits (u % 10), true) := by
  rcases index_one 46 (ptN u) with ⟨_, h⟩ | ⟨i, hi, hlt, hn, hs⟩
  · exact absurd (by simp [ptN]) h
  · have h2 : splitOn 46 (ptN u) = (ptN u).take i :: splitOn 46 ((ptN u).drop (i + 1)) := by
      conv => lhs; rw [hs, splitOn_hit hn]
    rw [ptN_split] at h2
    injection h2 with a b
    have e3 : splitOn 46 ((ptN u).drop (i + 1)) = [(ptN u).drop (i + 1)] := by
      have hj := splitOn_join 46 ((ptN u).drop (i + 1))
      rw [← b, join_one] at hj
      rw [← b, hj]
    rw [e3] at b
    injection b with b _
    unfold cut
    rw [if_pos (by omega), hi]
    simp only [Int.toNat_natCast, List.length_cons, List.length_nil]
    rw [← a, ← b]
theorem two_digits (u : Nat) : decDigits (u / 10 % 10) ++ decDigits (u % 10) = [UInt8.ofNat (48 + u / 10 % 10), UInt8.ofNat (48 + u % 10)] := by
  rw [decDigits_small (Nat.mod_lt _ (by decide)), decDigits_small (Nat.mod_lt _ (by decide))]
  rfl
/-- The cents, read without a leading zero. -/
theorem cents_read (u : Nat) : readNum 12 (trimPrefix (decDigits (u / 10 % 10) ++ decDigits (u % 10)) [48]) = some (u % 100) := by
  rw [two_digits]
  have h : ∀ a b : Fin 10, readNum 12 (trimPrefix [UInt8.ofNat (48 + a.val), UInt8.ofNat (48 + b.val)] [48]) = some (a.val * 10 + b.val) := by decide
  have := h ⟨u / 10 % 10, Nat.mod_lt _ (by decide)⟩ ⟨u % 10, Nat.mod_lt _ (by decide)⟩
  simp only at this
  rw [this]
  congr 1
  omega
end Go.Proofs.YtldinfdbkffdpaaGreatDoor

/- The texts that the laws write as marks. -/
namespace Go.Proofs.YtldinfdbkffdpaaGreatDoor
set_option linter.unusedVariables false
set_option linter.unusedSimpArgs false
open Go.RowKit

def dgc (q : Nat) : UInt8 := UInt8.ofNat (48 + q % 10)
theorem dgc_toNat (q : Nat) : (dgc q).toNat = 48 + q % 10 := by
  unfold dgc
  rw [UInt8.toNat_ofNat']
  omega
def digF : Nat → Nat → List UInt8 → List UInt8
  | 0, _, out => out
  | f + 1, q, out => if q = 0 then out else digF f (q / 10) (dgc q :: out)
def mt (k : Int) : ByteArray := ⟨(109 :: digF 20 k.toNat []).toArray⟩
theorem digF_zero (f : Nat) (out : List UInt8) : digF f 0 out = out := by cases f <;> simp [digF]
theorem ba_cons (c : UInt8) (l : List UInt8) : (⟨#[c]⟩ : ByteArray) ++ ⟨l.toArray⟩ = ⟨(c :: l).toArray⟩ := by
  apply ByteArray.ext
  simp
theorem conv_one (w : World) (c : UInt8) (n : Int) (hn : n = c.toNat) :
    (convert 22 9 (.slice (some ⟨w.heap.size, 0, none⟩) 1 1)).run Tryz.prog (w.alloc (.cells #[.int .u8 n] 5)) = .ok (.string ⟨#[c]⟩) (w.alloc (.cells #[.int .u8 n] 5)) := by
  subst hn
  exact run_convert_bytes_back (P := Tryz.prog) (w.alloc (.cells #[.int .u8 (c.toNat : Int)] 5)) 22 9 5 ⟨w.heap.size, 0, none⟩ 1 [c] Tryz.underlying22 Tryz.underlying5 Tryz.underlying9 (fun j hj => by
    obtain rfl : j = 0 := by simpa using hj
    simp [Addr.add])
theorem digF_length (f q : Nat) (out : List UInt8) : (digF f q out).length ≤ out.length + f := by
  induction f generalizing q out with
  | zero => simp [digF]
  | succ f ih =>
    rw [digF]
    split
    · omega
    · have := ih (q / 10) (dgc q :: out)
      simp at this
      omega
theorem mt_size (k : Int) : (mt k).size ≤ maxLen := by
  have := digF_length 20 k.toNat []
  have h : (mt k).size = (digF 20 k.toNat []).length + 1 := by
    show (109 :: digF 20 k.toNat []).toArray.size = _
    simp
  rw [h]
  unfold maxLen
  simp at this
  omega
def marksS (k : Int) (n : Nat) : List ByteArray := (List.range n).map fun (i : Nat) => mt (k + (i : Int))
theorem marksS_length (k : Int) (n : Nat) : (marksS k n).length = n := by simp [marksS]
theorem marksS_get {k : Int} {n i : Nat} (h : i < n) : (marksS k n)[i]? = some (mt (k + i)) := by simp [marksS, h]
theorem marksS_size (k : Int) (n : Nat) : ∀ z ∈ marksS k n, z.size ≤ maxLen := by
  intro z hz
  unfold marksS at hz
  obtain ⟨i, _, rfl⟩ := List.mem_map.1 hz
  exact mt_size _
end Go.Proofs.YtldinfdbkffdpaaGreatDoor

/- Contracts of chapter 1: fractions compared; the constants. -/
namespace Go.Proofs.YtldinfdbkffdpaaGreatDoor
set_option linter.unusedVariables false
set_option linter.unusedSimpArgs false
open Go.RowKit

def partB (a b : Int) : Bool := inB a (-1000000000000) 1000000000000 && inB b 1 1000000
theorem partB_true {a b : Int} (h : partB a b = true) : -1000000000000 ≤ a ∧ a ≤ 1000000000000 ∧ 1 ≤ b ∧ b ≤ 1000000 := by
  unfold partB at h
  rw [Bool.and_eq_true] at h
  have h1 := inB_true h.1
  have h2 := inB_true h.2
  exact ⟨h1.1, h1.2, h2.1, h2.2⟩
def sgn (n : Int) : Int := if 0 < n then 1 else if n < 0 then -1 else 0
def poMd (a b mode : Int) : Int := if mode = -1 then a / b else if mode = 0 then (2 * a + b) / (2 * b) else -(-a / b)

def cmpV (a b c d : Int) : Int := if partB a b && partB c d then sgn (a * d - c * b) else 0
theorem mul_bd {a d A D : Int} (h1 : -A ≤ a) (h2 : a ≤ A) (h3 : 0 ≤ d) (h4 : d ≤ D) : -(A * D) ≤ a * d ∧ a * d ≤ A * D := by
  have hA : 0 ≤ A := by omega
  constructor
  · have q1 : -A * d ≤ a * d := Int.mul_le_mul_of_nonneg_right h1 h3
    have q2 : A * d ≤ A * D := Int.mul_le_mul_of_nonneg_left h4 hA
    rw [Int.neg_mul] at q1
    omega
  · have q1 : a * d ≤ A * d := Int.mul_le_mul_of_nonneg_right h2 h3
    have q2 : A * d ≤ A * D := Int.mul_le_mul_of_nonneg_left h4 hA
    omega
theorem part_mul {a b c d : Int} (h1 : partB a b = true) (h2 : partB c d = true) : -1000000000000000000 ≤ a * d ∧ a * d ≤ 1000000000000000000 := by
  have q1 := partB_true h1
  have q2 := partB_true h2
  have := mul_bd (a := a) (d := d) (A := 1000000000000) (D := 1000000) (by omega) (by omega) (by omega) (by omega)
  omega
end Go.Proofs.YtldinfdbkffdpaaGreatDoor

/- Contracts of chapter 1: lowest terms, sums of fractions, rounding. -/
namespace Go.Proofs.YtldinfdbkffdpaaGreatDoor
set_option linter.unusedVariables false
set_option linter.unusedSimpArgs false
open Go.RowKit

theorem gcd_step (m k : Nat) : Nat.gcd k (m % k) = Nat.gcd m k := by rw [Nat.gcd_comm k, ← Nat.gcd_rec, Nat.gcd_comm]
theorem gcd_pos {a b : Int} (h : 1 ≤ b) : 1 ≤ Int.gcd a b := by
  have : Int.gcd a b ≠ 0 := by
    intro h0
    rw [Int.gcd_eq_zero_iff] at h0
    omega
  omega
def lowT (a b : Int) : Int := if partB a b then a.tdiv (Int.gcd a b) else 0
def lowB (a b : Int) : Int := if partB a b then b / (Int.gcd a b) else 0
def adN (a b c d : Int) : Int := a * d + c * b
def adD (b d : Int) : Int := b * d
def adT (a b c d : Int) : Int := (adN a b c d).tdiv (Int.gcd (adN a b c d) (adD b d))
def adB (a b c d : Int) : Int := (adD b d) / (Int.gcd (adN a b c d) (adD b d))
def addOk (a b c d : Int) : Bool := partB a b && partB c d && partB (adT a b c d) (adB a b c d)
def addT (a b c d : Int) : Int := if addOk a b c d then adT a b c d else 0
def addB (a b c d : Int) : Int := if addOk a b c d then adB a b c d else 0
theorem ad_bd {a b c d : Int} (h1 : partB a b = true) (h2 : partB c d = true) :
    (-4611686018427387904 ≤ a * d + c * b ∧ a * d + c * b ≤ 4611686018427387904 ∧ 1 ≤ b * d ∧ b * d ≤ 4611686018427387904) := by
  have q1 := part_mul h1 h2
  have q2 := part_mul h2 h1
  have e1 := partB_true h1
  have e2 := partB_true h2
  have q3 := mul_bd (a := b) (d := d) (A := 1000000) (D := 1000000) (by omega) (by omega) (by omega) (by omega)
  have q4 : 1 * 1 ≤ b * d := Int.mul_le_mul (by omega) (by omega) (by omega) (by omega)
  omega
theorem fdiv_of (a b : Int) (hb : 1 ≤ b) : a / b = if a.tmod b < 0 then a.tdiv b - 1 else a.tdiv b := by
  have h1 := Int.mul_tdiv_add_tmod a b
  have h2 : (a.tmod b) < b := Int.tmod_lt_of_pos a (by omega)
  have h3 : -b < a.tmod b := by
    have h := Int.tmod_lt_of_pos (-a) (show 0 < b by omega)
    rw [Int.neg_tmod] at h
    omega
  split
  · rw [Int.ediv_eq_iff_of_pos (by omega)]
    rw [Int.sub_mul]
    have := Int.mul_comm b (a.tdiv b)
    constructor <;> omega
  · rw [Int.ediv_eq_iff_of_pos (by omega)]
    have := Int.mul_comm b (a.tdiv b)
    constructor <;> omega
theorem tdiv_bd (a b A : Int) (h1 : -A ≤ a) (h2 : a ≤ A) : -A ≤ a.tdiv b ∧ a.tdiv b ≤ A := by
  have h3 : (a.tdiv b).natAbs = a.natAbs / b.natAbs := Int.natAbs_tdiv a b
  have h4 := Nat.div_le_self a.natAbs b.natAbs
  omega
theorem ediv_bd (a b A : Int) (hb : 1 ≤ b) (h1 : -A ≤ a) (h2 : a ≤ A) : -A - 1 ≤ a / b ∧ a / b ≤ A := by
  have h3 := fdiv_of a b hb
  have h4 := tdiv_bd a b A h1 h2
  split at h3 <;> omega
theorem poDown_any (a b : Int) (w : World) (h1 : -4611686018427387904 ≤ a) (h2 : a ≤ 4611686018427387904) (h3 : 1 ≤ b) (h4 : b ≤ 4611686018427387904) :
    Calls Tryz.prog 70 #[.int .i64 a, .int .i64 b] w fun e w' => e = .returned (.int .i64 (a / b)) ∧ w = w' := by
  have HF := Lib.hid (fdiv_of a b h3)
  obtain ⟨t1, t2⟩ := tdiv_bd a b 4611686018427387904 (by omega) h2
  have hne : (b == 0) = false := by simp; omega
  go_enter Tryz.func70, Tryz.ntmps70
  go_wp2
  all_goals
    go_ret
    exact ⟨ret_int (by rw [HF.out]; split <;> omega), rfl⟩
theorem floorDiv_any (a b : Int) (w : World) (h1 : -4611686018427387904 ≤ a) (h2 : a ≤ 4611686018427387904) (h3 : 1 ≤ b) (h4 : b ≤ 4611686018427387904) :
    Calls Tryz.prog 68 #[.int .i64 a, .int .i64 b] w fun e w' => e = .returned (.int .i64 (a / b)) ∧ w = w' := by
  have HF := Lib.hid (fdiv_of a b h3)
  obtain ⟨t1, t2⟩ := tdiv_bd a b 4611686018427387904 (by omega) h2
  have hne : (b == 0) = false := by simp; omega
  go_enter Tryz.func68, Tryz.ntmps68
  go_wp2
  all_goals
    go_ret
    exact ⟨ret_int (by rw [HF.out]; split <;> omega), rfl⟩
theorem poRound_any (a b : Int) (w : World) (h1 : -1000000000000000000 ≤ a) (h2 : a ≤ 1000000000000000000) (h3 : 1 ≤ b) (h4 : b ≤ 1000000000000000000) :
    Calls Tryz.prog 71 #[.int .i64 a, .int .i64 b] w fun e w' => e = .returned (.int .i64 ((2 * a + b) / (2 * b))) ∧ w = w' := by
  go_enter Tryz.func71, Tryz.ntmps71
  go_wp2_with (go_at_call 70; refine (poDown_any _ _ _ (by omega) (by omega) (by omega) (by omega)).mono ?_; rintro e w' ⟨rfl, rfl⟩)
  go_ret
  exact ⟨rfl, rfl⟩
theorem roundDiv_any (a b : Int) (w : World) (h1 : -1000000000000000000 ≤ a) (h2 : a ≤ 1000000000000000000) (h3 : 1 ≤ b) (h4 : b ≤ 1000000000000000000) :
    Calls Tryz.prog 69 #[.int .i64 a, .int .i64 b] w fun e w' => e = .returned (.int .i64 ((2 * a + b) / (2 * b))) ∧ w = w' := by
  go_enter Tryz.func69, Tryz.ntmps69
  go_wp2_with (go_at_call 68; refine (floorDiv_any _ _ _ (by omega) (by omega) (by omega) (by omega)).mono ?_; rintro e w' ⟨rfl, rfl⟩)
  go_ret
  exact ⟨rfl, rfl⟩
theorem poMode_any (a b mode : Int) (w : World) (h1 : -1000000000000000000 ≤ a) (h2 : a ≤ 1000000000000000000) (h3 : 1 ≤ b) (h4 : b ≤ 1000000000000000000) (h5 : inB mode (-1) 1 = true) :
    Calls Tryz.prog 51 #[.int .i64 a, .int .i64 b, .int .i64 mode] w fun e w' => e = .returned (.int .i64 (poMd a b mode)) ∧ w = w' := by
  have hm := inB_true h5
  obtain ⟨t1, t2⟩ := ediv_bd (-a) b 1000000000000000000 h3 (by omega) (by omega)
  have hc : mode = -1 ∨ mode = 0 ∨ mode = 1 := by omega
  rcases hc with rfl | rfl | rfl
  all_goals
    clear h5 hm
    go_enter Tryz.func51, Tryz.ntmps51
    go_wp2_with (first | (go_at_call 70; refine (poDown_any _ _ _ (by omega) (by omega) (by omega) (by omega)).mono ?_; rintro e w' ⟨rfl, rfl⟩) | (go_at_call 71; refine (poRound_any _ _ _ (by omega) (by omega) (by omega) (by omega)).mono ?_; rintro e w' ⟨rfl, rfl⟩))
    go_ret
    exact ⟨by simp [poMd], rfl⟩
theorem roundPart_any (a b mode : Int) (w : World) (h1 : -1000000000000000000 ≤ a) (h2 : a ≤ 1000000000000000000) (h3 : 1 ≤ b) (h4 : b ≤ 1000000000000000000) (h5 : inB mode (-1) 1 = true) :
    Calls Tryz.prog 48 #[.int .i64 a, .int .i64 b, .int .i64 mode] w fun e w' => e = .returned (.int .i64 (poMd a b mode)) ∧ w = w' := by
  have hm := inB_true h5
  obtain ⟨t1, t2⟩ := ediv_bd (-a) b 1000000000000000000 h3 (by omega) (by omega)
  have hc : mode = -1 ∨ mode = 0 ∨ mode = 1 := by omega
  rcases hc with rfl | rfl | rfl
  all_goals
    clear h5 hm
    go_enter Tryz.func48, Tryz.ntmps48
    go_wp2_with (first | (go_at_call 68; refine (floorDiv_any _ _ _ (by omega) (by omega) (by omega) (by omega)).mono ?_; rintro e w' ⟨rfl, rfl⟩) | (go_at_call 69; refine (roundDiv_any _ _ _ (by omega) (by omega) (by omega) (by omega)).mono ?_; rintro e w' ⟨rfl, rfl⟩))
    go_ret
    exact ⟨by simp [poMd], rfl⟩
theorem poIsMode_any (mode : Int) (w : World) :
    Calls Tryz.prog 50 #[.int .i64 mode] w fun e w' => e = .returned (.bool (inB mode (-1) 1)) ∧ w = w' := by
  go_enter Tryz.func50, Tryz.ntmps50
  go_wp2_with (go_at_call 49; refine (l1In_any _ _ _ _).mono ?_; rintro e w' ⟨rfl, rfl⟩)
  go_ret
  exact ⟨rfl, rfl⟩
theorem isMode_any (mode : Int) (w : World) :
    Calls Tryz.prog 47 #[.int .i64 mode] w fun e w' => e = .returned (.bool (inB mode (-1) 1)) ∧ w = w' := by
  go_enter Tryz.func47, Tryz.ntmps47
  go_wp2_with (go_at_call 46; refine (within_any _ _ _ _).mono ?_; rintro e w' ⟨rfl, rfl⟩)
  go_ret
  exact ⟨rfl, rfl⟩
def rndOk (a b mode : Int) : Bool := partB a b && inB mode (-1) 1
def rndV (a b mode : Int) : Int := if rndOk a b mode then poMd a b mode else 0
end Go.Proofs.YtldinfdbkffdpaaGreatDoor
