/- Contracts of functions that the proof leans on. No condition. -/
import Derived.Test.YtkkdhmbkpebajaaDoorMfea8802669
import Derived.StillTailTactics
import Derived.Deep.RegionHeld3
import Derived.Deep.QuietTactic
import Derived.BigQuiet
/- Draws: bytes given, a cursor over them, its choices. -/
namespace Go.Proofs.YtkkdhmbkpebajaaDoor
set_option linter.unusedVariables false
set_option linter.unusedSimpArgs false
set_option linter.unnecessarySimpa false
open Go.RowKit

def BytA (w : World) (p : Nat) (A : Option Addr) (n : Nat) : Prop := 0 < n → ∃ b o, A = some ⟨b, o, none⟩ ∧ b < w.heap.size ∧ b < p ∧ ∀ j, j < n → ∃ z : Int, 0 ≤ z ∧ z ≤ 255 ∧ w.cell? ⟨b, o + j, none⟩ = some (.int .u8 z)
theorem Only.cell {S : List Nat} {w w' : World} (h : Only S w w') {p : Addr} (hp : p.block < w.heap.size) (hn : p.block ∉ S) : w'.cell? p = w.cell? p := World.cell?_of_block (w := w) (h.block p.block hp hn)
theorem BytA.only {w w' : World} {p : Nat} {A : Option Addr} {n : Nat} {S : List Nat} (h : BytA w p A n) (ho : Only S w w') (hS : ∀ x ∈ S, x = p ∨ w.heap.size ≤ x) : BytA w' p A n := by
  intro hn
  obtain ⟨b, o, e, hb, hp, hc⟩ := h hn
  refine ⟨b, o, e, Nat.lt_of_lt_of_le hb ho.size, hp, fun j hj => ?_⟩
  obtain ⟨z, h0, h1, hz⟩ := hc j hj
  refine ⟨z, h0, h1, (ho.cell (p := ⟨b, o + j, none⟩) hb (fun hx => ?_)).trans hz⟩
  rcases hS b hx with rfl | hge
  · omega
  · omega
/-- a cursor at p: at most m bytes have been read -/
def Cur (w : World) (p m : Nat) : Prop := ∃ (A : Option Addr) (n c at_ : Nat) (seed : Int), Box w p 48 #[.slice A n c, .int .i64 at_, .int .u64 seed] ∧ at_ ≤ m ∧ n ≤ c ∧ c ≤ maxLen ∧ BytA w p A n
theorem Cur.lt {w : World} {p m : Nat} (h : Cur w p m) : p < w.heap.size := by obtain ⟨_, _, _, _, _, hB, _⟩ := h; exact hB.lt
theorem Cur.le {w : World} {p m m' : Nat} (h : Cur w p m) (hm : m ≤ m') : Cur w p m' := by
  obtain ⟨A, n, c, a, s, hB, h1, h2⟩ := h
  exact ⟨A, n, c, a, s, hB, Nat.le_trans h1 hm, h2⟩
theorem Cur.kept {w w' : World} {p m : Nat} (h : Cur w p m) (k : Kept w w') : Cur w' p m := by
  obtain ⟨A, n, c, a, s, hB, h1, h2, h3, h4⟩ := h
  exact ⟨A, n, c, a, s, hB.kept k, h1, h2, h3, h4.only (k.only []) (fun x hx => by cases hx)⟩
theorem Cur.far {w w' : World} {p m : Nat} {S : List Nat} (h : Cur w p m) (k : Only S w w') (hS : ∀ x ∈ S, p < x) : Cur w' p m := by
  obtain ⟨A, n, c, a, s, hB, h1, h2, h3, h4⟩ := h
  refine ⟨A, n, c, a, s, hB.only k (fun hx => by have := hS p hx; omega), h1, h2, h3, fun hn => ?_⟩
  obtain ⟨b, o, e, hb, hp, hc⟩ := h4 hn
  refine ⟨b, o, e, Nat.lt_of_lt_of_le hb k.size, hp, fun j hj => ?_⟩
  obtain ⟨z, q0, q1, hz⟩ := hc j hj
  exact ⟨z, q0, q1, (k.cell (p := ⟨b, o + j, none⟩) hb (fun hx => by have := hS b hx; omega)).trans hz⟩
theorem Only.overD {w a b : World} {p : Nat} {S : List Nat} (h : Only [p] w a) (k : Only S a b) (hS : ∀ x ∈ S, w.heap.size ≤ x) : Only [p] w b :=
  ⟨k.os.trans h.os, k.tape.trans h.tape, k.output.trans h.output, Nat.le_trans h.size k.size, fun i hi hn => (k.block i (Nat.lt_of_lt_of_le hi h.size) (fun hx => by have := hS i hx; omega)).trans (h.block i hi hn)⟩
theorem OwnI.drawn {w w' : World} {p base : Nat} {v : Value} {zs : List Int} (h : OwnI w base v zs) (on : Only [p] w w') (hp : p < base) : OwnI w' base v zs :=
  h.only on (fun b hb hm => by rw [List.mem_singleton] at hm; have := (own_fp h b hb).1; omega)
theorem OwnS.drawn {w w' : World} {p base : Nat} {v : Value} {zs : List ByteArray} (h : OwnS w base v zs) (on : Only [p] w w') (hp : p < base) : OwnS w' base v zs :=
  h.only on (fun b hb hm => by rw [List.mem_singleton] at hm; have := (own_fp h.1 b hb).1; omega)
def lenV : Value → Nat
  | .slice _ n _ => n
  | _ => 0
theorem lenV_own {w : World} {base : Nat} {e : TypeId} {size : Nat} {v : Value} {n : Nat} {xs : List Value} (h : w.ownsRow base e size v n xs) : lenV v = n := by
  obtain ⟨A, c, rfl, _⟩ := own_form h
  rfl
theorem and255 (x : Int) : 0 ≤ bits .and .u64 x 255 ∧ bits .and .u64 x 255 ≤ 255 := by
  have h : ∀ a : BitVec 64, 0 ≤ IntKind.u64.wrap ((a &&& BitVec.ofInt 64 255).toNat) ∧ IntKind.u64.wrap ((a &&& BitVec.ofInt 64 255).toNat) ≤ 255 := fun a => by
    have h1 : (a &&& BitVec.ofInt 64 255).toNat ≤ 255 := by
      rw [BitVec.toNat_and]
      exact Nat.and_le_right
    have h2 : IntKind.u64.wrap (((a &&& BitVec.ofInt 64 255).toNat : Nat) : Int) = ((a &&& BitVec.ofInt 64 255).toNat : Nat) := IntWalk.u64_in _ (by omega)
    rw [h2]
    omega
  exact h _
theorem and255w (x : Int) : 0 ≤ wrap64 (bits .and .u64 x 255) ∧ wrap64 (bits .and .u64 x 255) ≤ 255 := by
  have h := and255 x
  rw [IntWalk.wrap64_in _ (by omega)]
  exact h
theorem next_any (p m : Nat) (w : World) (h : Cur w p m) (hm : m ≤ 1000000000000) :
    Calls Tryd.prog 52 #[.pointer (some ⟨p, 0, none⟩)] w fun e w' => ∃ x : Int, e = .returned (.int .i64 x) ∧ (0 ≤ x ∧ x ≤ 255) ∧ Cur w' p (m + 1) ∧ Only [p] w w' := by
  obtain ⟨A, n, c, at_, seed, hB, hat, hnc, hcm, hby⟩ := h
  obtain ⟨x0, y0⟩ := hB.three
  have hl := hB.lt
  have HB := Lib.hid hB
  have HBY := Lib.hid hby
  unfold maxLen at hcm
  have HC : Hid (∀ (a b : Nat) (s1 : Int), Cur ((((w.drewN a).setCell ⟨p, 1, none⟩ (.int .i64 ((at_ : Int) + 1))).setCell ⟨p, 2, none⟩ (.int .u64 s1)).drewN b) p (m + 1) ∧ Only [p] w ((((w.drewN a).setCell ⟨p, 1, none⟩ (.int .i64 ((at_ : Int) + 1))).setCell ⟨p, 2, none⟩ (.int .u64 s1)).drewN b)) := Lib.hid (fun a b s1 => by
    have ho : Only [p] w ((((w.drewN a).setCell ⟨p, 1, none⟩ (.int .i64 ((at_ : Int) + 1))).setCell ⟨p, 2, none⟩ (.int .u64 s1)).drewN b) := ((((Only.refl [p] w).drewN a).setCell (by simp) _).setCell (by simp) _).drewN b
    exact ⟨⟨A, n, c, at_ + 1, s1, (((HB.out.drewN a).set 1 _).set 2 _).drewN b, by omega, hnc, by unfold maxLen; omega, HBY.out.only ho (fun x hx => by rw [List.mem_singleton] at hx; exact .inl hx)⟩, ho⟩)
  clear hB hby
  by_cases hlt : at_ < n
  · obtain ⟨b, o, rfl, hbl, hbp, hc⟩ := HBY.out (by omega)
    obtain ⟨z, hz0, hz1, hx⟩ := hc at_ hlt
    have hle : (at_ : Int) + 1 ≤ (n : Int) := by omega
    clear hc
    go_enter Tryd.func52, Tryd.ntmps52
    go_wp2_with fail
    go_quiet (fail)
    go_wp2_with fail
    go_quiet (fail)
    go_wp2_with fail
    go_quiet (fail)
    go_wp2_with fail
    go_ret
    exact ⟨_, rfl, ⟨hz0, hz1⟩, (HC.out _ _ _).1, (HC.out _ _ _).2⟩
  · have hle : ¬ (at_ : Int) + 1 ≤ (n : Int) := by omega
    go_enter Tryd.func52, Tryd.ntmps52
    go_wp2_with fail
    go_quiet (fail)
    go_wp2_with fail
    go_quiet (fail)
    go_wp2_with fail
    go_ret
    exact ⟨_, rfl, and255w _, (HC.out _ _ _).1, (HC.out _ _ _).2⟩
theorem pick_any (p m : Nat) (n : Int) (w : World) (h : Cur w p m) (hm : m ≤ 100000000000) (hn : n ≤ 1000000000) :
    Calls Tryd.prog 22 #[.pointer (some ⟨p, 0, none⟩), .int .i64 n] w fun e w' => ∃ x : Int, e = .returned (.int .i64 x) ∧ (0 ≤ x ∧ (1 ≤ n → x < n)) ∧ Cur w' p (m + 2) ∧ Only [p] w w' := by
  have HC := Lib.hid h
  clear h
  by_cases h1 : n ≤ 1
  · go_enter Tryd.func22, Tryd.ntmps22
    go_wp2_with fail
    go_ret
    exact ⟨_, rfl, ⟨by omega, by omega⟩, HC.out.le (by omega), Only.refl _ _⟩
  · have C1 := Lib.hid (next_any p m w HC.out (by omega))
    by_cases h2 : 200 < n
    · go_enter Tryd.func22, Tryd.ntmps22
      go_wp2_with fail
      refine (C1.out).mono ?_
      rintro e w1 ⟨x, rfl, ⟨hx0, hx1⟩, c1, on1⟩
      have C2 := Lib.hid (next_any p (m + 1) w1 c1 (by omega))
      have ON1 := Lib.hid on1
      clear c1 on1
      go_wp2_with fail
      refine (C2.out).mono ?_
      rintro e w2 ⟨y, rfl, ⟨hy0, hy1⟩, c2, on2⟩
      have C3 := Lib.hid c2
      have ON2 := Lib.hid on2
      clear c2 on2
      go_wp2_with fail
      go_ret
      exact ⟨_, rfl, ⟨Int.emod_nonneg _ (by omega), fun _ => Int.emod_lt_of_pos _ (by omega)⟩, C3.out, ON1.out.trans ON2.out⟩
    · go_enter Tryd.func22, Tryd.ntmps22
      go_wp2_with fail
      refine (C1.out).mono ?_
      rintro e w1 ⟨x, rfl, ⟨hx0, hx1⟩, c1, on1⟩
      have C2 := Lib.hid (c1.le (m' := m + 2) (by omega))
      have ON1 := Lib.hid on1
      clear c1 on1
      go_wp2_with fail
      go_ret
      exact ⟨_, rfl, ⟨Int.emod_nonneg _ (by omega), fun _ => Int.emod_lt_of_pos _ (by omega)⟩, C2.out, ON1.out⟩
theorem one_any (p m : Nat) (n : Int) (w : World) (h : Cur w p m) (hm : m ≤ 100000000000) (hn : n ≤ 1000000000) :
    Calls Tryd.prog 21 #[.pointer (some ⟨p, 0, none⟩), .int .i64 n] w fun e w' => ∃ b : Bool, e = .returned (.bool b) ∧ Cur w' p (m + 2) ∧ Only [p] w w' := by
  have C := Lib.hid (pick_any p m n w h hm hn)
  clear h
  go_enter Tryd.func21, Tryd.ntmps21
  go_wp2_with fail
  refine (C.out).mono ?_
  rintro e w1 ⟨x, rfl, ⟨hx0, hx1⟩, c1, on1⟩
  have C2 := Lib.hid c1
  have ON1 := Lib.hid on1
  clear c1 on1
  go_wp2_with fail
  go_ret
  exact ⟨_, rfl, C2.out, ON1.out⟩
/-- a row that the cursor does not touch -/
theorem SeqA.only {S : List Nat} {w w' : World} {A : Option Addr} {n : Nat} {xs : List Value} (h : SeqA w A n xs) (ho : Only S w w') (hd : ∀ a, A = some a → a.block ∉ S) : SeqA w' A n xs := by
  intro hn
  obtain ⟨b, o, e, hb, hc⟩ := h hn
  exact ⟨b, o, e, Nat.lt_of_lt_of_le hb ho.size, fun j u hu => (ho.cell (p := ⟨b, o + j, none⟩) hb (hd ⟨b, o, none⟩ e)).trans (hc j u hu)⟩
theorem among_any (p m : Nat) (A : Option Addr) (k c : Nat) (zs : List Int) (w : World) (h : Cur w p m) (hm : m ≤ 100000000000) (hz : Ints w (.slice A k c) zs) (hk : k = zs.length) (h0 : 0 < zs.length) (h1 : zs.length ≤ 1000000) (hd : ∀ a, A = some a → a.block ≠ p) :
    Calls Tryd.prog 56 #[.pointer (some ⟨p, 0, none⟩), .slice A k c] w fun e w' => ∃ x : Int, e = .returned (.int .i64 x) ∧ x ∈ zs ∧ Cur w' p (m + 2) ∧ Only [p] w w' := by
  subst hk
  have C := Lib.hid (pick_any p m zs.length w h hm (by omega))
  have HA := Lib.hid hz.addr
  obtain ⟨_, _, e, hnc, hcm, _⟩ := hz.out
  cases e
  unfold maxLen at hcm
  clear h hz
  have HD := Lib.hid hd
  clear hd
  go_enter Tryd.func56, Tryd.ntmps56
  go_wp2_with fail
  refine (C.out).mono ?_
  rintro e w1 ⟨x, rfl, ⟨hx0, hx1⟩, c1, on1⟩
  obtain ⟨k, rfl⟩ : ∃ k : Nat, x = (k : Int) := ⟨x.toNat, by omega⟩
  have hk : k < zs.length := by have := hx1 (by omega); omega
  obtain ⟨b, o, z, rfl, hb, hzk, hc⟩ := ints_at (HA.out.only on1 (fun a ha hx => HD.out a ha (List.mem_singleton.1 hx))) hk
  have HM := Lib.hid (List.mem_of_getElem? hzk)
  have C2 := Lib.hid c1
  have ON1 := Lib.hid on1
  clear c1 on1 hzk hx1
  go_wp2_with fail
  go_ret
  exact ⟨_, rfl, HM.out, C2.out, ON1.out⟩
theorem of_any (p m : Nat) (A : Option Addr) (k c : Nat) (zs : List ByteArray) (w : World) (h : Cur w p m) (hm : m ≤ 100000000000) (hz : Strs w (.slice A k c) zs) (hk : k = zs.length) (h0 : 0 < zs.length) (h1 : zs.length ≤ 1000000) (hd : ∀ a, A = some a → a.block ≠ p) :
    Calls Tryd.prog 31 #[.pointer (some ⟨p, 0, none⟩), .slice A k c] w fun e w' => ∃ x : ByteArray, e = .returned (.string x) ∧ x ∈ zs ∧ Cur w' p (m + 2) ∧ Only [p] w w' := by
  subst hk
  have C := Lib.hid (pick_any p m zs.length w h hm (by omega))
  have HA := Lib.hid hz.1.addr
  obtain ⟨_, _, e, hnc, hcm, _⟩ := hz.1.out
  cases e
  unfold maxLen at hcm
  clear h hz
  have HD := Lib.hid hd
  clear hd
  go_enter Tryd.func31, Tryd.ntmps31
  go_wp2_with fail
  refine (C.out).mono ?_
  rintro e w1 ⟨x, rfl, ⟨hx0, hx1⟩, c1, on1⟩
  obtain ⟨k, rfl⟩ : ∃ k : Nat, x = (k : Int) := ⟨x.toNat, by omega⟩
  have hk : k < zs.length := by have := hx1 (by omega); omega
  obtain ⟨b, o, z, rfl, hb, hzk, hc⟩ := strs_at (HA.out.only on1 (fun a ha hx => HD.out a ha (List.mem_singleton.1 hx))) hk
  have HM := Lib.hid (List.mem_of_getElem? hzk)
  have C2 := Lib.hid c1
  have ON1 := Lib.hid on1
  clear c1 on1 hzk hx1
  go_wp2_with fail
  go_ret
  exact ⟨_, rfl, HM.out, C2.out, ON1.out⟩
end Go.Proofs.YtkkdhmbkpebajaaDoor

/- Draws of numbers, fractions and lists of numbers. -/
namespace Go.Proofs.YtkkdhmbkpebajaaDoor
set_option linter.unusedVariables false
set_option linter.unusedSimpArgs false
set_option linter.unnecessarySimpa false
open Go.RowKit

/-- a slice of bytes is given -/
def Byts (w : World) (v : Value) : Prop := ∃ (A : Option Addr) (n c : Nat), v = .slice A n c ∧ n ≤ c ∧ c ≤ maxLen ∧ (0 < n → ∃ b o, A = some ⟨b, o, none⟩ ∧ b < w.heap.size ∧ ∀ j, j < n → ∃ z : Int, 0 ≤ z ∧ z ≤ 255 ∧ w.cell? ⟨b, o + j, none⟩ = some (.int .u8 z))
theorem Byts.kept {w w' : World} {v : Value} (h : Byts w v) (k : Kept w w') : Byts w' v := by
  obtain ⟨A, n, c, rfl, h1, h2, h3⟩ := h
  refine ⟨A, n, c, rfl, h1, h2, fun hn => ?_⟩
  obtain ⟨b, o, e, hb, hc⟩ := h3 hn
  refine ⟨b, o, e, Nat.lt_of_lt_of_le hb k.size, fun j hj => ?_⟩
  obtain ⟨z, q0, q1, hz⟩ := hc j hj
  exact ⟨z, q0, q1, (k.cell (p := ⟨b, o + j, none⟩) hb).trans hz⟩
theorem Cur.init {w : World} {A : Option Addr} {n c : Nat} (hnc : n ≤ c) (hcm : c ≤ maxLen) (hb : 0 < n → ∃ b o, A = some ⟨b, o, none⟩ ∧ b < w.heap.size ∧ ∀ j, j < n → ∃ z : Int, 0 ≤ z ∧ z ≤ 255 ∧ w.cell? ⟨b, o + j, none⟩ = some (.int .u8 z)) :
    Cur (w.alloc (.cells #[.slice A n c, .int .i64 0, .int .u64 0] 48)) w.heap.size 0 := by
  have k : Kept w (w.alloc (.cells #[.slice A n c, .int .i64 0, .int .u64 0] 48)) := (Kept.refl w).alloc _
  refine ⟨A, n, c, 0, 0, Box.new w _ _ _ rfl, Nat.le_refl _, hnc, hcm, fun hn => ?_⟩
  obtain ⟨b, o, e, hbl, hc⟩ := hb hn
  refine ⟨b, o, e, Nat.lt_of_lt_of_le hbl k.size, hbl, fun j hj => ?_⟩
  obtain ⟨z, q0, q1, hz⟩ := hc j hj
  exact ⟨z, q0, q1, (k.cell (p := ⟨b, o + j, none⟩) hbl).trans hz⟩
theorem ints_lit {w : World} {g : Nat} {t : TypeId} {cs : Array Value} (zs : List Int) (h : Box w g t cs) (hc : cs = (zs.map (Value.int .i64)).toArray) (hl : zs.length ≤ 1000) : Ints w (.slice (some ⟨g, 0, none⟩) zs.length zs.length) zs :=
  ⟨_, zs.length, rfl, Nat.le_refl _, by unfold maxLen; omega, (fun h => by cases h), fun _ => ⟨g, 0, rfl, h.lt, fun j u hu => by
    rw [Nat.zero_add, h.cell j, ← hu, hc]
    exact List.getElem?_toArray⟩⟩
theorem strs_lit {w : World} {g : Nat} {t : TypeId} {cs : Array Value} (zs : List ByteArray) (h : Box w g t cs) (hc : cs = (zs.map Value.string).toArray) (hl : zs.length ≤ 1000) (hs : zs.all (fun z => decide (z.size ≤ 1000)) = true) : Strs w (.slice (some ⟨g, 0, none⟩) zs.length zs.length) zs :=
  ⟨⟨_, zs.length, rfl, Nat.le_refl _, by unfold maxLen; omega, (fun h => by cases h), fun _ => ⟨g, 0, rfl, h.lt, fun j u hu => by
    rw [Nat.zero_add, h.cell j, ← hu, hc]
    exact List.getElem?_toArray⟩⟩, fun e he => by have := List.all_eq_true.1 hs e he; simp at this; unfold maxLen; omega⟩
def RowPost (w : World) (e : Ending) (w' : World) : Prop := ∃ v' zs, e = .returned v' ∧ OwnI w' w.heap.size v' zs ∧ zs.length ≤ 61
theorem among_lit (p m g k : Nat) (zs : List Int) (w : World) {t : TypeId} (h : Cur w p m) (hm : m ≤ 100000000000) (hB : Box w g t (zs.map (Value.int .i64)).toArray) (hg : g ≠ p) (hk : zs.length = k) (h0 : 0 < k) (h1 : k ≤ 1000) :
    Calls Tryd.prog 56 #[.pointer (some ⟨p, 0, none⟩), .slice (some ⟨g, 0, none⟩) k k] w fun e w' => ∃ x : Int, e = .returned (.int .i64 x) ∧ x ∈ zs ∧ Cur w' p (m + 2) ∧ Only [p] w w' := by
  subst hk
  exact among_any p m _ _ _ zs w h hm (ints_lit zs hB rfl h1) rfl h0 (by omega) (fun a e => by cases e; exact hg)
theorem of_lit (p m g k : Nat) (zs : List ByteArray) (w : World) {t : TypeId} (h : Cur w p m) (hm : m ≤ 100000000000) (hB : Box w g t (zs.map Value.string).toArray) (hg : g ≠ p) (hk : zs.length = k) (h0 : 0 < k) (h1 : k ≤ 1000) (hs : zs.all (fun z => decide (z.size ≤ 1000)) = true) :
    Calls Tryd.prog 31 #[.pointer (some ⟨p, 0, none⟩), .slice (some ⟨g, 0, none⟩) k k] w fun e w' => ∃ x : ByteArray, e = .returned (.string x) ∧ x ∈ zs ∧ Cur w' p (m + 2) ∧ Only [p] w w' := by
  subst hk
  exact of_any p m _ _ _ zs w h hm (strs_lit zs hB rfl h1 hs) rfl h0 (by omega) (fun a e => by cases e; exact hg)
end Go.Proofs.YtkkdhmbkpebajaaDoor

/- Elements and codes in memory. -/
namespace Go.Proofs.YtkkdhmbkpebajaaDoor
set_option linter.unusedVariables false
set_option linter.unusedSimpArgs false
open Go.RowKit

structure ElemD where
  name : ByteArray
  family : Int
  level : Int
  base : Int
structure CodeD where
  elems : List ElemD
  limits : List Int
  repeats : Int
  bonus : Int
  keeps : Int
  fall : Int
def cells4 (e : ElemD) : List Value := [.string e.name, .int .i64 e.family, .int .i64 e.level, .int .i64 e.base]
def Elems (w : World) (v : Value) (es : List ElemD) : Prop := Seq w v es.length (es.flatMap cells4) ∧ ∀ e ∈ es, e.name.size ≤ maxLen
def CodeAt (w : World) (v : Value) (c : CodeD) : Prop :=
  ∃ ev lv, v = .agg #[ev, lv, .int .i64 c.repeats, .int .i64 c.bonus, .int .i64 c.keeps, .int .i64 c.fall] ∧ Elems w ev c.elems ∧ Ints w lv c.limits
def ElemAt (_ : World) (v : Value) (e : ElemD) : Prop := v = .agg #[.string e.name, .int .i64 e.family, .int .i64 e.level, .int .i64 e.base] ∧ e.name.size ≤ maxLen
theorem ElemAt.mk (e : ElemD) (w : World) (h : e.name.size ≤ maxLen) : ElemAt w (.agg #[.string e.name, .int .i64 e.family, .int .i64 e.level, .int .i64 e.base]) e := ⟨rfl, h⟩
theorem ElemAt.kept {w w' : World} {v : Value} {e : ElemD} (h : ElemAt w v e) (_ : Kept w w') : ElemAt w' v e := h
theorem Elems.kept {w w' : World} {v : Value} {es : List ElemD} (h : Elems w v es) (hk : Kept w w') : Elems w' v es := ⟨h.1.kept hk, h.2⟩
theorem CodeAt.kept {w w' : World} {v : Value} {c : CodeD} (h : CodeAt w v c) (hk : Kept w w') : CodeAt w' v c := by
  obtain ⟨ev, lv, e, h1, h2⟩ := h
  exact ⟨ev, lv, e, h1.kept hk, h2.kept hk⟩
def OwnE (w : World) (base : Nat) (v : Value) (es : List ElemD) : Prop := w.ownsRow base 75 4 v es.length (es.flatMap cells4) ∧ ∀ e ∈ es, e.name.size ≤ maxLen
theorem fpA_code (a b : Value) (p q r s : Int) : fpA (.agg #[a, b, .int .i64 p, .int .i64 q, .int .i64 r, .int .i64 s]) = fp a ++ fp b := by
  simp [fpA, fp, Value.ownBlock]
def OwnK (w : World) (base : Nat) (v : Value) (c : CodeD) : Prop :=
  ∃ ev lv, v = .agg #[ev, lv, .int .i64 c.repeats, .int .i64 c.bonus, .int .i64 c.keeps, .int .i64 c.fall] ∧ OwnE w base ev c.elems ∧ OwnI w base lv c.limits ∧ (fpA v).Nodup
theorem OwnE.elems {w : World} {base : Nat} {v : Value} {es : List ElemD} (h : OwnE w base v es) : Elems w v es := ⟨Seq.of_own h.1, h.2⟩
theorem OwnE.only {w w' : World} {base : Nat} {v : Value} {es : List ElemD} {S : List Nat} (h : OwnE w base v es) (ho : Only S w w') (hd : ∀ b ∈ fp v, b ∉ S) : OwnE w' base v es := ⟨own_only h.1 ho hd, h.2⟩
theorem OwnE.kept {w w' : World} {base : Nat} {v : Value} {es : List ElemD} (h : OwnE w base v es) (hk : Kept w w') : OwnE w' base v es := ⟨own_kept h.1 hk, h.2⟩
theorem OwnE.far {w w' : World} {base base' : Nat} {v : Value} {es : List ElemD} {S : List Nat} (h : OwnE w base v es) (ho : Only S w w') (hS : ∀ b ∈ S, b < base) (hb : base' ≤ base) : OwnE w' base' v es := ⟨own_far h.1 ho hS hb, h.2⟩
theorem OwnK.code {w : World} {base : Nat} {v : Value} {c : CodeD} (h : OwnK w base v c) : CodeAt w v c := by
  obtain ⟨ev, lv, e, h1, h2, _⟩ := h
  exact ⟨ev, lv, e, h1.elems, h2.ints⟩
theorem OwnK.only {w w' : World} {base : Nat} {v : Value} {c : CodeD} {S : List Nat} (h : OwnK w base v c) (ho : Only S w w') (hd : ∀ b ∈ fpA v, b ∉ S) : OwnK w' base v c := by
  obtain ⟨ev, lv, rfl, h1, h2, h3⟩ := h
  rw [fpA_code] at hd
  exact ⟨ev, lv, rfl, h1.only ho (fun b hb => hd b (List.mem_append_left _ hb)), h2.only ho (fun b hb => hd b (List.mem_append_right _ hb)), h3⟩
theorem OwnK.kept {w w' : World} {base : Nat} {v : Value} {c : CodeD} (h : OwnK w base v c) (hk : Kept w w') : OwnK w' base v c := h.only (hk.only []) (fun _ _ => List.not_mem_nil)
theorem OwnK.fps {w : World} {base : Nat} {v : Value} {c : CodeD} (h : OwnK w base v c) : ∀ b ∈ fpA v, base ≤ b ∧ b < w.heap.size := by
  obtain ⟨ev, lv, rfl, h1, h2, h3⟩ := h
  rw [fpA_code]
  intro b hb
  rcases List.mem_append.1 hb with hb | hb
  · exact own_fp h1.1 b hb
  · exact own_fp h2 b hb
/-- an element of a slice, its four cells -/
theorem elems_at {w : World} {A : Option Addr} {es : List ElemD} (h : SeqA w A es.length (es.flatMap cells4)) {k : Nat} (hk : k < es.length) :
    ∃ b o e, A = some ⟨b, o, none⟩ ∧ b < w.heap.size ∧ es[k]? = some e ∧
      (w.cell? ⟨b, o + k * 4, none⟩ = some (.string e.name) ∧ w.cell? ⟨b, o + k * 4 + 1, none⟩ = some (.int .i64 e.family) ∧ w.cell? ⟨b, o + k * 4 + 2, none⟩ = some (.int .i64 e.level) ∧ w.cell? ⟨b, o + k * 4 + 3, none⟩ = some (.int .i64 e.base)) := by
  obtain ⟨b, o, ea, hb, hcell⟩ := h (by omega)
  have h1 : es[k]? = some es[k] := List.getElem?_eq_getElem hk
  have hf := flat_get cells4 4 (fun _ => rfl) es k
  have hc : ∀ j, j < 4 → w.cell? ⟨b, o + k * 4 + j, none⟩ = (cells4 es[k])[j]? := fun j hj => by
    have := hf j hj
    rw [h1] at this
    have hs : (cells4 es[k])[j]? = some ((cells4 es[k])[j]'hj) := List.getElem?_eq_getElem hj
    rw [hs, Nat.add_assoc]
    exact hcell (k * 4 + j) _ (this.trans hs)
  exact ⟨b, o, es[k], ea, hb, h1, hc 0 (by omega), hc 1 (by omega), hc 2 (by omega), hc 3 (by omega)⟩
end Go.Proofs.YtkkdhmbkpebajaaDoor

/- Elements and codes: sizes, copies, comparisons. -/
namespace Go.Proofs.YtkkdhmbkpebajaaDoor
set_option linter.unusedVariables false
set_option linter.unusedSimpArgs false
open Go.RowKit

def ElemD.size (e : ElemD) : Nat := e.name.size
def elemsSize (es : List ElemD) : Nat := es.length + (es.map ElemD.size).sum
def CodeD.size (c : CodeD) : Nat := elemsSize c.elems + c.limits.length
theorem elem_size_le {es : List ElemD} {k : Nat} {e : ElemD} (h : es[k]? = some e) : e.size ≤ elemsSize es := by
  have := mem_le_sum (es.map ElemD.size) e.size (List.mem_map_of_mem (List.mem_of_getElem? h))
  unfold elemsSize
  omega
theorem code_parts (c : CodeD) : c.elems.length ≤ c.size ∧ c.limits.length ≤ c.size ∧ elemsSize c.elems ≤ c.size := by
  unfold CodeD.size elemsSize
  omega
/-! ### copies -/
theorem info_elem : (Tryd.prog.info? 75).map (fun i => (i.zero, i.size, i.bytes)) = some (some (.agg #[.string ByteArray.empty, .int .i64 0, .int .i64 0, .int .i64 0]), 4, 40) := by kernel_rfl
theorem set4_take {xs ys : List Value} {k n : Nat} {a b c d : Value} (hl : xs.length = n * 4) (hk : k < n) (ht : xs.take (k * 4) = ys) :
    ((((xs.set (k * 4) a).set (k * 4 + 1) b).set (k * 4 + 2) c).set (k * 4 + 3) d).take ((k + 1) * 4) = ys ++ [a, b, c, d] := by
  have h1 : k * 4 + 3 < xs.length := by omega
  rw [show (k + 1) * 4 = k * 4 + 3 + 1 from by omega]
  rw [take_snoc (x := d) (by rw [List.getElem?_set_self (by simp; omega)]), List.take_set_of_le (Nat.le_refl _)]
  rw [take_snoc (x := c) (by rw [List.getElem?_set_self (by simp; omega)]), List.take_set_of_le (Nat.le_refl _)]
  rw [take_snoc (x := b) (by rw [List.getElem?_set_self (by simp; omega)]), List.take_set_of_le (Nat.le_refl _)]
  rw [take_snoc (x := a) (by rw [List.getElem?_set_self (by omega)]), List.take_set_of_le (Nat.le_refl _), ht]
  simp
end Go.Proofs.YtkkdhmbkpebajaaDoor

/- append(out, xs...) to rows of the call's own, in the words of the readings. -/
namespace Go.Proofs.YtkkdhmbkpebajaaDoor
set_option linter.unusedVariables false
set_option linter.unusedSimpArgs false
open Go.RowKit

theorem wp_append_E (w : World) {o : Oper} {a : Act} {K : Act → World → Prop} {Q : Exit → Act → World → Prop} (s x : Operand)
    (ho : o.op = .call { callee := .builtin .append, args := #[s, x], argTypes := #[37, 37] })
    (base : Nat) (v : Value) (zs : List ElemD) (hs : a.eval s = v) (hown : OwnE w base v zs) (u : Value) (ys : List ElemD) (hx : a.eval x = u) (hr : Elems w u ys)
    (hl : zs.length + ys.length ≤ 16777216) (hbase : base ≤ w.heap.size)
    (h : ∀ v' w', OwnE w' base v' (zs ++ ys) → w.grownBy w' v.ownBlock → K (a.put o.dst v') w') : o.wp Tryd.prog a w K Q := by
  obtain ⟨i0, hi, hz0, hz1, hz2⟩ := info_parts info_elem
  refine wp_append_seq w s x 37 ho base 75 i0 _ 4 40 Tryd.underlying37 hi hz0 hz1 hz2 rfl (by omega) v zs.length _ hs hown.1 u ys.length _ hx hr.1 (by rw [flat_length cells4 4 (fun _ => rfl)]) ?_ (by unfold maxLen; omega) (by omega) hbase (fun v' w' q1 q2 => h v' w' ?_ q2)
  · intro y hy
    obtain ⟨e, _, he⟩ := List.mem_flatMap.1 hy; simp only [cells4, List.mem_cons, List.not_mem_nil, or_false] at he; rcases he with rfl | rfl | rfl | rfl <;> rfl
  · refine ⟨?_, ?_⟩
    · rw [List.length_append, List.flatMap_append]
      exact q1
    · intro e he
      rcases List.mem_append.1 he with he | he
      · exact hown.2 e he
      · exact hr.2 e he
theorem wpList_append_E (w : World) {ops : Array Oper} {rest : List Oper} {o : Oper} {a : Act} {Q : Exit → Act → World → Prop} (hgd : o.guard = none) (s x : Operand)
    (ho : o.op = .call { callee := .builtin .append, args := #[s, x], argTypes := #[37, 37] })
    (base : Nat) (v : Value) (zs : List ElemD) (hs : a.eval s = v) (hown : OwnE w base v zs) (u : Value) (ys : List ElemD) (hx : a.eval x = u) (hr : Elems w u ys)
    (hl : zs.length + ys.length ≤ 16777216) (hbase : base ≤ w.heap.size)
    (h : ∀ v' w', OwnE w' base v' (zs ++ ys) → w.grownBy w' v.ownBlock → wpList Tryd.prog ops Q rest (a.put o.dst v') w') : wpList Tryd.prog ops Q (o :: rest) a w :=
  wpList_plain hgd fun _ hK => wp_append_E w s x ho base v zs hs hown u ys hx hr hl hbase fun v' w' h2 h3 => hK _ _ (h v' w' h2 h3)
theorem step_append_E (w : World) {ops : Array Oper} {o : Oper} {a : Act} {K : Act → World → Prop} {Q : Exit → Act → World → Prop} {E : Prop} (hgd : o.guard = none) (s x : Operand)
    (ho : o.op = .call { callee := .builtin .append, args := #[s, x], argTypes := #[37, 37] })
    (base : Nat) (v : Value) (zs : List ElemD) (hs : a.eval s = v) (hown : OwnE w base v zs) (u : Value) (ys : List ElemD) (hx : a.eval x = u) (hr : Elems w u ys)
    (hl : zs.length + ys.length ≤ 16777216) (hbase : base ≤ w.heap.size)
    (h : ∀ v' w', OwnE w' base v' (zs ++ ys) → w.grownBy w' v.ownBlock → K (a.put o.dst v') w') :
    if Region.wanted o (yielded ops a.tmps) = true then Oper.wp Tryd.prog o a w K Q else E := by
  have hw : Region.wanted o (yielded ops a.tmps) = true := by simp [Region.wanted, hgd]
  rw [if_pos hw]
  exact wp_append_E w s x ho base v zs hs hown u ys hx hr hl hbase h
end Go.Proofs.YtkkdhmbkpebajaaDoor

/- append(out, xs...) to rows of elements and numbers: only the row's own block turns; where the new row lies. -/
namespace Go.Proofs.YtkkdhmbkpebajaaDoor
set_option linter.unusedVariables false
set_option linter.unusedSimpArgs false
open Go.RowKit

theorem wp_append_ED (w : World) {o : Oper} {a : Act} {K : Act → World → Prop} {Q : Exit → Act → World → Prop} (s x : Operand)
    (ho : o.op = .call { callee := .builtin .append, args := #[s, x], argTypes := #[37, 37] })
    (base : Nat) (v : Value) (zs : List ElemD) (hs : a.eval s = v) (hown : OwnE w base v zs) (u : Value) (ys : List ElemD) (hx : a.eval x = u) (hr : Elems w u ys)
    (hl : zs.length + ys.length ≤ 16777216) (hbase : base ≤ w.heap.size)
    (h : ∀ v' w', OwnE w' base v' (zs ++ ys) → Only (fp v) w w' → (∀ b ∈ fp v', b ∈ fp v ∨ b = w.heap.size) → K (a.put o.dst v') w') : o.wp Tryd.prog a w K Q := by
  obtain ⟨i0, hi, hz0, hz1, hz2⟩ := info_parts info_elem
  have h1 : ∀ y ∈ ys.flatMap cells4, y.oneCell' = true := by
    intro y hy
    obtain ⟨e, _, he⟩ := List.mem_flatMap.1 hy
    simp only [cells4, List.mem_cons, List.not_mem_nil, or_false] at he
    rcases he with rfl | rfl | rfl | rfl <;> rfl
  obtain ⟨v', w', hrun, h2, h3, h4⟩ := run_append_locG (P := Tryd.prog) w base 37 o.type 75 i0 _ 4 40 Tryd.underlying37 hi hz0 hz1 hz2 rfl (by omega) v zs.length _ hown.1 u ys.length (ys.flatMap cells4) hr.1 (flat_length cells4 4 (fun _ => rfl) ys) h1 (by unfold maxLen; omega) (by omega) hbase
  unfold Oper.wp execOp
  simp only [ho, resolve, invoke, builtin, Sem.run_bind, Sem.run_pure, Result.andThen_ok, List.map_toArray, List.map_cons, List.map_nil, hs, hx, hrun]
  refine h v' w' ⟨?_, fun e he => ?_⟩ (only_of_grown h3) (fun b hb => ?_)
  · rw [List.length_append, List.flatMap_append]
    exact h2
  · rcases List.mem_append.1 he with he | he
    · exact hown.2 e he
    · exact hr.2 e he
  · have hb' : v'.ownBlock = some b := by simpa [fp] using hb
    rcases h4 with h4 | h4
    · left; rw [h4] at hb'; simpa [fp] using hb'
    · right; rw [h4] at hb'; exact (Option.some.inj hb').symm
theorem wpList_append_ED (w : World) {ops : Array Oper} {rest : List Oper} {o : Oper} {a : Act} {Q : Exit → Act → World → Prop} (hgd : o.guard = none) (s x : Operand)
    (ho : o.op = .call { callee := .builtin .append, args := #[s, x], argTypes := #[37, 37] })
    (base : Nat) (v : Value) (zs : List ElemD) (hs : a.eval s = v) (hown : OwnE w base v zs) (u : Value) (ys : List ElemD) (hx : a.eval x = u) (hr : Elems w u ys)
    (hl : zs.length + ys.length ≤ 16777216) (hbase : base ≤ w.heap.size)
    (h : ∀ v' w', OwnE w' base v' (zs ++ ys) → Only (fp v) w w' → (∀ b ∈ fp v', b ∈ fp v ∨ b = w.heap.size) → wpList Tryd.prog ops Q rest (a.put o.dst v') w') : wpList Tryd.prog ops Q (o :: rest) a w :=
  wpList_plain hgd fun _ hK => wp_append_ED w s x ho base v zs hs hown u ys hx hr hl hbase fun v' w' h2 h3 h4 => hK _ _ (h v' w' h2 h3 h4)
theorem step_append_ED (w : World) {ops : Array Oper} {o : Oper} {a : Act} {K : Act → World → Prop} {Q : Exit → Act → World → Prop} {E : Prop} (hgd : o.guard = none) (s x : Operand)
    (ho : o.op = .call { callee := .builtin .append, args := #[s, x], argTypes := #[37, 37] })
    (base : Nat) (v : Value) (zs : List ElemD) (hs : a.eval s = v) (hown : OwnE w base v zs) (u : Value) (ys : List ElemD) (hx : a.eval x = u) (hr : Elems w u ys)
    (hl : zs.length + ys.length ≤ 16777216) (hbase : base ≤ w.heap.size)
    (h : ∀ v' w', OwnE w' base v' (zs ++ ys) → Only (fp v) w w' → (∀ b ∈ fp v', b ∈ fp v ∨ b = w.heap.size) → K (a.put o.dst v') w') :
    if Region.wanted o (yielded ops a.tmps) = true then Oper.wp Tryd.prog o a w K Q else E := by
  have hw : Region.wanted o (yielded ops a.tmps) = true := by simp [Region.wanted, hgd]
  rw [if_pos hw]
  exact wp_append_ED w s x ho base v zs hs hown u ys hx hr hl hbase h
/-- the same, numbers -/
theorem wp_append_ID (w : World) {o : Oper} {a : Act} {K : Act → World → Prop} {Q : Exit → Act → World → Prop} (s x : Operand)
    (ho : o.op = .call { callee := .builtin .append, args := #[s, x], argTypes := #[32, 32] })
    (base : Nat) (v : Value) (zs : List Int) (hs : a.eval s = v) (hown : OwnI w base v zs) (u : Value) (ys : List Int) (hx : a.eval x = u) (hr : Ints w u ys)
    (hl : zs.length + ys.length ≤ 16777216) (hbase : base ≤ w.heap.size)
    (h : ∀ v' w', OwnI w' base v' (zs ++ ys) → Only (fp v) w w' → (∀ b ∈ fp v', b ∈ fp v ∨ b = w.heap.size) → K (a.put o.dst v') w') : o.wp Tryd.prog a w K Q := by
  obtain ⟨i0, hi, hz0, hz1, hz2⟩ := info_parts info_int
  obtain ⟨v', w', hrun, h2, h3, h4⟩ := run_append_locG (P := Tryd.prog) w base 32 o.type 3 i0 _ 1 8 Tryd.underlying32 hi hz0 hz1 hz2 rfl (by omega) v zs.length _ hown u ys.length (ys.map (Value.int .i64)) hr (by simp) (fun y hy => by obtain ⟨_, _, rfl⟩ := List.mem_map.1 hy; rfl) (by unfold maxLen; omega) (by omega) hbase
  unfold Oper.wp execOp
  simp only [ho, resolve, invoke, builtin, Sem.run_bind, Sem.run_pure, Result.andThen_ok, List.map_toArray, List.map_cons, List.map_nil, hs, hx, hrun]
  refine h v' w' ?_ (only_of_grown h3) (fun b hb => ?_)
  · unfold OwnI
    rw [List.length_append, List.map_append]
    exact h2
  · have hb' : v'.ownBlock = some b := by simpa [fp] using hb
    rcases h4 with h4 | h4
    · left; rw [h4] at hb'; simpa [fp] using hb'
    · right; rw [h4] at hb'; exact (Option.some.inj hb').symm
end Go.Proofs.YtkkdhmbkpebajaaDoor

/- Which codes are valid. -/
namespace Go.Proofs.YtkkdhmbkpebajaaDoor
set_option linter.unusedVariables false
set_option linter.unusedSimpArgs false
open Go.RowKit

def elemB (x : ElemD) : Bool := nameB x.name && inB x.family 0 4 && inB x.level 0 4 && inB x.base 1 2000
def stepB (es : List ElemD) (k : Nat) : Bool :=
  match es[k]? with
  | none => true
  | some x => elemB x && (k == 0 || match es[k - 1]? with | none => false | some p => Op.bytesLess p.name.toList x.name.toList)
def headB (c : CodeD) : Bool := inB c.elems.length 1 24 && (c.limits.length == 5) && c.limits.all (inB · 0 9)
def restB (c : CodeD) : Bool := inB c.repeats 1 3 && inB c.bonus 0 20 && inB c.keeps 50 100 && inB c.fall 0 500
def elemsB (es : List ElemD) : Bool := (List.range es.length).all (stepB es)
def codeB (c : CodeD) : Bool := headB c && restB c && elemsB c.elems
theorem range_snoc {p : Nat → Bool} {k : Nat} (h : (List.range k).all p = true) (hk : p k = true) : (List.range (k + 1)).all p = true := by
  rw [List.range_succ, List.all_append, h]
  simp [hk]
theorem range_not {p : Nat → Bool} {k n : Nat} (h : k < n) (hk : p k = false) : (List.range n).all p = false := by
  rw [List.all_eq_false]
  exact ⟨k, by simpa using h, by simp [hk]⟩
theorem stepB_zero {es : List ElemD} {x : ElemD} (h : es[0]? = some x) : stepB es 0 = elemB x := by
  unfold stepB
  rw [h]
  simp
theorem stepB_succ {es : List ElemD} {k : Nat} {x p : ElemD} (h : es[k + 1]? = some x) (hp : es[k]? = some p) : stepB es (k + 1) = (elemB x && Op.bytesLess p.name.toList x.name.toList) := by
  unfold stepB
  rw [h]
  simp [hp]
theorem stepB_elem {es : List ElemD} {k : Nat} {x : ElemD} (h : es[k]? = some x) (hx : elemB x = false) : stepB es k = false := by
  unfold stepB
  rw [h]
  simp [hx]
theorem codeB_head {c : CodeD} (h : headB c = false) : codeB c = false := by unfold codeB; rw [h]; rfl
theorem codeB_rest {c : CodeD} (h : restB c = false) : codeB c = false := by unfold codeB; rw [h, Bool.and_false]; rfl
theorem codeB_elems {c : CodeD} (h : elemsB c.elems = false) : codeB c = false := by unfold codeB; rw [h, Bool.and_false]
theorem isFamily_any (n : Int) (w : World) :
    Calls Tryd.prog 69 #[.int .i64 n] w fun e w' => e = .returned (.bool (inB n 0 4)) ∧ w = w' := by
  go_enter Tryd.func69, Tryd.ntmps69
  go_wp2_with (go_at_call 43; refine (within_any _ _ _ _).mono ?_; rintro e w' ⟨rfl, rfl⟩)
  go_ret
  exact ⟨rfl, rfl⟩
set_option maxRecDepth 100000 in
set_option maxHeartbeats 2000000 in
theorem isCode_any (v : Value) (x : CodeD) (w : World) (h : CodeAt w v x) :
    Calls Tryd.prog 45 #[v] w fun e w' => e = .returned (.bool (codeB x)) ∧ Kept w w' := by
  obtain ⟨nv, mv, rfl, q1, q2⟩ := h
  obtain ⟨A, c, rfl, hnc, hcm, hl⟩ := q1.1.out
  obtain ⟨A2, c2, rfl, hnc2, hcm2, _⟩ := q2.out
  unfold maxLen at hcm hcm2
  have HL := Lib.hid hl
  have HS := Lib.hid q1.2
  have H2 := Lib.hid q2
  clear q1 q2 hl
  go_enter Tryd.func45, Tryd.ntmps45
  by_cases g1 : inB x.elems.length 1 24 = true
  case neg =>
    simp only [Bool.not_eq_true] at g1
    go_wp2_with (go_at_call 43; refine (within_any _ _ _ _).mono ?_; rintro e w' ⟨rfl, rfl⟩)
    go_ret
    exact ⟨ret_bool (codeB_head (by unfold headB; rw [g1]; rfl)).symm, (Kept.refl _).alloc _⟩
  by_cases g2' : x.limits.length = 5
  case neg =>
    have g2 : ((x.limits.length : Int) != 5) = true := bne_iff_ne.2 (by omega)
    go_wp2_with (go_at_call 43; refine (within_any _ _ _ _).mono ?_; rintro e w' ⟨rfl, rfl⟩)
    go_ret
    exact ⟨ret_bool (codeB_head (by unfold headB; rw [g1]; simp [g2'])).symm, (Kept.refl _).alloc _⟩
  have g2 : ((x.limits.length : Int) != 5) = false := by simp [g2']
  have G2 := Lib.hid g2'
  clear g2'
  by_cases g3 : x.limits.all (inB · 0 9) = true
  case neg =>
    simp only [Bool.not_eq_true] at g3
    go_wp2_with (first | (go_at_call 43; refine (within_any _ _ _ _).mono ?_; rintro e w' ⟨rfl, rfl⟩) | (go_at_call 63; refine (allWithin_any _ _ _ _ _ (H2.out.kept ((Kept.refl w).alloc _))).mono ?_; rintro e w' ⟨rfl, rfl⟩))
    go_ret
    exact ⟨ret_bool (codeB_head (by unfold headB; rw [g1, g3]; simp [G2.out])).symm, (Kept.refl _).alloc _⟩
  have HH := Lib.hid (show headB x = true from by unfold headB; rw [g1, g3]; simp [G2.out])
  by_cases g4 : inB x.repeats 1 3 = true
  case neg =>
    simp only [Bool.not_eq_true] at g4
    go_wp2_with (first | (go_at_call 43; refine (within_any _ _ _ _).mono ?_; rintro e w' ⟨rfl, rfl⟩) | (go_at_call 63; refine (allWithin_any _ _ _ _ _ (H2.out.kept ((Kept.refl w).alloc _))).mono ?_; rintro e w' ⟨rfl, rfl⟩))
    go_ret
    exact ⟨ret_bool (codeB_rest (by unfold restB; rw [g4]; rfl)).symm, (Kept.refl _).alloc _⟩
  by_cases g5 : inB x.bonus 0 20 = true
  case neg =>
    simp only [Bool.not_eq_true] at g5
    go_wp2_with (first | (go_at_call 43; refine (within_any _ _ _ _).mono ?_; rintro e w' ⟨rfl, rfl⟩) | (go_at_call 63; refine (allWithin_any _ _ _ _ _ (H2.out.kept ((Kept.refl w).alloc _))).mono ?_; rintro e w' ⟨rfl, rfl⟩))
    go_ret
    exact ⟨ret_bool (codeB_rest (by unfold restB; rw [g4, g5]; rfl)).symm, (Kept.refl _).alloc _⟩
  by_cases g6 : inB x.keeps 50 100 = true
  case neg =>
    simp only [Bool.not_eq_true] at g6
    go_wp2_with (first | (go_at_call 43; refine (within_any _ _ _ _).mono ?_; rintro e w' ⟨rfl, rfl⟩) | (go_at_call 63; refine (allWithin_any _ _ _ _ _ (H2.out.kept ((Kept.refl w).alloc _))).mono ?_; rintro e w' ⟨rfl, rfl⟩))
    go_ret
    exact ⟨ret_bool (codeB_rest (by unfold restB; rw [g4, g5, g6]; rfl)).symm, (Kept.refl _).alloc _⟩
  by_cases g7 : inB x.fall 0 500 = true
  case neg =>
    simp only [Bool.not_eq_true] at g7
    go_wp2_with (first | (go_at_call 43; refine (within_any _ _ _ _).mono ?_; rintro e w' ⟨rfl, rfl⟩) | (go_at_call 63; refine (allWithin_any _ _ _ _ _ (H2.out.kept ((Kept.refl w).alloc _))).mono ?_; rintro e w' ⟨rfl, rfl⟩))
    go_ret
    exact ⟨ret_bool (codeB_rest (by unfold restB; rw [g4, g5, g6, g7]; rfl)).symm, (Kept.refl _).alloc _⟩
  have HR : Hid (restB x = true) := by unfold restB; rw [g4, g5, g6, g7]; rfl
  go_wp2_with (first | (go_at_call 43; refine (within_any _ _ _ _).mono ?_; rintro e w' ⟨rfl, rfl⟩) | (go_at_call 63; refine (allWithin_any _ _ _ _ _ (H2.out.kept ((Kept.refl w).alloc _))).mono ?_; rintro e w' ⟨rfl, rfl⟩))
  clear g1 g2 g3 g4 g5 g6 g7
  have B0 := Box.new w w.heap.size 39 #[.slice A x.elems.length c, .slice A2 x.limits.length c2, .int .i64 x.repeats, .int .i64 x.bonus, .int .i64 x.keeps, .int .i64 x.fall] rfl
  have K0 : Kept w (w.alloc (.cells #[.slice A x.elems.length c, .slice A2 x.limits.length c2, .int .i64 x.repeats, .int .i64 x.bonus, .int .i64 x.keeps, .int .i64 x.fall] 39)) := (Kept.refl w).alloc _
  generalize w.alloc (.cells #[.slice A x.elems.length c, .slice A2 x.limits.length c2, .int .i64 x.repeats, .int .i64 x.bonus, .int .i64 x.keeps, .int .i64 x.fall] 39) = w0 at *
  go_loopw [47] (fun i wr => ∃ k : Nat, k ≤ x.elems.length ∧ i = .int .i64 k ∧ (List.range k).all (stepB x.elems) = true ∧ Kept w0 wr) (fun i _ => x.elems.length - (intOf i).toNat)
  case atStart => exact ⟨0, Nat.zero_le _, rfl, rfl, Kept.refl _⟩
  case round =>
    obtain ⟨k, hk, rfl, ha, hkept⟩ := hrel
    have HB := Lib.hid ha
    clear ha
    by_cases hlt : k < x.elems.length
    · obtain ⟨b, o, y, rfl, hb, h2, q0, q1, q2, q3⟩ := elems_at (HL.out.kept (K0.trans hkept)) hlt
      have hys := HS.out y (List.mem_of_getElem? h2)
      have HZ := Lib.hid h2
      clear h2
      by_cases he : elemB y = true
      case neg =>
        simp only [Bool.not_eq_true] at he
        have HE : Hid (codeB x = false) := codeB_elems (range_not hlt (stepB_elem HZ.out he))
        unfold elemB at he
        by_cases e1 : nameB y.name = true <;> by_cases e2 : inB y.family 0 4 = true <;> by_cases e3 : inB y.level 0 4 = true <;> by_cases e4 : inB y.base 1 2000 = true
        · simp [e1, e2, e3, e4] at he
        all_goals
          simp only [Bool.not_eq_true] at e1 e2 e3 e4
          clear he
          go_wp2_with (first | (go_at_call 68; refine (isElementName_any _ _ hys).mono ?_; rintro e w' ⟨rfl, rfl⟩) | (go_at_call 69; refine (isFamily_any _ _).mono ?_; rintro e w' ⟨rfl, rfl⟩) | (go_at_call 43; refine (within_any _ _ _ _).mono ?_; rintro e w' ⟨rfl, rfl⟩))
          go_ret
          exact ⟨ret_bool HE.out.symm, (K0.trans hkept).alloc _⟩
      have he' := he
      unfold elemB at he'
      simp only [Bool.and_eq_true] at he'
      obtain ⟨⟨⟨e1, e2⟩, e3⟩, e4⟩ := he'
      have HE := Lib.hid he
      clear he
      have KA : Kept wr (wr.alloc (.cells #[.string y.name, .int .i64 y.family, .int .i64 y.level, .int .i64 y.base] 75)) := (Kept.refl wr).alloc _
      obtain ⟨x0, y0⟩ := (B0.kept (hkept.trans KA)).six
      by_cases hk0 : k = 0
      · have HK := Lib.hid hk0
        have hd : decide ((0 : Int) < (k : Int)) = false := by simp; omega
        have hd2 : decide (0 < k) = false := by simp; omega
        clear hk0
        go_wp2_with (first | (go_at_call 68; refine (isElementName_any _ _ hys).mono ?_; rintro e w' ⟨rfl, rfl⟩) | (go_at_call 69; refine (isFamily_any _ _).mono ?_; rintro e w' ⟨rfl, rfl⟩) | (go_at_call 43; refine (within_any _ _ _ _).mono ?_; rintro e w' ⟨rfl, rfl⟩))
        go_quiet (fail)
        go_wp2_with fail
        go_roundw
        case rel => exact ⟨k + 1, by omega, by go_num, range_snoc HB.out (by have h := HZ.out; rw [HK.out] at h ⊢; rw [stepB_zero h]; exact HE.out), (hkept.trans KA).drewN _⟩
        case measure => simp [intOf]; omega
      · obtain ⟨j, hj⟩ : ∃ j, k = j + 1 := ⟨k - 1, by omega⟩
        obtain ⟨b', o', p, eA, hb', h2', q0', q1', q2', q3'⟩ := elems_at (HL.out.kept ((K0.trans hkept).trans KA)) (k := j) (by omega)
        injection eA with eA
        injection eA with eA1 eA2 eA3
        subst eA1 eA2
        have HP := Lib.hid h2'
        have HJ := Lib.hid hj
        have f3 : (j : Int) < (x.elems.length : Int) := by omega
        have f4 : (0 : Int) < (k : Int) := by omega
        have f5 : 0 < k := by omega
        have f1 : ((k : Int) - 1) = (j : Int) := by omega
        have f2 : IntKind.i64.wrap ((k : Int) - 1) = (j : Int) := by rw [f1]; exact IntWalk.i64_in _ (by omega)
        have HST : Hid (stepB x.elems k = (elemB y && Op.bytesLess p.name.toList y.name.toList)) := by have h := HZ.out; rw [hj] at h ⊢; exact stepB_succ h h2'
        clear h2' eA3 hj hk0
        by_cases hless : Op.bytesLess p.name.toList y.name.toList = true
        · go_wp2_with (first | (go_at_call 68; refine (isElementName_any _ _ hys).mono ?_; rintro e w' ⟨rfl, rfl⟩) | (go_at_call 69; refine (isFamily_any _ _).mono ?_; rintro e w' ⟨rfl, rfl⟩) | (go_at_call 43; refine (within_any _ _ _ _).mono ?_; rintro e w' ⟨rfl, rfl⟩))
          go_quiet (fail)
          go_wp2_with fail
          go_roundw
          case rel => exact ⟨k + 1, by omega, by go_num, range_snoc HB.out (by rw [HST.out, HE.out, hless]; rfl), (hkept.trans KA).drewN _⟩
          case measure => simp [intOf]; omega
        · simp only [Bool.not_eq_true] at hless
          have HF : Hid (codeB x = false) := codeB_elems (range_not hlt (by rw [HST.out, HE.out, hless]; rfl))
          go_wp2_with (first | (go_at_call 68; refine (isElementName_any _ _ hys).mono ?_; rintro e w' ⟨rfl, rfl⟩) | (go_at_call 69; refine (isFamily_any _ _).mono ?_; rintro e w' ⟨rfl, rfl⟩) | (go_at_call 43; refine (within_any _ _ _ _).mono ?_; rintro e w' ⟨rfl, rfl⟩))
          go_quiet (fail)
          go_wp2_with fail
          go_ret
          exact ⟨ret_bool HF.out.symm, ((K0.trans hkept).trans KA).drewN _⟩
    · obtain rfl : k = x.elems.length := by omega
      go_wp2_with fail
      go_ret
      exact ⟨ret_bool (by unfold codeB elemsB; rw [HH.out, HR.out, HB.out]; rfl), K0.trans hkept⟩
end Go.Proofs.YtkkdhmbkpebajaaDoor

/- Which codes are valid, the reference's reading. -/
namespace Go.Proofs.YtkkdhmbkpebajaaDoor
set_option linter.unusedVariables false
set_option linter.unusedSimpArgs false
open Go.RowKit

set_option maxHeartbeats 1000000 in
theorem cdElement_any (v : Value) (x : ElemD) (w : World) (h : ElemAt w v x) :
    Calls Tryd.prog 65 #[v] w fun e w' => e = .returned (.bool (elemB x)) ∧ Kept w w' := by
  obtain ⟨rfl, hs⟩ := h
  by_cases e1 : nameB x.name = true <;> by_cases e2 : inB x.family 0 4 = true <;> by_cases e3 : inB x.level 0 4 = true
  all_goals
    try simp only [Bool.not_eq_true] at e1
    try simp only [Bool.not_eq_true] at e2
    try simp only [Bool.not_eq_true] at e3
    go_enter Tryd.func65, Tryd.ntmps65
    go_wp2_with (first | (go_at_call 76; refine (cdName_any _ _ hs).mono ?_; rintro e w' ⟨rfl, rfl⟩) | (go_at_call 58; refine (l1In_any _ _ _ _).mono ?_; rintro e w' ⟨rfl, rfl⟩))
    go_ret
    exact ⟨ret_bool (by unfold elemB; simp only [e1, e2, e3, Bool.true_and, Bool.and_true, Bool.false_and, Bool.and_false]), (Kept.refl _).alloc _⟩
theorem cdElement_is (b : Bool) (v : Value) (x : ElemD) (w : World) (h : ElemAt w v x) (hb : elemB x = b) :
    Calls Tryd.prog 65 #[v] w fun e w' => e = .returned (.bool b) ∧ Kept w w' := hb ▸ cdElement_any v x w h
theorem codeB_parts (x : CodeD) : codeB x = (inB x.elems.length 1 24 && (x.limits.length == 5) && x.limits.all (inB · 0 9) && inB x.repeats 1 3 && inB x.bonus 0 20 && inB x.keeps 50 100 && inB x.fall 0 500 && elemsB x.elems) := by
  unfold codeB headB restB
  simp only [Bool.and_assoc]
set_option maxRecDepth 100000 in
set_option maxHeartbeats 2000000 in
theorem cdGood_any (v : Value) (x : CodeD) (w : World) (h : CodeAt w v x) :
    Calls Tryd.prog 41 #[v] w fun e w' => e = .returned (.bool (codeB x)) ∧ Kept w w' := by
  obtain ⟨nv, mv, rfl, q1, q2⟩ := h
  obtain ⟨A, c, rfl, hnc, hcm, hl⟩ := q1.1.out
  obtain ⟨A2, c2, rfl, hnc2, hcm2, _⟩ := q2.out
  unfold maxLen at hcm hcm2
  have HL := Lib.hid hl
  have HS := Lib.hid q1.2
  have H2 := Lib.hid q2
  clear q1 q2 hl
  go_enter Tryd.func41, Tryd.ntmps41
  go_wp2_with fail
  have B0 := Box.new w w.heap.size 39 #[.slice A x.elems.length c, .slice A2 x.limits.length c2, .int .i64 x.repeats, .int .i64 x.bonus, .int .i64 x.keeps, .int .i64 x.fall] rfl
  have K0 : Kept w (w.alloc (.cells #[.slice A x.elems.length c, .slice A2 x.limits.length c2, .int .i64 x.repeats, .int .i64 x.bonus, .int .i64 x.keeps, .int .i64 x.fall] 39)) := (Kept.refl w).alloc _
  generalize w.alloc (.cells #[.slice A x.elems.length c, .slice A2 x.limits.length c2, .int .i64 x.repeats, .int .i64 x.bonus, .int .i64 x.keeps, .int .i64 x.fall] 39) = w0 at *
  go_loopw [8] (fun i wr => ∃ k : Nat, k ≤ x.elems.length ∧ i = .int .i64 k ∧ (List.range k).all (stepB x.elems) = true ∧ Kept w0 wr) (fun i _ => x.elems.length - (intOf i).toNat)
  case atStart => exact ⟨0, Nat.zero_le _, rfl, rfl, Kept.refl _⟩
  case round =>
    obtain ⟨k, hk, rfl, ha, hkept⟩ := hrel
    have HB := Lib.hid ha
    clear ha
    by_cases hlt : k < x.elems.length
    · obtain ⟨b, o, y, rfl, hb, h2, q0, q1, q2, q3⟩ := elems_at (HL.out.kept (K0.trans hkept)) hlt
      have hys := HS.out y (List.mem_of_getElem? h2)
      have HZ := Lib.hid h2
      clear h2
      have KA : Kept wr (wr.alloc (.cells #[.string y.name, .int .i64 y.family, .int .i64 y.level, .int .i64 y.base] 75)) := (Kept.refl wr).alloc _
      have BY := Box.new wr wr.heap.size 75 #[.string y.name, .int .i64 y.family, .int .i64 y.level, .int .i64 y.base] rfl
      go_wp2_with fail
      replace BY : Box (wr.alloc (.cells #[.string y.name, .int .i64 y.family, .int .i64 y.level, .int .i64 y.base] 75)).drew wr.heap.size 75 #[.string y.name, .int .i64 y.family, .int .i64 y.level, .int .i64 y.base] := BY
      have KD := KA.drew
      replace B0 := B0.kept (hkept.trans KD)
      clear q0 q1 q2 q3
      have bc := fun s : After (wr.alloc (.cells #[.string y.name, .int .i64 y.family, .int .i64 y.level, .int .i64 y.base] 75)).drew => (BY.kept s.kept).four.1
      have kc := fun s : After (wr.alloc (.cells #[.string y.name, .int .i64 y.family, .int .i64 y.level, .int .i64 y.base] 75)).drew => (B0.kept s.kept).six.1.1
      by_cases he : elemB y = true
      case neg =>
        simp only [Bool.not_eq_true] at he
        have HE := Lib.hid (codeB_elems (range_not hlt (stepB_elem HZ.out he)))
        refine region_after (by kernel_rfl) (by kernel_rfl) ?_
        repeat (go_big_quiet_step ((go_at_call 65; exact after_of (cdElement_is false _ y _ (ElemAt.mk y _ hys) he))))
        refine wpQuiet_nil ?_
        intro wq hw'
        obtain ⟨⟨_, kq⟩, hw''⟩ := hw'
        subst hw''
        try dsimp only
        go_wp2_with fail
        go_ret
        exact ⟨ret_bool HE.out.symm, ((K0.trans hkept).trans KD).trans kq⟩
      have HE := Lib.hid he
      by_cases hk0 : k = 0
      · have HK := Lib.hid hk0
        have hd : decide ((0 : Int) < (k : Int)) = false := by simp; omega
        have hd2 : decide (0 < k) = false := by simp; omega
        clear hk0
        refine region_after (by kernel_rfl) (by kernel_rfl) ?_
        repeat (go_big_quiet_step ((go_at_call 65; exact after_of (cdElement_is true _ y _ (ElemAt.mk y _ hys) HE.out))))
        refine wpQuiet_nil ?_
        intro wq hw'
        obtain ⟨⟨_, kq⟩, hw''⟩ := hw'
        subst hw''
        try dsimp only
        go_wp2_with fail
        go_roundw
        case rel => exact ⟨k + 1, by omega, by go_num, range_snoc HB.out (by have h := HZ.out; rw [HK.out] at h ⊢; rw [stepB_zero h]; exact HE.out), (hkept.trans KD).trans kq⟩
        case measure => simp [intOf]; omega
      · obtain ⟨j, hj⟩ : ∃ j, k = j + 1 := ⟨k - 1, by omega⟩
        obtain ⟨b', o', p, eA, hb', h2', q0', q1', q2', q3'⟩ := elems_at (HL.out.kept ((K0.trans hkept).trans KD)) (k := j) (by omega)
        injection eA with eA
        injection eA with eA1 eA2 eA3
        subst eA1 eA2
        have f3 : (j : Int) < (x.elems.length : Int) := by omega
        have f4 : (0 : Int) < (k : Int) := by omega
        have f5 : 0 < k := by omega
        have f1 : ((k : Int) - 1) = (j : Int) := by omega
        have f2 : IntKind.i64.wrap ((k : Int) - 1) = (j : Int) := by rw [f1]; exact IntWalk.i64_in _ (by omega)
        have HST := Lib.hid (show stepB x.elems k = (elemB y && Op.bytesLess p.name.toList y.name.toList) from by have h := HZ.out; rw [hj] at h ⊢; exact stepB_succ h h2')
        have pc := After.cell q0' hb'
        clear h2' eA3 hj hk0 q0' q1' q2' q3'
        by_cases hless : Op.bytesLess p.name.toList y.name.toList = true
        · refine region_after (by kernel_rfl) (by kernel_rfl) ?_
          repeat (go_big_quiet_step ((go_at_call 65; exact after_of (cdElement_is true _ y _ (ElemAt.mk y _ hys) HE.out))))
          refine wpQuiet_nil ?_
          intro wq hw'
          obtain ⟨⟨_, kq⟩, hw''⟩ := hw'
          subst hw''
          try dsimp only
          go_wp2_with fail
          go_roundw
          case rel => exact ⟨k + 1, by omega, by go_num, range_snoc HB.out (by rw [HST.out, HE.out, hless]; rfl), (hkept.trans KD).trans kq⟩
          case measure => simp [intOf]; omega
        · simp only [Bool.not_eq_true] at hless
          have HF := Lib.hid (codeB_elems (range_not hlt (show stepB x.elems k = false by rw [HST.out, HE.out, hless]; rfl)))
          refine region_after (by kernel_rfl) (by kernel_rfl) ?_
          repeat (go_big_quiet_step ((go_at_call 65; exact after_of (cdElement_is true _ y _ (ElemAt.mk y _ hys) HE.out))))
          refine wpQuiet_nil ?_
          intro wq hw'
          obtain ⟨⟨_, kq⟩, hw''⟩ := hw'
          subst hw''
          try dsimp only
          go_wp2_with fail
          go_ret
          exact ⟨ret_bool HF.out.symm, ((K0.trans hkept).trans KD).trans kq⟩
    · obtain rfl : k = x.elems.length := by omega
      have HEB := Lib.hid (show codeB x = (inB x.elems.length 1 24 && (x.limits.length == 5) && x.limits.all (inB · 0 9) && inB x.repeats 1 3 && inB x.bonus 0 20 && inB x.keeps 50 100 && inB x.fall 0 500) from by
        rw [codeB_parts, show elemsB x.elems = true from HB.out, Bool.and_true])
      obtain ⟨x0, y0⟩ := (B0.kept hkept).six
      have hk2 := K0.trans hkept
      by_cases g1 : inB x.elems.length 1 24 = true
      case neg =>
        simp only [Bool.not_eq_true] at g1
        go_wp2_with (go_at_call 58; refine (l1In_any _ _ _ _).mono ?_; rintro e w' ⟨rfl, rfl⟩)
        go_ret
        exact ⟨ret_bool (by rw [HEB.out, g1]; rfl), hk2⟩
      by_cases g2' : x.limits.length = 5
      case neg =>
        have g2 : ((x.limits.length : Int) == 5) = false := beq_eq_false_iff_ne.2 (by omega)
        have G2 := Lib.hid (show (x.limits.length == 5) = false from beq_eq_false_iff_ne.2 g2')
        clear g2'
        go_wp2_with (go_at_call 58; refine (l1In_any _ _ _ _).mono ?_; rintro e w' ⟨rfl, rfl⟩)
        go_ret
        exact ⟨ret_bool (by rw [HEB.out, g1, G2.out]; rfl), hk2⟩
      have g2 : ((x.limits.length : Int) == 5) = true := by simp [g2']
      have G2 := Lib.hid (show (x.limits.length == 5) = true from by simp [g2'])
      clear g2'
      by_cases g3 : x.limits.all (inB · 0 9) = true
      case neg =>
        simp only [Bool.not_eq_true] at g3
        go_wp2_with (first | (go_at_call 58; refine (l1In_any _ _ _ _).mono ?_; rintro e w' ⟨rfl, rfl⟩) | (go_at_call 59; refine (l1All_any _ _ _ _ _ (H2.out.kept hk2)).mono ?_; rintro e w' ⟨rfl, rfl⟩))
        go_ret
        exact ⟨ret_bool (by rw [HEB.out, g1, G2.out, g3]; rfl), hk2⟩
      by_cases g4 : inB x.repeats 1 3 = true
      case neg =>
        simp only [Bool.not_eq_true] at g4
        go_wp2_with (first | (go_at_call 58; refine (l1In_any _ _ _ _).mono ?_; rintro e w' ⟨rfl, rfl⟩) | (go_at_call 59; refine (l1All_any _ _ _ _ _ (H2.out.kept hk2)).mono ?_; rintro e w' ⟨rfl, rfl⟩))
        go_ret
        exact ⟨ret_bool (by rw [HEB.out, g1, G2.out, g3, g4]; rfl), hk2⟩
      by_cases g5 : inB x.bonus 0 20 = true
      case neg =>
        simp only [Bool.not_eq_true] at g5
        go_wp2_with (first | (go_at_call 58; refine (l1In_any _ _ _ _).mono ?_; rintro e w' ⟨rfl, rfl⟩) | (go_at_call 59; refine (l1All_any _ _ _ _ _ (H2.out.kept hk2)).mono ?_; rintro e w' ⟨rfl, rfl⟩))
        go_ret
        exact ⟨ret_bool (by rw [HEB.out, g1, G2.out, g3, g4, g5]; rfl), hk2⟩
      by_cases g6 : inB x.keeps 50 100 = true
      case neg =>
        simp only [Bool.not_eq_true] at g6
        go_wp2_with (first | (go_at_call 58; refine (l1In_any _ _ _ _).mono ?_; rintro e w' ⟨rfl, rfl⟩) | (go_at_call 59; refine (l1All_any _ _ _ _ _ (H2.out.kept hk2)).mono ?_; rintro e w' ⟨rfl, rfl⟩))
        go_ret
        exact ⟨ret_bool (by rw [HEB.out, g1, G2.out, g3, g4, g5, g6]; rfl), hk2⟩
      go_wp2_with (first | (go_at_call 58; refine (l1In_any _ _ _ _).mono ?_; rintro e w' ⟨rfl, rfl⟩) | (go_at_call 59; refine (l1All_any _ _ _ _ _ (H2.out.kept hk2)).mono ?_; rintro e w' ⟨rfl, rfl⟩))
      go_ret
      exact ⟨ret_bool (by rw [HEB.out, g1, G2.out, g3, g4, g5, g6]; rfl), hk2⟩
end Go.Proofs.YtkkdhmbkpebajaaDoor
