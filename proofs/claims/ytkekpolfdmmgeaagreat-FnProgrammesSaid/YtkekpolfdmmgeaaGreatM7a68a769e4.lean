/- Contracts of functions that the proof leans on. No condition. -/
import Derived.Test.YtkekpolfdmmgeaaGreatMe8b96a8b1a
import Derived.Sort.Grow
import Derived.Deep.AppendLies
import Derived.Deep.RegionHeld3
import Derived.StillTail
/- Draws: bytes given, a cursor over them, its choices. -/
namespace Go.Proofs.YtkekpolfdmmgeaaGreat
set_option linter.unusedVariables false
set_option linter.unusedSimpArgs false
set_option linter.unnecessarySimpa false
open Go.RowKit

def BytA (w : World) (p : Nat) (A : Option Addr) (n : Nat) : Prop := 0 < n → ∃ b o, A = some ⟨b, o, none⟩ ∧ b < w.heap.size ∧ b < p ∧ ∀ j, j < n → ∃ z : Int, 0 ≤ z ∧ z ≤ 255 ∧ w.cell? ⟨b, o + j, none⟩ = some (.int .u8 z)
theorem Only.cell {S : List Nat} {w w' : World} (h : Only S w w') {p : Addr} (hp : p.block < w.heap.size) (hn : p.block ∉ S) : w'.cell? p = w.cell? p := World.cell?_of_block (w := w) (h.block p.block hp hn)
theorem BytA.only {w w' : World} {p : Nat} {A : Option Addr} {n : Nat} {S : List Nat} (h : BytA w p A n) (ho : Only S w w') (hS : ∀ x ∈ S, x = p ∨ w.heap.size ≤ x) : BytA w' p A n := by
  intro hn
  obtain ⟨b, o, e, hb, hp, hc⟩ := h hn
  refine ⟨b, o, e, Nat.lt_of_lt_of_le hb ho.size, hp, fun j hj => ?_⟩
  obtain ⟨z, h0, h1, hz⟩ := hc j hj
  refine ⟨z, h0, h1, (ho.cell (p := ⟨b, o + j, none⟩) hb (fun hx => ?_)).trans hz⟩
  rcases hS b hx with rfl | hge
  · omega
  · omega
/-- a cursor at p: at most m bytes have been read -/
def Cur (w : World) (p m : Nat) : Prop := ∃ (A : Option Addr) (n c at_ : Nat) (seed : Int), Box w p 54 #[.slice A n c, .int .i64 at_, .int .u64 seed] ∧ at_ ≤ m ∧ n ≤ c ∧ c ≤ maxLen ∧ BytA w p A n
theorem Cur.lt {w : World} {p m : Nat} (h : Cur w p m) : p < w.heap.size := by obtain ⟨_, _, _, _, _, hB, _⟩ := h; exact hB.lt
theorem Cur.le {w : World} {p m m' : Nat} (h : Cur w p m) (hm : m ≤ m') : Cur w p m' := by
  obtain ⟨A, n, c, a, s, hB, h1, h2⟩ := h
  exact ⟨A, n, c, a, s, hB, Nat.le_trans h1 hm, h2⟩
theorem Cur.kept {w w' : World} {p m : Nat} (h : Cur w p m) (k : Kept w w') : Cur w' p m := by
  obtain ⟨A, n, c, a, s, hB, h1, h2, h3, h4⟩ := h
  exact ⟨A, n, c, a, s, hB.kept k, h1, h2, h3, h4.only (k.only []) (fun x hx => by cases hx)⟩
theorem Cur.far {w w' : World} {p m : Nat} {S : List Nat} (h : Cur w p m) (k : Only S w w') (hS : ∀ x ∈ S, p < x) : Cur w' p m := by
  obtain ⟨A, n, c, a, s, hB, h1, h2, h3, h4⟩ := h
  refine ⟨A, n, c, a, s, hB.only k (fun hx => by have := hS p hx; omega), h1, h2, h3, fun hn => ?_⟩
  obtain ⟨b, o, e, hb, hp, hc⟩ := h4 hn
  refine ⟨b, o, e, Nat.lt_of_lt_of_le hb k.size, hp, fun j hj => ?_⟩
  obtain ⟨z, q0, q1, hz⟩ := hc j hj
  exact ⟨z, q0, q1, (k.cell (p := ⟨b, o + j, none⟩) hb (fun hx => by have := hS b hx; omega)).trans hz⟩
theorem Only.overD {w a b : World} {p : Nat} {S : List Nat} (h : Only [p] w a) (k : Only S a b) (hS : ∀ x ∈ S, w.heap.size ≤ x) : Only [p] w b :=
  ⟨k.os.trans h.os, k.tape.trans h.tape, k.output.trans h.output, Nat.le_trans h.size k.size, fun i hi hn => (k.block i (Nat.lt_of_lt_of_le hi h.size) (fun hx => by have := hS i hx; omega)).trans (h.block i hi hn)⟩
theorem OwnI.drawn {w w' : World} {p base : Nat} {v : Value} {zs : List Int} (h : OwnI w base v zs) (on : Only [p] w w') (hp : p < base) : OwnI w' base v zs :=
  h.only on (fun b hb hm => by rw [List.mem_singleton] at hm; have := (own_fp h b hb).1; omega)
theorem OwnS.drawn {w w' : World} {p base : Nat} {v : Value} {zs : List ByteArray} (h : OwnS w base v zs) (on : Only [p] w w') (hp : p < base) : OwnS w' base v zs :=
  h.only on (fun b hb hm => by rw [List.mem_singleton] at hm; have := (own_fp h.1 b hb).1; omega)
def lenV : Value → Nat
  | .slice _ n _ => n
  | _ => 0
theorem lenV_own {w : World} {base : Nat} {e : TypeId} {size : Nat} {v : Value} {n : Nat} {xs : List Value} (h : w.ownsRow base e size v n xs) : lenV v = n := by
  obtain ⟨A, c, rfl, _⟩ := own_form h
  rfl
theorem and255 (x : Int) : 0 ≤ bits .and .u64 x 255 ∧ bits .and .u64 x 255 ≤ 255 := by
  have h : ∀ a : BitVec 64, 0 ≤ IntKind.u64.wrap ((a &&& BitVec.ofInt 64 255).toNat) ∧ IntKind.u64.wrap ((a &&& BitVec.ofInt 64 255).toNat) ≤ 255 := fun a => by
    have h1 : (a &&& BitVec.ofInt 64 255).toNat ≤ 255 := by
      rw [BitVec.toNat_and]
      exact Nat.and_le_right
    have h2 : IntKind.u64.wrap (((a &&& BitVec.ofInt 64 255).toNat : Nat) : Int) = ((a &&& BitVec.ofInt 64 255).toNat : Nat) := IntWalk.u64_in _ (by omega)
    rw [h2]
    omega
  exact h _
theorem and255w (x : Int) : 0 ≤ wrap64 (bits .and .u64 x 255) ∧ wrap64 (bits .and .u64 x 255) ≤ 255 := by
  have h := and255 x
  rw [IntWalk.wrap64_in _ (by omega)]
  exact h
theorem next_any (p m : Nat) (w : World) (h : Cur w p m) (hm : m ≤ 1000000000000) :
    Calls Tryz.prog 58 #[.pointer (some ⟨p, 0, none⟩)] w fun e w' => ∃ x : Int, e = .returned (.int .i64 x) ∧ (0 ≤ x ∧ x ≤ 255) ∧ Cur w' p (m + 1) ∧ Only [p] w w' := by
  obtain ⟨A, n, c, at_, seed, hB, hat, hnc, hcm, hby⟩ := h
  obtain ⟨x0, y0⟩ := hB.three
  have hl := hB.lt
  have HB := Lib.hid hB
  have HBY := Lib.hid hby
  unfold maxLen at hcm
  have HC : Hid (∀ (a b : Nat) (s1 : Int), Cur ((((w.drewN a).setCell ⟨p, 1, none⟩ (.int .i64 ((at_ : Int) + 1))).setCell ⟨p, 2, none⟩ (.int .u64 s1)).drewN b) p (m + 1) ∧ Only [p] w ((((w.drewN a).setCell ⟨p, 1, none⟩ (.int .i64 ((at_ : Int) + 1))).setCell ⟨p, 2, none⟩ (.int .u64 s1)).drewN b)) := Lib.hid (fun a b s1 => by
    have ho : Only [p] w ((((w.drewN a).setCell ⟨p, 1, none⟩ (.int .i64 ((at_ : Int) + 1))).setCell ⟨p, 2, none⟩ (.int .u64 s1)).drewN b) := ((((Only.refl [p] w).drewN a).setCell (by simp) _).setCell (by simp) _).drewN b
    exact ⟨⟨A, n, c, at_ + 1, s1, (((HB.out.drewN a).set 1 _).set 2 _).drewN b, by omega, hnc, by unfold maxLen; omega, HBY.out.only ho (fun x hx => by rw [List.mem_singleton] at hx; exact .inl hx)⟩, ho⟩)
  clear hB hby
  by_cases hlt : at_ < n
  · obtain ⟨b, o, rfl, hbl, hbp, hc⟩ := HBY.out (by omega)
    obtain ⟨z, hz0, hz1, hx⟩ := hc at_ hlt
    have hle : (at_ : Int) + 1 ≤ (n : Int) := by omega
    clear hc
    go_enter Tryz.func58, Tryz.ntmps58
    go_wp2_with fail
    go_quiet (fail)
    go_wp2_with fail
    go_quiet (fail)
    go_wp2_with fail
    go_quiet (fail)
    go_wp2_with fail
    go_ret
    exact ⟨_, rfl, ⟨hz0, hz1⟩, (HC.out _ _ _).1, (HC.out _ _ _).2⟩
  · have hle : ¬ (at_ : Int) + 1 ≤ (n : Int) := by omega
    go_enter Tryz.func58, Tryz.ntmps58
    go_wp2_with fail
    go_quiet (fail)
    go_wp2_with fail
    go_quiet (fail)
    go_wp2_with fail
    go_ret
    exact ⟨_, rfl, and255w _, (HC.out _ _ _).1, (HC.out _ _ _).2⟩
theorem pick_any (p m : Nat) (n : Int) (w : World) (h : Cur w p m) (hm : m ≤ 100000000000) (hn : n ≤ 1000000000) :
    Calls Tryz.prog 24 #[.pointer (some ⟨p, 0, none⟩), .int .i64 n] w fun e w' => ∃ x : Int, e = .returned (.int .i64 x) ∧ (0 ≤ x ∧ (1 ≤ n → x < n)) ∧ Cur w' p (m + 2) ∧ Only [p] w w' := by
  have HC := Lib.hid h
  clear h
  by_cases h1 : n ≤ 1
  · go_enter Tryz.func24, Tryz.ntmps24
    go_wp2_with fail
    go_ret
    exact ⟨_, rfl, ⟨by omega, by omega⟩, HC.out.le (by omega), Only.refl _ _⟩
  · have C1 := Lib.hid (next_any p m w HC.out (by omega))
    by_cases h2 : 200 < n
    · go_enter Tryz.func24, Tryz.ntmps24
      go_wp2_with fail
      refine (C1.out).mono ?_
      rintro e w1 ⟨x, rfl, ⟨hx0, hx1⟩, c1, on1⟩
      have C2 := Lib.hid (next_any p (m + 1) w1 c1 (by omega))
      have ON1 := Lib.hid on1
      clear c1 on1
      go_wp2_with fail
      refine (C2.out).mono ?_
      rintro e w2 ⟨y, rfl, ⟨hy0, hy1⟩, c2, on2⟩
      have C3 := Lib.hid c2
      have ON2 := Lib.hid on2
      clear c2 on2
      go_wp2_with fail
      go_ret
      exact ⟨_, rfl, ⟨Int.emod_nonneg _ (by omega), fun _ => Int.emod_lt_of_pos _ (by omega)⟩, C3.out, ON1.out.trans ON2.out⟩
    · go_enter Tryz.func24, Tryz.ntmps24
      go_wp2_with fail
      refine (C1.out).mono ?_
      rintro e w1 ⟨x, rfl, ⟨hx0, hx1⟩, c1, on1⟩
      have C2 := Lib.hid (c1.le (m' := m + 2) (by omega))
      have ON1 := Lib.hid on1
      clear c1 on1
      go_wp2_with fail
      go_ret
      exact ⟨_, rfl, ⟨Int.emod_nonneg _ (by omega), fun _ => Int.emod_lt_of_pos _ (by omega)⟩, C2.out, ON1.out⟩
theorem one_any (p m : Nat) (n : Int) (w : World) (h : Cur w p m) (hm : m ≤ 100000000000) (hn : n ≤ 1000000000) :
    Calls Tryz.prog 23 #[.pointer (some ⟨p, 0, none⟩), .int .i64 n] w fun e w' => ∃ b : Bool, e = .returned (.bool b) ∧ Cur w' p (m + 2) ∧ Only [p] w w' := by
  have C := Lib.hid (pick_any p m n w h hm hn)
  clear h
  go_enter Tryz.func23, Tryz.ntmps23
  go_wp2_with fail
  refine (C.out).mono ?_
  rintro e w1 ⟨x, rfl, ⟨hx0, hx1⟩, c1, on1⟩
  have C2 := Lib.hid c1
  have ON1 := Lib.hid on1
  clear c1 on1
  go_wp2_with fail
  go_ret
  exact ⟨_, rfl, C2.out, ON1.out⟩
/-- a row that the cursor does not touch -/
theorem SeqA.only {S : List Nat} {w w' : World} {A : Option Addr} {n : Nat} {xs : List Value} (h : SeqA w A n xs) (ho : Only S w w') (hd : ∀ a, A = some a → a.block ∉ S) : SeqA w' A n xs := by
  intro hn
  obtain ⟨b, o, e, hb, hc⟩ := h hn
  exact ⟨b, o, e, Nat.lt_of_lt_of_le hb ho.size, fun j u hu => (ho.cell (p := ⟨b, o + j, none⟩) hb (hd ⟨b, o, none⟩ e)).trans (hc j u hu)⟩
theorem among_any (p m : Nat) (A : Option Addr) (k c : Nat) (zs : List Int) (w : World) (h : Cur w p m) (hm : m ≤ 100000000000) (hz : Ints w (.slice A k c) zs) (hk : k = zs.length) (h0 : 0 < zs.length) (h1 : zs.length ≤ 1000000) (hd : ∀ a, A = some a → a.block ≠ p) :
    Calls Tryz.prog 57 #[.pointer (some ⟨p, 0, none⟩), .slice A k c] w fun e w' => ∃ x : Int, e = .returned (.int .i64 x) ∧ x ∈ zs ∧ Cur w' p (m + 2) ∧ Only [p] w w' := by
  subst hk
  have C := Lib.hid (pick_any p m zs.length w h hm (by omega))
  have HA := Lib.hid hz.addr
  obtain ⟨_, _, e, hnc, hcm, _⟩ := hz.out
  cases e
  unfold maxLen at hcm
  clear h hz
  have HD := Lib.hid hd
  clear hd
  go_enter Tryz.func57, Tryz.ntmps57
  go_wp2_with fail
  refine (C.out).mono ?_
  rintro e w1 ⟨x, rfl, ⟨hx0, hx1⟩, c1, on1⟩
  obtain ⟨k, rfl⟩ : ∃ k : Nat, x = (k : Int) := ⟨x.toNat, by omega⟩
  have hk : k < zs.length := by have := hx1 (by omega); omega
  obtain ⟨b, o, z, rfl, hb, hzk, hc⟩ := ints_at (HA.out.only on1 (fun a ha hx => HD.out a ha (List.mem_singleton.1 hx))) hk
  have HM := Lib.hid (List.mem_of_getElem? hzk)
  have C2 := Lib.hid c1
  have ON1 := Lib.hid on1
  clear c1 on1 hzk hx1
  go_wp2_with fail
  go_ret
  exact ⟨_, rfl, HM.out, C2.out, ON1.out⟩
theorem of_any (p m : Nat) (A : Option Addr) (k c : Nat) (zs : List ByteArray) (w : World) (h : Cur w p m) (hm : m ≤ 100000000000) (hz : Strs w (.slice A k c) zs) (hk : k = zs.length) (h0 : 0 < zs.length) (h1 : zs.length ≤ 1000000) (hd : ∀ a, A = some a → a.block ≠ p) :
    Calls Tryz.prog 37 #[.pointer (some ⟨p, 0, none⟩), .slice A k c] w fun e w' => ∃ x : ByteArray, e = .returned (.string x) ∧ x ∈ zs ∧ Cur w' p (m + 2) ∧ Only [p] w w' := by
  subst hk
  have C := Lib.hid (pick_any p m zs.length w h hm (by omega))
  have HA := Lib.hid hz.1.addr
  obtain ⟨_, _, e, hnc, hcm, _⟩ := hz.1.out
  cases e
  unfold maxLen at hcm
  clear h hz
  have HD := Lib.hid hd
  clear hd
  go_enter Tryz.func37, Tryz.ntmps37
  go_wp2_with fail
  refine (C.out).mono ?_
  rintro e w1 ⟨x, rfl, ⟨hx0, hx1⟩, c1, on1⟩
  obtain ⟨k, rfl⟩ : ∃ k : Nat, x = (k : Int) := ⟨x.toNat, by omega⟩
  have hk : k < zs.length := by have := hx1 (by omega); omega
  obtain ⟨b, o, z, rfl, hb, hzk, hc⟩ := strs_at (HA.out.only on1 (fun a ha hx => HD.out a ha (List.mem_singleton.1 hx))) hk
  have HM := Lib.hid (List.mem_of_getElem? hzk)
  have C2 := Lib.hid c1
  have ON1 := Lib.hid on1
  clear c1 on1 hzk hx1
  go_wp2_with fail
  go_ret
  exact ⟨_, rfl, HM.out, C2.out, ON1.out⟩
end Go.Proofs.YtkekpolfdmmgeaaGreat

/- Draws of numbers, fractions and lists of numbers. -/
namespace Go.Proofs.YtkekpolfdmmgeaaGreat
set_option linter.unusedVariables false
set_option linter.unusedSimpArgs false
set_option linter.unnecessarySimpa false
open Go.RowKit

/-- a slice of bytes is given -/
def Byts (w : World) (v : Value) : Prop := ∃ (A : Option Addr) (n c : Nat), v = .slice A n c ∧ n ≤ c ∧ c ≤ maxLen ∧ (0 < n → ∃ b o, A = some ⟨b, o, none⟩ ∧ b < w.heap.size ∧ ∀ j, j < n → ∃ z : Int, 0 ≤ z ∧ z ≤ 255 ∧ w.cell? ⟨b, o + j, none⟩ = some (.int .u8 z))
theorem Byts.kept {w w' : World} {v : Value} (h : Byts w v) (k : Kept w w') : Byts w' v := by
  obtain ⟨A, n, c, rfl, h1, h2, h3⟩ := h
  refine ⟨A, n, c, rfl, h1, h2, fun hn => ?_⟩
  obtain ⟨b, o, e, hb, hc⟩ := h3 hn
  refine ⟨b, o, e, Nat.lt_of_lt_of_le hb k.size, fun j hj => ?_⟩
  obtain ⟨z, q0, q1, hz⟩ := hc j hj
  exact ⟨z, q0, q1, (k.cell (p := ⟨b, o + j, none⟩) hb).trans hz⟩
theorem Cur.init {w : World} {A : Option Addr} {n c : Nat} (hnc : n ≤ c) (hcm : c ≤ maxLen) (hb : 0 < n → ∃ b o, A = some ⟨b, o, none⟩ ∧ b < w.heap.size ∧ ∀ j, j < n → ∃ z : Int, 0 ≤ z ∧ z ≤ 255 ∧ w.cell? ⟨b, o + j, none⟩ = some (.int .u8 z)) :
    Cur (w.alloc (.cells #[.slice A n c, .int .i64 0, .int .u64 0] 54)) w.heap.size 0 := by
  have k : Kept w (w.alloc (.cells #[.slice A n c, .int .i64 0, .int .u64 0] 54)) := (Kept.refl w).alloc _
  refine ⟨A, n, c, 0, 0, Box.new w _ _ _ rfl, Nat.le_refl _, hnc, hcm, fun hn => ?_⟩
  obtain ⟨b, o, e, hbl, hc⟩ := hb hn
  refine ⟨b, o, e, Nat.lt_of_lt_of_le hbl k.size, hbl, fun j hj => ?_⟩
  obtain ⟨z, q0, q1, hz⟩ := hc j hj
  exact ⟨z, q0, q1, (k.cell (p := ⟨b, o + j, none⟩) hbl).trans hz⟩
theorem ints_lit {w : World} {g : Nat} {t : TypeId} {cs : Array Value} (zs : List Int) (h : Box w g t cs) (hc : cs = (zs.map (Value.int .i64)).toArray) (hl : zs.length ≤ 1000) : Ints w (.slice (some ⟨g, 0, none⟩) zs.length zs.length) zs :=
  ⟨_, zs.length, rfl, Nat.le_refl _, by unfold maxLen; omega, (fun h => by cases h), fun _ => ⟨g, 0, rfl, h.lt, fun j u hu => by
    rw [Nat.zero_add, h.cell j, ← hu, hc]
    exact List.getElem?_toArray⟩⟩
theorem strs_lit {w : World} {g : Nat} {t : TypeId} {cs : Array Value} (zs : List ByteArray) (h : Box w g t cs) (hc : cs = (zs.map Value.string).toArray) (hl : zs.length ≤ 1000) (hs : zs.all (fun z => decide (z.size ≤ 1000)) = true) : Strs w (.slice (some ⟨g, 0, none⟩) zs.length zs.length) zs :=
  ⟨⟨_, zs.length, rfl, Nat.le_refl _, by unfold maxLen; omega, (fun h => by cases h), fun _ => ⟨g, 0, rfl, h.lt, fun j u hu => by
    rw [Nat.zero_add, h.cell j, ← hu, hc]
    exact List.getElem?_toArray⟩⟩, fun e he => by have := List.all_eq_true.1 hs e he; simp at this; unfold maxLen; omega⟩
def RowPost (w : World) (e : Ending) (w' : World) : Prop := ∃ v' zs, e = .returned v' ∧ OwnI w' w.heap.size v' zs ∧ zs.length ≤ 61
theorem among_lit (p m g k : Nat) (zs : List Int) (w : World) {t : TypeId} (h : Cur w p m) (hm : m ≤ 100000000000) (hB : Box w g t (zs.map (Value.int .i64)).toArray) (hg : g ≠ p) (hk : zs.length = k) (h0 : 0 < k) (h1 : k ≤ 1000) :
    Calls Tryz.prog 57 #[.pointer (some ⟨p, 0, none⟩), .slice (some ⟨g, 0, none⟩) k k] w fun e w' => ∃ x : Int, e = .returned (.int .i64 x) ∧ x ∈ zs ∧ Cur w' p (m + 2) ∧ Only [p] w w' := by
  subst hk
  exact among_any p m _ _ _ zs w h hm (ints_lit zs hB rfl h1) rfl h0 (by omega) (fun a e => by cases e; exact hg)
theorem of_lit (p m g k : Nat) (zs : List ByteArray) (w : World) {t : TypeId} (h : Cur w p m) (hm : m ≤ 100000000000) (hB : Box w g t (zs.map Value.string).toArray) (hg : g ≠ p) (hk : zs.length = k) (h0 : 0 < k) (h1 : k ≤ 1000) (hs : zs.all (fun z => decide (z.size ≤ 1000)) = true) :
    Calls Tryz.prog 37 #[.pointer (some ⟨p, 0, none⟩), .slice (some ⟨g, 0, none⟩) k k] w fun e w' => ∃ x : ByteArray, e = .returned (.string x) ∧ x ∈ zs ∧ Cur w' p (m + 2) ∧ Only [p] w w' := by
  subst hk
  exact of_any p m _ _ _ zs w h hm (strs_lit zs hB rfl h1 hs) rfl h0 (by omega) (fun a e => by cases e; exact hg)
end Go.Proofs.YtkekpolfdmmgeaaGreat

/- append(out, xs...) to rows of the call's own, in the words of the readings. -/
namespace Go.Proofs.YtkekpolfdmmgeaaGreat
set_option linter.unusedVariables false
set_option linter.unusedSimpArgs false
open Go.RowKit

theorem wp_append_E (w : World) {o : Oper} {a : Act} {K : Act → World → Prop} {Q : Exit → Act → World → Prop} (s x : Operand)
    (ho : o.op = .call { callee := .builtin .append, args := #[s, x], argTypes := #[23, 23] })
    (base : Nat) (v : Value) (zs : List ElemD) (hs : a.eval s = v) (hown : OwnE w base v zs) (u : Value) (ys : List ElemD) (hx : a.eval x = u) (hr : Elems w u ys)
    (hl : zs.length + ys.length ≤ 16777216) (hbase : base ≤ w.heap.size)
    (h : ∀ v' w', OwnE w' base v' (zs ++ ys) → w.grownBy w' v.ownBlock → K (a.put o.dst v') w') : o.wp Tryz.prog a w K Q := by
  obtain ⟨i0, hi, hz0, hz1, hz2⟩ := info_parts info_elem
  refine wp_append_seq w s x 23 ho base 60 i0 _ 4 40 Tryz.underlying23 hi hz0 hz1 hz2 rfl (by omega) v zs.length _ hs hown.1 u ys.length _ hx hr.1 (by rw [flat_length cells4 4 (fun _ => rfl)]) ?_ (by unfold maxLen; omega) (by omega) hbase (fun v' w' q1 q2 => h v' w' ?_ q2)
  · intro y hy
    obtain ⟨e, _, he⟩ := List.mem_flatMap.1 hy; simp only [cells4, List.mem_cons, List.not_mem_nil, or_false] at he; rcases he with rfl | rfl | rfl | rfl <;> rfl
  · refine ⟨?_, ?_⟩
    · rw [List.length_append, List.flatMap_append]
      exact q1
    · intro e he
      rcases List.mem_append.1 he with he | he
      · exact hown.2 e he
      · exact hr.2 e he
theorem wpList_append_E (w : World) {ops : Array Oper} {rest : List Oper} {o : Oper} {a : Act} {Q : Exit → Act → World → Prop} (hgd : o.guard = none) (s x : Operand)
    (ho : o.op = .call { callee := .builtin .append, args := #[s, x], argTypes := #[23, 23] })
    (base : Nat) (v : Value) (zs : List ElemD) (hs : a.eval s = v) (hown : OwnE w base v zs) (u : Value) (ys : List ElemD) (hx : a.eval x = u) (hr : Elems w u ys)
    (hl : zs.length + ys.length ≤ 16777216) (hbase : base ≤ w.heap.size)
    (h : ∀ v' w', OwnE w' base v' (zs ++ ys) → w.grownBy w' v.ownBlock → wpList Tryz.prog ops Q rest (a.put o.dst v') w') : wpList Tryz.prog ops Q (o :: rest) a w :=
  wpList_plain hgd fun _ hK => wp_append_E w s x ho base v zs hs hown u ys hx hr hl hbase fun v' w' h2 h3 => hK _ _ (h v' w' h2 h3)
theorem step_append_E (w : World) {ops : Array Oper} {o : Oper} {a : Act} {K : Act → World → Prop} {Q : Exit → Act → World → Prop} {E : Prop} (hgd : o.guard = none) (s x : Operand)
    (ho : o.op = .call { callee := .builtin .append, args := #[s, x], argTypes := #[23, 23] })
    (base : Nat) (v : Value) (zs : List ElemD) (hs : a.eval s = v) (hown : OwnE w base v zs) (u : Value) (ys : List ElemD) (hx : a.eval x = u) (hr : Elems w u ys)
    (hl : zs.length + ys.length ≤ 16777216) (hbase : base ≤ w.heap.size)
    (h : ∀ v' w', OwnE w' base v' (zs ++ ys) → w.grownBy w' v.ownBlock → K (a.put o.dst v') w') :
    if Region.wanted o (yielded ops a.tmps) = true then Oper.wp Tryz.prog o a w K Q else E := by
  have hw : Region.wanted o (yielded ops a.tmps) = true := by simp [Region.wanted, hgd]
  rw [if_pos hw]
  exact wp_append_E w s x ho base v zs hs hown u ys hx hr hl hbase h
end Go.Proofs.YtkekpolfdmmgeaaGreat

/- Rows that the library sorts in place; copies with where they lie. -/
namespace Go.Proofs.YtkekpolfdmmgeaaGreat
set_option linter.unusedVariables false
set_option linter.unusedSimpArgs false
open Go.RowKit

theorem own_lt {w : World} {base g cap n : Nat} {e : TypeId} {xs : List Value} (h : w.ownsRow base e 1 (.slice (some ⟨g, 0, none⟩) n cap) n xs) : g < w.heap.size := by
  rcases h.2 with ⟨e1, _⟩ | ⟨g', cap', cur, e1, hb, hg, _⟩
  · cases e1
  · injection e1 with e1
    injection e1 with e1
    injection e1 with e1
    subst e1
    exact (Array.getElem?_eq_some_iff.1 hg).1
theorem holds_own {α : Type} [Inhabited α] {enc : α → Value} {w : World} {base g cap : Nat} {e : TypeId} {zs : List α} (h : w.ownsRow base e 1 (.slice (some ⟨g, 0, none⟩) zs.length cap) zs.length (zs.map enc)) : Go.Sort.Holds enc w g 0 zs.toArray := by
  intro j hj
  have hj' : j < zs.length := by simpa using hj
  rcases h.2 with ⟨e1, _⟩ | ⟨g', cap', cur, e1, hb, hg, _⟩
  · cases e1
  · injection e1 with e1
    injection e1 with e1
    injection e1 with e1
    subst e1
    refine ⟨?_, ?_⟩
    · rw [Nat.zero_add, h.cellAt j (by omega), List.getElem?_map, List.getElem?_eq_getElem hj']
      simp [hj']
    · simp [World.frozen?, hg]
theorem putRow_own {α : Type} [Inhabited α] (enc : α → Value) {w : World} {base g cap n : Nat} {e : TypeId} {xs : List Value} (h : w.ownsRow base e 1 (.slice (some ⟨g, 0, none⟩) n cap) n xs) {ys : List α} (hl : ys.length = n) (m : Nat) (os : Array Obj) :
    (Go.Sort.grow (Go.Sort.putRow enc (Go.Sort.ahead w m) g 0 ys.toArray) os).ownsRow base e 1 (.slice (some ⟨g, 0, none⟩) n cap) n (ys.map enc) ∧ Only [g] w (Go.Sort.grow (Go.Sort.putRow enc (Go.Sort.ahead w m) g 0 ys.toArray) os) := by
  rcases h.2 with ⟨e1, _⟩ | ⟨g', cap', cur, e1, hb, hg, hnc, hcm, hcs, ht⟩
  · cases e1
  · injection e1 with e1 e2 e3
    injection e1 with e1
    injection e1 with e1
    subst e1 e3
    have hlt : g < w.heap.size := (Array.getElem?_eq_some_iff.1 hg).1
    have hnew : (Go.Sort.grow (Go.Sort.putRow enc (Go.Sort.ahead w m) g 0 ys.toArray) os).heap[g]? = some (.cells (Go.Sort.putCells enc 0 ys.toArray cur) e (0, 0)) := by
      rw [Go.Sort.heap_grow_old _ _ (by simpa using hlt)]
      simp [Go.Sort.putRow, Go.Sort.mapBlock, Array.getElem?_modify, hg, Go.Sort.onCells]
    refine ⟨⟨by simp [hl], .inr ⟨g, cap, _, rfl, hb, hnew, hnc, hcm, by simp [Go.Sort.putCells]; simpa using hcs, ?_⟩⟩, ?_⟩
    · apply List.ext_getElem?
      intro j
      rw [List.getElem?_take]
      by_cases hj : j < n
      · rw [if_pos (by omega), Array.getElem?_toList]
        have hjc : j < cur.size := by omega
        simp [Go.Sort.putCells, Array.getElem?_mapIdx, hjc, hl, hj]
      · rw [if_neg (by omega), List.getElem?_eq_none (by simp [hl]; omega)]
    · refine ⟨rfl, rfl, rfl, by simp [Go.Sort.grow, Go.Sort.putRow, Go.Sort.mapBlock], fun i hi hn => ?_⟩
      rw [Go.Sort.heap_grow_old _ _ (by simpa using hi)]
      have hne : g ≠ i := fun e => hn (by simp [e])
      simp [Go.Sort.putRow, Go.Sort.mapBlock, Array.getElem?_modify, hne]
theorem run_append_locG {P : Program} (w : World) (base : Nat) (t ty e : TypeId) (i : TypeInfo) (z : Value) (size bytes : Nat) (ht : P.underlying t = some (.slice e)) (hi : P.info? e = some i) (hz : i.zero = some z)
    (hsize : i.size = size) (hby : i.bytes = bytes) (hzs : z.cells.size = size) (hsz : 0 < size)
    (v : Value) (n : Nat) (xs : List Value) (hown : w.ownsRow base e size v n xs)
    (u : Value) (m : Nat) (news : List Value) (hr : Seq w u m news) (hl : news.length = m * size) (h1 : ∀ y ∈ news, y.oneCell' = true)
    (h63 : n + m ≤ maxLen) (hbytes : (n + m) * bytes ≤ 140737488355328) (hbase : base ≤ w.heap.size) :
    ∃ v' w', (Builtin.append_ #[t, t] ty #[v, u]).run P w = .ok v' w' ∧ w'.ownsRow base e size v' (n + m) (xs ++ news) ∧ w.grownBy w' v.ownBlock ∧ (v'.ownBlock = v.ownBlock ∨ v'.ownBlock = some w.heap.size) := by
  obtain ⟨A, c, rfl, hnc, hcm, hA, hc⟩ := hr
  rcases A with _ | ad
  · obtain rfl := hA rfl
    obtain rfl : m = 0 := by omega
    obtain rfl : news = [] := List.eq_nil_of_length_eq_zero (by simpa using hl)
    exact ⟨v, w, run_append_of_nil w base t ty e i size ht hi v n xs hown 0, by simpa using hown, World.grownBy.refl w _, .inl rfl⟩
  · have hcells : ∀ j y, news[j]? = some y → w.cell? (ad.add j) = some y := by
      intro j y hy
      have hm : 0 < m := by
        rcases Nat.eq_zero_or_pos m with h0 | h0
        · subst h0
          have : news = [] := List.eq_nil_of_length_eq_zero (by simpa using hl)
          subst this
          simp at hy
        · exact h0
      obtain ⟨b, o', e1, hb, hcell⟩ := hc hm
      injection e1 with e1
      subst e1
      have := hcell j y hy
      rwa [show (⟨b, o', none⟩ : Addr).add j = ⟨b, o' + j, none⟩ from by unfold Addr.add; split <;> simp_all]
    obtain ⟨v', w', hrun, h2, h3, _, h5⟩ := run_append_own_at (P := P) w base t ty e i z size bytes ht hi hz hsize hby hzs hsz v n xs hown ad m c news hl hcells h1 h63 hbytes hbase
    exact ⟨v', w', hrun, h2, h3, h5⟩
set_option maxRecDepth 100000 in
theorem wpList_append_IL (w : World) {ops : Array Oper} {rest : List Oper} {o : Oper} {a : Act} {Q : Exit → Act → World → Prop} (hgd : o.guard = none) (s x : Operand)
    (ho : o.op = .call { callee := .builtin .append, args := #[s, x], argTypes := #[24, 24] })
    (base : Nat) (v : Value) (zs : List Int) (hs : a.eval s = v) (hown : OwnI w base v zs) (u : Value) (ys : List Int) (hx : a.eval x = u) (hr : Ints w u ys)
    (hl : zs.length + ys.length ≤ 16777216) (hbase : base ≤ w.heap.size)
    (h : ∀ v' w', OwnI w' base v' (zs ++ ys) → w.grownBy w' v.ownBlock → (v.ownBlock ≠ none → v'.ownBlock ≠ none) → wpList Tryz.prog ops Q rest (a.put o.dst v') w') : wpList Tryz.prog ops Q (o :: rest) a w := by
  refine wpList_plain hgd fun K hK => ?_
  obtain ⟨i0, hi, hz0, hz1, hz2⟩ := info_parts info_int
  obtain ⟨v', w', hrun, h2, h3, h4⟩ := run_append_locG (P := Tryz.prog) w base 24 o.type 3 i0 _ 1 8 Tryz.underlying24 hi hz0 hz1 hz2 rfl (by omega) v zs.length _ hown u ys.length (ys.map (Value.int .i64)) hr (by simp) (fun y hy => by obtain ⟨_, _, rfl⟩ := List.mem_map.1 hy; rfl) (by unfold maxLen; omega) (by omega) hbase
  unfold Oper.wp execOp
  simp only [ho, resolve, invoke, builtin, Sem.run_bind, Sem.run_pure, Result.andThen_ok, List.map_toArray, List.map_cons, List.map_nil, hs, hx, hrun]
  refine hK _ _ (h v' w' ?_ h3 (fun hv => ?_))
  · unfold OwnI; rw [List.length_append, List.map_append]; exact h2
  · rcases h4 with h4 | h4
    · rw [h4]; exact hv
    · rw [h4]; simp
set_option maxHeartbeats 1000000 in
theorem copyIntsL_any (v : Value) (zs : List Int) (w : World) (h : Ints w v zs) (hn : zs.length ≤ 1048576) :
    Calls Tryz.prog 95 #[v] w fun e w' => ∃ g cap, e = .returned (.slice (some ⟨g, 0, none⟩) zs.length cap) ∧ OwnI w' w.heap.size (.slice (some ⟨g, 0, none⟩) zs.length cap) zs ∧ Kept w w' := by
  have H := Lib.hid h
  obtain ⟨A, c, rfl, _, _, _⟩ := h.out
  clear h
  go_enter Tryz.func95, Tryz.ntmps95
  go_wp2_with (at_builtin; refine wpList_append_IL _ rfl _ _ rfl w.heap.size _ [] rfl (own_made _ _ 1 (Nat.le_refl _) (Box.new _ _ _ _ rfl)) _ zs rfl (H.out.kept ((Kept.refl _).alloc _)) (by simp; omega) (by simp) ?_; intro v' w' ho' hg hn')
  have kg := ((Kept.refl w).alloc (.cells #[] 3)).grew (own_made (base := w.heap.size) _ _ 1 (Nat.le_refl _) (Box.new _ _ _ _ rfl)) hg (Nat.le_refl _)
  have hv : v'.ownBlock ≠ none := hn' (fun h => by cases h)
  rw [List.nil_append] at ho'
  obtain ⟨g, cap, e, O⟩ : ∃ g cap, v' = .slice (some ⟨g, 0, none⟩) zs.length cap ∧ Hid (OwnI w' w.heap.size v' zs) := by
    rcases ho'.2 with ⟨rfl, _⟩ | ⟨g, cap, cur, e, _⟩
    · exact absurd rfl hv
    · exact ⟨g, cap, e, Lib.hid ho'⟩
  subst e
  clear ho' hn' hg hv
  go_ret
  exact ⟨g, cap, rfl, O.out, kg⟩
end Go.Proofs.YtkekpolfdmmgeaaGreat

/- append(out, xs...) to rows of elements and numbers: only the row's own block turns; where the new row lies. -/
namespace Go.Proofs.YtkekpolfdmmgeaaGreat
set_option linter.unusedVariables false
set_option linter.unusedSimpArgs false
open Go.RowKit

theorem wp_append_ED (w : World) {o : Oper} {a : Act} {K : Act → World → Prop} {Q : Exit → Act → World → Prop} (s x : Operand)
    (ho : o.op = .call { callee := .builtin .append, args := #[s, x], argTypes := #[23, 23] })
    (base : Nat) (v : Value) (zs : List ElemD) (hs : a.eval s = v) (hown : OwnE w base v zs) (u : Value) (ys : List ElemD) (hx : a.eval x = u) (hr : Elems w u ys)
    (hl : zs.length + ys.length ≤ 16777216) (hbase : base ≤ w.heap.size)
    (h : ∀ v' w', OwnE w' base v' (zs ++ ys) → Only (fp v) w w' → (∀ b ∈ fp v', b ∈ fp v ∨ b = w.heap.size) → K (a.put o.dst v') w') : o.wp Tryz.prog a w K Q := by
  obtain ⟨i0, hi, hz0, hz1, hz2⟩ := info_parts info_elem
  have h1 : ∀ y ∈ ys.flatMap cells4, y.oneCell' = true := by
    intro y hy
    obtain ⟨e, _, he⟩ := List.mem_flatMap.1 hy
    simp only [cells4, List.mem_cons, List.not_mem_nil, or_false] at he
    rcases he with rfl | rfl | rfl | rfl <;> rfl
  obtain ⟨v', w', hrun, h2, h3, h4⟩ := run_append_locG (P := Tryz.prog) w base 23 o.type 60 i0 _ 4 40 Tryz.underlying23 hi hz0 hz1 hz2 rfl (by omega) v zs.length _ hown.1 u ys.length (ys.flatMap cells4) hr.1 (flat_length cells4 4 (fun _ => rfl) ys) h1 (by unfold maxLen; omega) (by omega) hbase
  unfold Oper.wp execOp
  simp only [ho, resolve, invoke, builtin, Sem.run_bind, Sem.run_pure, Result.andThen_ok, List.map_toArray, List.map_cons, List.map_nil, hs, hx, hrun]
  refine h v' w' ⟨?_, fun e he => ?_⟩ (only_of_grown h3) (fun b hb => ?_)
  · rw [List.length_append, List.flatMap_append]
    exact h2
  · rcases List.mem_append.1 he with he | he
    · exact hown.2 e he
    · exact hr.2 e he
  · have hb' : v'.ownBlock = some b := by simpa [fp] using hb
    rcases h4 with h4 | h4
    · left; rw [h4] at hb'; simpa [fp] using hb'
    · right; rw [h4] at hb'; exact (Option.some.inj hb').symm
theorem wpList_append_ED (w : World) {ops : Array Oper} {rest : List Oper} {o : Oper} {a : Act} {Q : Exit → Act → World → Prop} (hgd : o.guard = none) (s x : Operand)
    (ho : o.op = .call { callee := .builtin .append, args := #[s, x], argTypes := #[23, 23] })
    (base : Nat) (v : Value) (zs : List ElemD) (hs : a.eval s = v) (hown : OwnE w base v zs) (u : Value) (ys : List ElemD) (hx : a.eval x = u) (hr : Elems w u ys)
    (hl : zs.length + ys.length ≤ 16777216) (hbase : base ≤ w.heap.size)
    (h : ∀ v' w', OwnE w' base v' (zs ++ ys) → Only (fp v) w w' → (∀ b ∈ fp v', b ∈ fp v ∨ b = w.heap.size) → wpList Tryz.prog ops Q rest (a.put o.dst v') w') : wpList Tryz.prog ops Q (o :: rest) a w :=
  wpList_plain hgd fun _ hK => wp_append_ED w s x ho base v zs hs hown u ys hx hr hl hbase fun v' w' h2 h3 h4 => hK _ _ (h v' w' h2 h3 h4)
theorem step_append_ED (w : World) {ops : Array Oper} {o : Oper} {a : Act} {K : Act → World → Prop} {Q : Exit → Act → World → Prop} {E : Prop} (hgd : o.guard = none) (s x : Operand)
    (ho : o.op = .call { callee := .builtin .append, args := #[s, x], argTypes := #[23, 23] })
    (base : Nat) (v : Value) (zs : List ElemD) (hs : a.eval s = v) (hown : OwnE w base v zs) (u : Value) (ys : List ElemD) (hx : a.eval x = u) (hr : Elems w u ys)
    (hl : zs.length + ys.length ≤ 16777216) (hbase : base ≤ w.heap.size)
    (h : ∀ v' w', OwnE w' base v' (zs ++ ys) → Only (fp v) w w' → (∀ b ∈ fp v', b ∈ fp v ∨ b = w.heap.size) → K (a.put o.dst v') w') :
    if Region.wanted o (yielded ops a.tmps) = true then Oper.wp Tryz.prog o a w K Q else E := by
  have hw : Region.wanted o (yielded ops a.tmps) = true := by simp [Region.wanted, hgd]
  rw [if_pos hw]
  exact wp_append_ED w s x ho base v zs hs hown u ys hx hr hl hbase h
/-- the same, numbers -/
theorem wp_append_ID (w : World) {o : Oper} {a : Act} {K : Act → World → Prop} {Q : Exit → Act → World → Prop} (s x : Operand)
    (ho : o.op = .call { callee := .builtin .append, args := #[s, x], argTypes := #[24, 24] })
    (base : Nat) (v : Value) (zs : List Int) (hs : a.eval s = v) (hown : OwnI w base v zs) (u : Value) (ys : List Int) (hx : a.eval x = u) (hr : Ints w u ys)
    (hl : zs.length + ys.length ≤ 16777216) (hbase : base ≤ w.heap.size)
    (h : ∀ v' w', OwnI w' base v' (zs ++ ys) → Only (fp v) w w' → (∀ b ∈ fp v', b ∈ fp v ∨ b = w.heap.size) → K (a.put o.dst v') w') : o.wp Tryz.prog a w K Q := by
  obtain ⟨i0, hi, hz0, hz1, hz2⟩ := info_parts info_int
  obtain ⟨v', w', hrun, h2, h3, h4⟩ := run_append_locG (P := Tryz.prog) w base 24 o.type 3 i0 _ 1 8 Tryz.underlying24 hi hz0 hz1 hz2 rfl (by omega) v zs.length _ hown u ys.length (ys.map (Value.int .i64)) hr (by simp) (fun y hy => by obtain ⟨_, _, rfl⟩ := List.mem_map.1 hy; rfl) (by unfold maxLen; omega) (by omega) hbase
  unfold Oper.wp execOp
  simp only [ho, resolve, invoke, builtin, Sem.run_bind, Sem.run_pure, Result.andThen_ok, List.map_toArray, List.map_cons, List.map_nil, hs, hx, hrun]
  refine h v' w' ?_ (only_of_grown h3) (fun b hb => ?_)
  · unfold OwnI
    rw [List.length_append, List.map_append]
    exact h2
  · have hb' : v'.ownBlock = some b := by simpa [fp] using hb
    rcases h4 with h4 | h4
    · left; rw [h4] at hb'; simpa [fp] using hb'
    · right; rw [h4] at hb'; exact (Option.some.inj hb').symm
end Go.Proofs.YtkekpolfdmmgeaaGreat

/- Codes copied by the reference and by the program. -/
namespace Go.Proofs.YtkekpolfdmmgeaaGreat
set_option linter.unusedVariables false
set_option linter.unusedSimpArgs false
open Go.RowKit

theorem Box.far6 {w : World} {b g : Nat} {t : TypeId} {cs : Array Value} (h : Box w b t cs) (hne : b ≠ g) (u0 u1 u2 u3 u4 u5 : Value) :
    Box ((((((w.setCell ⟨g, 0, none⟩ u0).setCell ⟨g, 1, none⟩ u1).setCell ⟨g, 2, none⟩ u2).setCell ⟨g, 3, none⟩ u3).setCell ⟨g, 4, none⟩ u4).setCell ⟨g, 5, none⟩ u5) b t cs :=
  (((((h.far ⟨g, 0, none⟩ hne u0).far ⟨g, 1, none⟩ hne u1).far ⟨g, 2, none⟩ hne u2).far ⟨g, 3, none⟩ hne u3).far ⟨g, 4, none⟩ hne u4).far ⟨g, 5, none⟩ hne u5
theorem set6 {w : World} {g : Nat} {t : TypeId} {x0 x1 x2 x3 x4 x5 : Value} (h : Box w g t #[x0, x1, x2, x3, x4, x5]) (u0 u1 u2 u3 u4 u5 : Value) :
    ∃ w3, w3 = ((((((w.setCell ⟨g, 0, none⟩ u0).setCell ⟨g, 1, none⟩ u1).setCell ⟨g, 2, none⟩ u2).setCell ⟨g, 3, none⟩ u3).setCell ⟨g, 4, none⟩ u4).setCell ⟨g, 5, none⟩ u5) ∧ Box w3 g t #[u0, u1, u2, u3, u4, u5] ∧ Only [g] w w3 := by
  refine ⟨_, rfl, (((((h.set 0 u0).set 1 u1).set 2 u2).set 3 u3).set 4 u4).set 5 u5, ?_⟩
  repeat (refine Only.setCell ?_ (by simp) _)
  exact Only.refl _ _
theorem l1Own_any (v : Value) (zs : List Int) (w : World) (h : Ints w v zs) (hn : zs.length ≤ 1048576) :
    Calls Tryz.prog 74 #[v] w fun e w' => ∃ v', e = .returned v' ∧ OwnI w' w.heap.size v' zs ∧ Kept w w' := by
  have H := Lib.hid h
  clear h
  go_enter Tryz.func74, Tryz.ntmps74
  go_wp2_with (at_builtin; refine wpList_append_I _ rfl _ _ rfl w.heap.size _ [] rfl (own_made _ _ 1 (Nat.le_refl _) (Box.new _ _ _ _ rfl)) _ zs rfl (H.out.kept ((Kept.refl _).alloc _)) (by simp; omega) (by simp) ?_; intro v' w' ho' hg)
  have kg := ((Kept.refl w).alloc (.cells #[] 3)).grew (own_made (base := w.heap.size) _ _ 1 (Nat.le_refl _) (Box.new _ _ _ _ rfl)) hg (Nat.le_refl _)
  go_ret
  exact ⟨_, rfl, ho', kg⟩
theorem copyInts_any (v : Value) (zs : List Int) (w : World) (h : Ints w v zs) (hn : zs.length ≤ 1048576) :
    Calls Tryz.prog 95 #[v] w fun e w' => ∃ v', e = .returned v' ∧ OwnI w' w.heap.size v' zs ∧ Kept w w' := by
  have H := Lib.hid h
  clear h
  go_enter Tryz.func95, Tryz.ntmps95
  go_wp2_with (at_builtin; refine wpList_append_I _ rfl _ _ rfl w.heap.size _ [] rfl (own_made _ _ 1 (Nat.le_refl _) (Box.new _ _ _ _ rfl)) _ zs rfl (H.out.kept ((Kept.refl _).alloc _)) (by simp; omega) (by simp) ?_; intro v' w' ho' hg)
  have kg := ((Kept.refl w).alloc (.cells #[] 3)).grew (own_made (base := w.heap.size) _ _ 1 (Nat.le_refl _) (Box.new _ _ _ _ rfl)) hg (Nat.le_refl _)
  go_ret
  exact ⟨_, rfl, ho', kg⟩
end Go.Proofs.YtkekpolfdmmgeaaGreat

/- Codes under construction by a draw: a box with a row of elements and a row of limits, beside a cursor. -/
namespace Go.Proofs.YtkekpolfdmmgeaaGreat
set_option linter.unusedVariables false
set_option linter.unusedSimpArgs false
set_option linter.unnecessarySimpa false
open Go.RowKit

/-- a code lies in a box (bb); the cursor at p; w1: the world in which the draw began -/
structure DrSt (p bb B m : Nat) (w1 wr : World) (c : CodeD) (ev lv : Value) : Prop where
  box : Box wr bb 26 #[ev, lv, .int .i64 c.repeats, .int .i64 c.bonus, .int .i64 c.keeps, .int .i64 c.fall]
  elems : OwnE wr B ev c.elems
  lims : OwnI wr B lv c.limits
  apart : ∀ b ∈ fp ev, b ∉ fp lv
  cur : Cur wr p m
  only : Only [p] w1 wr
  hp : p < w1.heap.size
  hbb : w1.heap.size ≤ bb
  hB : w1.heap.size ≤ B
  ne : ∀ b ∈ fp ev ++ fp lv, b ≠ bb
theorem not_one {l x : Nat} (h : l ≠ x) : l ∉ [x] := fun hm => by rw [List.mem_singleton] at hm; exact h hm
section
variable {p bb B m m' : Nat} {w1 wr w' : World} {c : CodeD} {ev lv : Value}
theorem DrSt.drawn (H : DrSt p bb B m w1 wr c ev lv) (cu : Cur w' p m') (on : Only [p] wr w') : DrSt p bb B m' w1 w' c ev lv := by
  have h1 := H.hp
  have h2 := H.hbb
  have h3 := H.hB
  refine ⟨H.box.only on (not_one (by omega)), H.elems.only on (fun b hb => not_one ?_), H.lims.only on (fun b hb => not_one ?_), H.apart, cu, H.only.trans on, h1, h2, h3, H.ne⟩
  · have := own_fp H.elems.1 b hb; omega
  · have := own_fp H.lims b hb; omega
theorem DrSt.kept (H : DrSt p bb B m w1 wr c ev lv) (k : Kept wr w') : DrSt p bb B m w1 w' c ev lv := H.drawn (H.cur.kept k) (k.only _)
theorem DrSt.le (H : DrSt p bb B m w1 wr c ev lv) (hm : m ≤ m') : DrSt p bb B m' w1 wr c ev lv := { H with cur := H.cur.le hm }
/-- a field of the code's box is written -/
theorem DrSt.poke (H : DrSt p bb B m w1 wr c ev lv) {c' : CodeD} (on : Only [bb] wr w') (hb : Box w' bb 26 #[ev, lv, .int .i64 c'.repeats, .int .i64 c'.bonus, .int .i64 c'.keeps, .int .i64 c'.fall]) (he : c'.elems = c.elems) (hl : c'.limits = c.limits) : DrSt p bb B m w1 w' c' ev lv := by
  have h1 := H.hp
  have h2 := H.hbb
  refine ⟨hb, ?_, ?_, H.apart, H.cur.far on (fun x hx => ?_), H.only.overD on (fun x hx => ?_), h1, h2, H.hB, H.ne⟩
  · rw [he]; exact H.elems.only on (fun b hb => not_one (H.ne b (List.mem_append_left _ hb)))
  · rw [hl]; exact H.lims.only on (fun b hb => not_one (H.ne b (List.mem_append_right _ hb)))
  · rw [List.mem_singleton] at hx; omega
  · rw [List.mem_singleton] at hx; omega
theorem only_set (w : World) (b i : Nat) (u : Value) : Only [b] w (w.setCell ⟨b, i, none⟩ u) := (Only.refl [b] w).setCell (by simp) _
theorem DrSt.repeats (H : DrSt p bb B m w1 wr c ev lv) (x : Int) : DrSt p bb B m w1 (wr.setCell ⟨bb, 2, none⟩ (.int .i64 x)) { c with repeats := x } ev lv := H.poke (only_set _ _ _ _) (H.box.set 2 _) rfl rfl
theorem DrSt.bonus (H : DrSt p bb B m w1 wr c ev lv) (x : Int) : DrSt p bb B m w1 (wr.setCell ⟨bb, 3, none⟩ (.int .i64 x)) { c with bonus := x } ev lv := H.poke (only_set _ _ _ _) (H.box.set 3 _) rfl rfl
theorem DrSt.keeps (H : DrSt p bb B m w1 wr c ev lv) (x : Int) : DrSt p bb B m w1 (wr.setCell ⟨bb, 4, none⟩ (.int .i64 x)) { c with keeps := x } ev lv := H.poke (only_set _ _ _ _) (H.box.set 4 _) rfl rfl
theorem DrSt.fall (H : DrSt p bb B m w1 wr c ev lv) (x : Int) : DrSt p bb B m w1 (wr.setCell ⟨bb, 5, none⟩ (.int .i64 x)) { c with fall := x } ev lv := H.poke (only_set _ _ _ _) (H.box.set 5 _) rfl rfl
/-- the row of elements has turned in its own block, or lies in a new one; the box not yet written -/
theorem DrSt.midE (H : DrSt p bb B m w1 wr c ev lv) (on : Only (fp ev) wr w') :
    Box w' bb 26 #[ev, lv, .int .i64 c.repeats, .int .i64 c.bonus, .int .i64 c.keeps, .int .i64 c.fall] ∧ Cur w' p m ∧ OwnI w' B lv c.limits ∧ Only [p] w1 w' := by
  have h1 := H.hp
  have h3 := H.hB
  have hf := own_fp H.elems.1
  exact ⟨H.box.only on (fun hb => H.ne bb (List.mem_append_left _ hb) rfl), H.cur.far on (fun x hx => by have := hf x hx; omega), H.lims.only on (fun b hb hb' => H.apart b hb' hb), H.only.overD on (fun x hx => by have := hf x hx; omega)⟩
theorem DrSt.setE (H : DrSt p bb B m w1 wr c ev lv) {es : List ElemD} {v' : Value} (on : Only (fp ev) wr w') (o : OwnE w' B v' es) (f : ∀ b ∈ fp v', b ∈ fp ev ∨ b = wr.heap.size) :
    DrSt p bb B m w1 (w'.setCell ⟨bb, 0, none⟩ v') { c with elems := es } v' lv := by
  have h1 := H.hp
  have h2 := H.hbb
  have h3 := H.hB
  have hl := H.box.lt
  obtain ⟨b1, c1, l1, n1⟩ := H.midE on
  have on5 := only_set w' bb 0 v'
  have w4 : ∀ b ∈ fp v', b ≠ bb ∧ b ∉ fp lv := fun b hb => by
    rcases f b hb with q | q
    · exact ⟨H.ne b (List.mem_append_left _ q), H.apart b q⟩
    · refine ⟨by omega, fun hx => ?_⟩
      have := own_fp H.lims b hx
      omega
  refine ⟨b1.set 0 v', o.only on5 (fun b hb => not_one (w4 b hb).1), l1.only on5 (fun b hb => not_one (H.ne b (List.mem_append_right _ hb))), fun b hb => (w4 b hb).2, c1.far on5 (fun x hx => ?_), n1.overD on5 (fun x hx => ?_), h1, h2, h3, fun b hb => ?_⟩
  · rw [List.mem_singleton] at hx; omega
  · rw [List.mem_singleton] at hx; omega
  · rcases List.mem_append.1 hb with hb | hb
    · exact (w4 b hb).1
    · exact H.ne b (List.mem_append_right _ hb)
theorem DrSt.midL (H : DrSt p bb B m w1 wr c ev lv) (on : Only (fp lv) wr w') :
    Box w' bb 26 #[ev, lv, .int .i64 c.repeats, .int .i64 c.bonus, .int .i64 c.keeps, .int .i64 c.fall] ∧ Cur w' p m ∧ OwnE w' B ev c.elems ∧ Only [p] w1 w' := by
  have h1 := H.hp
  have h3 := H.hB
  have hf := own_fp H.lims
  exact ⟨H.box.only on (fun hb => H.ne bb (List.mem_append_right _ hb) rfl), H.cur.far on (fun x hx => by have := hf x hx; omega), H.elems.only on (fun b hb hb' => H.apart b hb hb'), H.only.overD on (fun x hx => by have := hf x hx; omega)⟩
theorem DrSt.setL (H : DrSt p bb B m w1 wr c ev lv) {zs : List Int} {v' : Value} (on : Only (fp lv) wr w') (o : OwnI w' B v' zs) (f : ∀ b ∈ fp v', b ∈ fp lv ∨ b = wr.heap.size) :
    DrSt p bb B m w1 (w'.setCell ⟨bb, 1, none⟩ v') { c with limits := zs } ev v' := by
  have h1 := H.hp
  have h2 := H.hbb
  have h3 := H.hB
  have hl := H.box.lt
  obtain ⟨b1, c1, l1, n1⟩ := H.midL on
  have on5 := only_set w' bb 1 v'
  have w4 : ∀ b ∈ fp v', b ≠ bb ∧ b ∉ fp ev := fun b hb => by
    rcases f b hb with q | q
    · exact ⟨H.ne b (List.mem_append_right _ q), fun hx => H.apart b hx q⟩
    · refine ⟨by omega, fun hx => ?_⟩
      have := own_fp H.elems.1 b hx
      omega
  refine ⟨b1.set 1 v', l1.only on5 (fun b hb => not_one (H.ne b (List.mem_append_left _ hb))), o.only on5 (fun b hb => not_one (w4 b hb).1), fun b hb hb' => (w4 b hb').2 hb, c1.far on5 (fun x hx => ?_), n1.overD on5 (fun x hx => ?_), h1, h2, h3, fun b hb => ?_⟩
  · rw [List.mem_singleton] at hx; omega
  · rw [List.mem_singleton] at hx; omega
  · rcases List.mem_append.1 hb with hb | hb
    · exact H.ne b (List.mem_append_left _ hb)
    · exact (w4 b hb).1
theorem own_nil' (w : World) (B : Nat) : OwnE w B (.slice none 0 0) [] := ⟨⟨rfl, .inl ⟨rfl, rfl⟩⟩, fun _ h => by cases h⟩
theorem DrSt.nilE (H : DrSt p bb B m w1 wr c ev lv) : DrSt p bb B m w1 (wr.setCell ⟨bb, 0, none⟩ (.slice none 0 0)) { c with elems := [] } (.slice none 0 0) lv :=
  H.setE (Only.refl _ _) (own_nil' _ _) (fun b hb => by cases hb)
theorem DrSt.own (H : DrSt p bb B m w1 wr c ev lv) : OwnK wr B (.agg #[ev, lv, .int .i64 c.repeats, .int .i64 c.bonus, .int .i64 c.keeps, .int .i64 c.fall]) c := by
  refine ⟨ev, lv, rfl, H.elems, H.lims, ?_⟩
  rw [fpA_code, List.nodup_append]
  exact ⟨nodup_one _, nodup_one _, fun x hx y hy e => H.apart x hx (e ▸ hy)⟩
/-- a cell of an own row is written -/
theorem own_set {w : World} {base : Nat} {e : TypeId} {size n cap g j : Nat} {xs : List Value} (h : w.ownsRow base e size (.slice (some ⟨g, 0, none⟩) n cap) n xs) (u : Value) :
    (w.setCell ⟨g, j, none⟩ u).ownsRow base e size (.slice (some ⟨g, 0, none⟩) n cap) n (xs.set j u) := by
  obtain ⟨cur, hb, h1, h2, h3, h4⟩ := own_box h
  have hg := (own_fp h g (by simp [fp_some])).1
  refine own_of_box (hb.set j u) hg h1 h2 (by simp [h3]) ?_
  rw [← h4, Array.toList_setIfInBounds, List.take_set]
theorem flat_set (e' : ElemD) (u : Value) (j : Nat) (hj : j < 4) : ∀ (es : List ElemD) (k : Nat) (e : ElemD), es[k]? = some e → cells4 e' = (cells4 e).set j u → (es.flatMap cells4).set (k * 4 + j) u = (es.set k e').flatMap cells4
  | [], k, e, h, _ => by simp at h
  | x :: t, 0, e, h, hc => by
    simp only [List.getElem?_cons_zero, Option.some.injEq] at h
    subst h
    rw [List.set_cons_zero, List.flatMap_cons, List.flatMap_cons, hc, List.set_append_left _ _ (by rw [Nat.zero_mul, Nat.zero_add]; exact hj), Nat.zero_mul, Nat.zero_add]
  | x :: t, k + 1, e, h, hc => by
    rw [List.getElem?_cons_succ] at h
    have ih := flat_set e' u j hj t k e h hc
    have hl : (cells4 x).length = 4 := rfl
    rw [List.set_cons_succ, List.flatMap_cons, List.flatMap_cons, List.set_append_right _ _ (by rw [hl]; omega), hl, show (k + 1) * 4 + j - 4 = k * 4 + j from by omega, ih]
theorem DrSt.cellE (H : DrSt p bb B m w1 wr c ev lv) {g n cap k j : Nat} {e e' : ElemD} {u : Value} (hv : ev = .slice (some ⟨g, 0, none⟩) n cap) (hk : c.elems[k]? = some e) (hj : j < 4) (hc : cells4 e' = (cells4 e).set j u) (hs : e'.name.size ≤ maxLen) :
    DrSt p bb B m w1 (wr.setCell ⟨g, k * 4 + j, none⟩ u) { c with elems := c.elems.set k e' } ev lv := by
  subst hv
  have h1 := H.hp
  have h3 := H.hB
  have on : Only (fp (.slice (some ⟨g, 0, none⟩) n cap)) wr (wr.setCell ⟨g, k * 4 + j, none⟩ u) := only_set wr g _ u
  obtain ⟨b1, c1, l1, n1⟩ := H.midE on
  refine ⟨b1, ⟨?_, fun x hx => ?_⟩, l1, H.apart, c1, n1, h1, H.hbb, h3, H.ne⟩
  · obtain ⟨A, cc, e1, _⟩ := own_form H.elems.1
    have hn : n = c.elems.length := by injection e1
    subst hn
    have := own_set (j := k * 4 + j) H.elems.1 u
    rw [flat_set e' u j hj _ k e hk hc] at this
    show World.ownsRow _ B _ 4 _ (c.elems.set k e').length ((c.elems.set k e').flatMap cells4)
    rw [List.length_set]
    exact this
  · rcases List.mem_or_eq_of_mem_set hx with hx | hx
    · exact H.elems.2 x hx
    · rw [hx]; exact hs
theorem DrSt.cellL (H : DrSt p bb B m w1 wr c ev lv) {g n cap k : Nat} {x : Int} (hv : lv = .slice (some ⟨g, 0, none⟩) n cap) :
    DrSt p bb B m w1 (wr.setCell ⟨g, k, none⟩ (.int .i64 x)) { c with limits := c.limits.set k x } ev lv := by
  subst hv
  have h1 := H.hp
  have h3 := H.hB
  have on : Only (fp (.slice (some ⟨g, 0, none⟩) n cap)) wr (wr.setCell ⟨g, k, none⟩ (.int .i64 x)) := only_set wr g _ _
  obtain ⟨b1, c1, l1, n1⟩ := H.midL on
  refine ⟨b1, l1, ?_, H.apart, c1, n1, h1, H.hbb, h3, H.ne⟩
  obtain ⟨A, cc, e1, _⟩ := own_form H.lims
  have hn : n = c.limits.length := by injection e1
  subst hn
  have := own_set (j := k) H.lims (.int .i64 x)
  show World.ownsRow _ B _ 1 _ (c.limits.set k x).length ((c.limits.set k x).map (Value.int .i64))
  rw [List.length_set, List.map_set]
  exact this
end
end Go.Proofs.YtkekpolfdmmgeaaGreat

/- A region that draws its order and ends in a store to a cell that it reads: the last operation is put off; what is asked of the worlds on the way is not asked behind it. -/
namespace Go.Proofs.YtkekpolfdmmgeaaGreat
set_option linter.unusedVariables false
set_option linter.unusedSimpArgs false
open Go.RowKit

/-- the post, but the operations of t at a normal end -/
def tailPost (P : Program) (ops : Array Oper) (t : List Oper) (Q : Exit → Act → World → Prop) : Exit → Act → World → Prop
  | .normal, a, w => wpList P ops Q t a w
  | e, a, w => Q e a w
def popB (ops : Array Oper) (n : Nat) : Bool :=
  decide (ops.size = n + 1) && Region.sinkB .any ops n && Region.chainB .any ops n && ops.toList.all (fun o => o.guard.isNone) && (List.range ops.size).all fun i => match ops[i]? with
    | some o => o.after.toList.all fun e => !Region.binds .any e || decide (e.on < i)
    | none => true
section
variable {P : Program} {Q : Exit → Act → World → Prop}
theorem tail_wp {ops : Array Oper} {t : List Oper} {o : Oper} {a : Act} {w : World} {K : Act → World → Prop} (h : o.wp P a w K (tailPost P ops t Q)) : o.wp P a w K Q := by
  unfold Oper.wp at *
  generalize (execOp a.eval o).run P w = r at *
  cases r with
  | ok n w' =>
    cases n <;> simp only [Oper.upon] at h ⊢ <;>
      first
        | exact h
        | exact Calls.mono h (fun e w'' he => by cases e <;> exact he)
  | halt x w' => cases x <;> simp only [Oper.upon] at h ⊢ <;> exact h
theorem tail_letsOut {ops : Array Oper} {t : List Oper} (h : LetsOut (tailPost P ops t Q)) : LetsOut Q := by
  obtain ⟨a, w, h⟩ := h
  exact ⟨a, w, h⟩
theorem wanted_none {o : Oper} (h : o.guard = none) (y : Nat → Option Bool) : Region.wanted o y = true := by simp [Region.wanted, h]
theorem ready_pop {l : List Oper} {n i : Nat} (hl : l.length = n + 1) {listed : Array Bool} (hi : i < n) : i ∈ Region.ready .any (l.take n).toArray listed ↔ i ∈ Region.ready .any l.toArray listed := by
  rw [mem_ready, mem_ready]
  have e : (l.take n).toArray[i]? = l.toArray[i]? := by simp [List.getElem?_take, hi]
  rw [e]
theorem wpAny_pop {l : List Oper} {n : Nat} (hl : l.length = n + 1) (hs : Region.sinkB .any l.toArray n = true) (hc : Region.chainB .any l.toArray n = true) (hg : ∀ o ∈ l, o.guard = none)
    (hlow : ∀ i o, l.toArray[i]? = some o → ∀ e ∈ o.after, Region.binds .any e = true → e.on < i) :
    ∀ (fuel : Nat) (listed : Array Bool) (a : Act) (w : World), HeadInv .any l.toArray n listed → wpAny P .any (l.take n).toArray (tailPost P l.toArray (l.drop n) Q) fuel listed a w → wpAny P .any l.toArray Q (fuel + 1) listed a w := by
  have hn : n < l.toArray.size := by simp; omega
  -- where none of the head may come up, all of it has
  have hall : ∀ listed, HeadInv .any l.toArray n listed → Region.ready .any (l.take n).toArray listed = [] → ∀ i, i < n → listed.getD i true = true := by
    intro listed inv hr i
    induction i using Nat.strongRecOn with
    | _ i ih =>
      intro hi
      cases h0 : listed.getD i true with
      | true => rfl
      | false =>
        have hin : i ∈ Region.ready .any l.toArray listed := by
          have hlt : i < l.toArray.size := by omega
          refine mem_ready.2 ⟨h0, l.toArray[i], Array.getElem?_eq_getElem hlt, fun e he hb => ?_⟩
          have h1 := hlow i _ (Array.getElem?_eq_getElem hlt) e he hb
          have h2 := ih e.on h1 (by omega)
          have h3 : e.on < listed.size := by rw [inv.size]; omega
          simp [h3] at h2 ⊢
          exact h2
        rw [← ready_pop hl hi, hr] at hin
        cases hin
  have hlast : ∀ listed a w, HeadInv .any l.toArray n listed → Region.ready .any (l.take n).toArray listed = [] → wpList P l.toArray Q (l.drop n) a w → ∀ f, wpAny P .any l.toArray Q (f + 1) listed a w := by
    intro listed a w inv hr h f
    have ha := hall listed inv hr
    have hnr : n ∈ Region.ready .any l.toArray listed := by
      refine mem_ready.2 ⟨inv.tail n (Nat.le_refl _) hn, l.toArray[n], Array.getElem?_eq_getElem hn, fun e he hb => ?_⟩
      have h1 := hlow n _ (Array.getElem?_eq_getElem hn) e he hb
      have h2 := ha e.on h1
      have h3 : e.on < listed.size := by rw [inv.size]; omega
      simp [h3] at h2 ⊢
      exact h2
    have honly : ∀ i ∈ Region.ready .any l.toArray listed, i = n := by
      intro i hi
      obtain ⟨h0, o, ho, _⟩ := mem_ready.1 hi
      have hlt : i < l.toArray.size := (Array.getElem?_eq_some_iff.1 ho).1
      have hlt' : i < n + 1 := by simpa [hl] using hlt
      rcases Nat.lt_or_ge i n with hi' | hi'
      · rw [ha i hi'] at h0; cases h0
      · omega
    refine ⟨fun h0 => absurd h0 (List.ne_nil_of_mem hnr), fun i hi => ?_⟩
    obtain rfl := honly i hi
    have hd : l.drop i = [l[i]'(by omega)] := by
      rw [List.drop_eq_getElem_cons (by omega), List.drop_eq_nil_of_le (by omega)]
    rw [hd] at h
    have h0 : l.toArray[i]? = some (l[i]'(by omega)) := by simp
    have hw : wpOp P l.toArray Q i (wpList P l.toArray Q []) a w := by unfold wpOp; simp only [h0]; exact h
    refine wpOp_mono (fun a' w' h' => ?_) hw
    have hnone : Region.ready .any l.toArray (listed.setIfInBounds i true) = [] := by
      refine List.eq_nil_iff_forall_not_mem.2 fun j hj => ?_
      obtain ⟨h1, o, ho, _⟩ := mem_ready.1 hj
      have hlt : j < l.toArray.size := (Array.getElem?_eq_some_iff.1 ho).1
      have hlt' : j < i + 1 := by simpa [hl] using hlt
      by_cases hji : i = j
      · subst hji
        have : i < listed.size := by rw [inv.size]; omega
        simp [this] at h1
      · rw [getD_set_ne true hji] at h1
        rw [ha j (by omega)] at h1
        cases h1
    cases f with
    | zero => exact ⟨hnone, h'⟩
    | succ f => exact ⟨fun _ => h', by rw [hnone]; simp⟩
  intro fuel
  induction fuel with
  | zero => exact fun listed a w inv h => hlast listed a w inv h.1 h.2 0
  | succ fuel ih =>
    intro listed a w inv h
    by_cases hr : Region.ready .any (l.take n).toArray listed = []
    · exact hlast listed a w inv hr (h.1 hr) (fuel + 1)
    · obtain ⟨i0, hi0⟩ := List.exists_mem_of_ne_nil _ hr
      obtain ⟨hu0, o0, ho0, _⟩ := mem_ready.1 hi0
      have hi0n : i0 < n := by
        have := (Array.getElem?_eq_some_iff.1 ho0).1
        simp at this
        omega
      have hnot := tail_waits hs hc hn inv _ i0 rfl hi0n hu0
      refine ⟨fun h0 => ?_, fun i hi => ?_⟩
      · rw [ready_pop hl hi0n, h0] at hi0
        cases hi0
      · have hin : i < n := by
          rcases Nat.lt_or_ge i n with hi' | hi'
          · exact hi'
          · exact absurd hi (hnot i hi')
        have h1 := h.2 i ((ready_pop hl hin).2 hi)
        have e : (l.take n).toArray[i]? = l.toArray[i]? := by simp [List.getElem?_take, hin]
        have hlt : i < l.toArray.size := by omega
        have hgo : (l.toArray[i]).guard = none := hg _ (by simp)
        have e2 : l.toArray[i]? = some l.toArray[i] := Array.getElem?_eq_getElem hlt
        unfold wpOp at h1 ⊢
        rw [e, e2] at h1
        rw [e2]
        simp only [wanted_none hgo, if_true] at h1 ⊢
        rcases h1 with h1 | ⟨h1, h2⟩
        · exact .inl (Oper.wp_mono (fun a' w' h' => ih _ a' w' (inv.set hi hin) h') (tail_wp h1))
        · exact .inr ⟨h1, tail_letsOut h2⟩
theorem region_pop {S : World → Prop} {id : Nat} {a : Act} {w : World} {l : List Oper} (n : Nat) (hm : P.follows .mixedOrders = true) (hB : popB l.toArray n = true)
    (h : wpAnyH P .any (l.take n).toArray (tailPost P l.toArray (l.drop n) Q) S n (Array.replicate (n + 1) false) a w.drew) : (Code.region id l.toArray true).wp P Q a w := by
  simp only [popB, Bool.and_eq_true, decide_eq_true_eq] at hB
  obtain ⟨⟨⟨⟨hz, hs⟩, hc⟩, hg⟩, hlow⟩ := hB
  have hl : l.length = n + 1 := by simpa using hz
  have inv0 : HeadInv .any l.toArray n (Array.replicate (n + 1) false) :=
    ⟨by simp [hl], fun j oj _ hx => (by rw [getD_replicate_false] at hx; cases hx), fun t _ ht => getD_in (by simpa [hl] using ht) (getD_replicate_false _ _)⟩
  refine wp_region_any hm ?_
  have hsz : l.toArray.size = n + 1 := hz
  rw [hsz]
  refine wpAny_pop hl hs hc (fun o ho => ?_) (fun i o ho e he hb => ?_) n _ a _ inv0 (wpAny_of_held _ _ _ _ h)
  · have := List.all_eq_true.1 hg o ho
    exact Option.isNone_iff_eq_none.1 this
  · have hlt : i < l.toArray.size := (Array.getElem?_eq_some_iff.1 ho).1
    have h1 := List.all_eq_true.1 hlow i (List.mem_range.2 hlt)
    rw [ho] at h1
    have h2 := List.all_eq_true.1 h1 e (Array.mem_def.1 he)
    rw [hb] at h2
    simpa using h2
end
/-! the moves, for regions written out as lists -/
section
variable {P : Program} {Q : Exit → Act → World → Prop} {S : World → Prop} {md : Region.Mode}
theorem startL {l : List Oper} {fuel : Nat} {listed : Array Bool} {a : Act} {w : World} (hS : S w) (h : S w → wpAnyH P md l.toArray Q S fuel listed a w) : wpAnyH P md l.toArray Q S fuel listed a w := h hS
theorem takeL {i : Nat} {oi : Oper} {v : Value} {l : List Oper} {fuel : Nat} {listed : Array Bool} {a : Act} {w : World} (hi : l[i]? = some oi)
    (hs : Region.noSelect l.toArray = true) (hf : Region.free md l.toArray listed i = true) (hr : (Region.ready md l.toArray listed).contains i = true)
    (hQ : ∀ c a w, Q (.panic c) (a.put oi.dst v) w → Q (.panic c) a w) (hy : YieldsIf P l.toArray S oi v a) (hS : S w)
    (h : wpAnyH P md l.toArray Q S fuel (listed.setIfInBounds i true) (a.put oi.dst v) w) : wpAnyH P md l.toArray Q S (fuel + 1) listed a w :=
  wpAnyH_take (by simpa using hi) hs hf hr hQ hy hS h
theorem onlyL {i : Nat} {oi : Oper} {l : List Oper} {fuel : Nat} {listed : Array Bool} {a : Act} {w : World} (hi : l[i]? = some oi) (hr : Region.ready md l.toArray listed = [i])
    (h : ∀ K' : Act → World → Prop, Shut (∀ a w, S w → (S w → wpAnyH P md l.toArray Q S fuel (listed.setIfInBounds i true) a w) → K' a w) → if Region.wanted oi (yielded l.toArray a.tmps) = true then Oper.wp P oi a w K' Q else K' (a.put oi.dst undef) w) :
    wpAnyH P md l.toArray Q S (fuel + 1) listed a w :=
  wpAnyH_ready hr (by simp) (AllReadyH.cons (by simpa using hi) h AllReadyH.nil)
theorem doneL {l : List Oper} {fuel : Nat} {listed : Array Bool} {a : Act} {w : World} {ops : Array Oper} {t : List Oper} (hr : Region.ready md l.toArray listed = []) (h : wpList P ops Q t a w) :
    wpAnyH P md l.toArray (tailPost P ops t Q) S fuel listed a w := wpAnyH_done hr h fuel
theorem readyL {rs : List Nat} {l : List Oper} {fuel : Nat} {listed : Array Bool} {a : Act} {w : World} (hr : Region.ready md l.toArray listed = rs) (hne : rs ≠ [])
    (h : AllReadyH P md l.toArray Q S fuel listed a w rs) : wpAnyH P md l.toArray Q S (fuel + 1) listed a w := wpAnyH_ready hr hne h
theorem allNil {l : List Oper} {fuel : Nat} {listed : Array Bool} {a : Act} {w : World} : AllReadyH P md l.toArray Q S fuel listed a w [] := AllReadyH.nil
theorem consL {i : Nat} {oi : Oper} {rs : List Nat} {l : List Oper} {fuel : Nat} {listed : Array Bool} {a : Act} {w : World} (hi : l[i]? = some oi)
    (h : ∀ K' : Act → World → Prop, Shut (∀ a w, S w → (S w → wpAnyH P md l.toArray Q S fuel (listed.setIfInBounds i true) a w) → K' a w) → if Region.wanted oi (yielded l.toArray a.tmps) = true then Oper.wp P oi a w K' Q else K' (a.put oi.dst undef) w)
    (hs : AllReadyH P md l.toArray Q S fuel listed a w rs) : AllReadyH P md l.toArray Q S fuel listed a w (i :: rs) := AllReadyH.cons (by simpa using hi) h hs
end
end Go.Proofs.YtkekpolfdmmgeaaGreat
