/- Contracts of functions that the proof leans on. No condition. -/
import Derived.Test.YtfemfkmjfplcmaaMd436d647b7
/- Rows of numbers and of strings: the words for 'append(append(append([]T{}, l[:k]...), x), l[k:]...)'. -/
namespace Go.Proofs.Ytfemfkmjfplcmaa
set_option linter.unusedVariables false
set_option linter.unusedSimpArgs false
open Go.RowKit

theorem seq_to {w : World} {A : Option Addr} {n c : Nat} {xs : List Value} (h : Seq w (.slice A n c) n xs) {i : Nat} (hi : i ≤ n) : Seq w (.slice A i c) i (xs.take i) := by
  obtain ⟨A', c', e, h1, h2, h3, h4⟩ := h
  injection e with e1 e2 e3
  subst e1 e3
  refine ⟨A, c, rfl, by omega, h2, h3, fun hp => ?_⟩
  obtain ⟨b, o, e1, hb, hc⟩ := h4 (by omega)
  refine ⟨b, o, e1, hb, fun j u hu => hc j u ?_⟩
  rw [List.getElem?_take] at hu
  split at hu
  · exact hu
  · cases hu
theorem seq_from {w : World} {b o n c : Nat} {xs : List Value} (h : Seq w (.slice (some ⟨b, o, none⟩) n c) n xs) {k : Nat} (hk : k ≤ n) : Seq w (.slice (some ⟨b, o + k, none⟩) (n - k) (c - k)) (n - k) (xs.drop k) := by
  obtain ⟨A', c', e, h1, h2, h3, h4⟩ := h
  injection e with e1 e2 e3
  subst e1 e3
  refine ⟨_, c - k, rfl, by omega, by unfold maxLen at *; omega, (fun h => by cases h), fun hp => ?_⟩
  obtain ⟨b', o', e1, hb, hc⟩ := h4 (by omega)
  injection e1 with e1
  injection e1 with e1 e2
  subst e1 e2
  refine ⟨b, o + k, rfl, hb, fun j u hu => ?_⟩
  rw [List.getElem?_drop] at hu
  rw [Nat.add_assoc]
  exact hc _ u hu
theorem seq_none {w : World} {A : Option Addr} {xs : List Value} {k : Nat} (hk : xs.length ≤ k) : Seq w (.slice A 0 0) 0 (xs.drop k) := by
  rw [List.drop_of_length_le hk]
  exact ⟨A, 0, rfl, Nat.le_refl _, Nat.zero_le _, fun _ => rfl, fun h => absurd h (by simp)⟩
theorem seq_one {w : World} {g : Nat} {t : TypeId} {u : Value} (h : Box w g t #[u]) : Seq w (.slice (some ⟨g, 0, none⟩) 1 1) 1 [u] := by
  refine ⟨_, 1, rfl, Nat.le_refl _, by unfold maxLen; omega, (fun h => by cases h), fun _ => ⟨g, 0, rfl, h.lt, fun j v hv => ?_⟩⟩
  cases j with
  | zero =>
    have e : v = u := by simpa using hv.symm
    subst e
    exact h.cell 0
  | succ j => simp at hv
theorem ints_to {w : World} {A : Option Addr} {n c : Nat} {zs : List Int} (h : Ints w (.slice A n c) zs) (hn : zs.length = n) {i : Nat} (hi : i ≤ n) : Ints w (.slice A i c) (zs.take i) := by
  unfold Ints
  rw [List.length_take, hn, Nat.min_eq_left hi, List.map_take]
  unfold Ints at h
  rw [hn] at h
  exact seq_to h hi
theorem ints_from {w : World} {b o n c : Nat} {zs : List Int} (h : Ints w (.slice (some ⟨b, o, none⟩) n c) zs) (hn : zs.length = n) {k : Nat} (hk : k ≤ n) : Ints w (.slice (some ⟨b, o + k, none⟩) (n - k) (c - k)) (zs.drop k) := by
  unfold Ints
  rw [List.length_drop, hn, List.map_drop]
  unfold Ints at h
  rw [hn] at h
  exact seq_from h hk
theorem ints_none {w : World} {A : Option Addr} {zs : List Int} {k : Nat} (hk : zs.length ≤ k) : Ints w (.slice A 0 0) (zs.drop k) := by
  unfold Ints
  rw [List.length_drop, Nat.sub_eq_zero_of_le hk, List.map_drop]
  exact seq_none (by simpa using hk)
theorem ints_box1 {w : World} {g : Nat} {z : Int} (h : Box w g 3 #[.int .i64 z]) : Ints w (.slice (some ⟨g, 0, none⟩) 1 1) [z] := seq_one h
theorem step_put_I (a0 w : World) {ops : Array Oper} {o : Oper} {a : Act} {K : Act → World → Prop} {Q : Exit → Act → World → Prop} {E : Prop} (hgd : o.guard = none) (s x : Operand)
    (ho : o.op = .call { callee := .builtin .append, args := #[s, x], argTypes := #[36, 36] })
    (v : Value) (zs : List Int) (hs : a.eval s = v) (hown : OwnI w a0.heap.size v zs) (hk : Kept a0 w) (u : Value) (ys : List Int) (hx : a.eval x = u) (hr : Ints w u ys)
    (hl : zs.length + ys.length ≤ 16777216)
    (h : ∀ v' w', OwnI w' a0.heap.size v' (zs ++ ys) → Kept a0 w' → Only (fp v) w w' → K (a.put o.dst v') w') :
    if Region.wanted o (yielded ops a.tmps) = true then Oper.wp Try.prog o a w K Q else E :=
  step_append_I w hgd s x ho a0.heap.size v zs hs hown u ys hx hr hl hk.size fun v' w' h2 h3 =>
    h v' w' h2 ((only_of_grown h3).above hk (fun b hb => (own_fp hown b hb).1)) (only_of_grown h3)
theorem own0_I {w : World} {base g : Nat} (hg : base ≤ g) (h : Box w g 3 #[]) : OwnI w base (.slice (some ⟨g, 0, none⟩) 0 0) [] := own_made _ _ _ hg h
theorem strs_to {w : World} {A : Option Addr} {n c : Nat} {zs : List ByteArray} (h : Strs w (.slice A n c) zs) (hn : zs.length = n) {i : Nat} (hi : i ≤ n) : Strs w (.slice A i c) (zs.take i) := by
  refine ⟨?_, fun z hz => h.2 z (List.mem_of_mem_take hz)⟩
  rw [List.length_take, hn, Nat.min_eq_left hi, List.map_take]
  have h1 := h.1
  rw [hn] at h1
  exact seq_to h1 hi
theorem strs_from {w : World} {b o n c : Nat} {zs : List ByteArray} (h : Strs w (.slice (some ⟨b, o, none⟩) n c) zs) (hn : zs.length = n) {k : Nat} (hk : k ≤ n) : Strs w (.slice (some ⟨b, o + k, none⟩) (n - k) (c - k)) (zs.drop k) := by
  refine ⟨?_, fun z hz => h.2 z (List.mem_of_mem_drop hz)⟩
  rw [List.length_drop, hn, List.map_drop]
  have h1 := h.1
  rw [hn] at h1
  exact seq_from h1 hk
theorem strs_none {w : World} {A : Option Addr} {zs : List ByteArray} {k : Nat} (hk : zs.length ≤ k) : Strs w (.slice A 0 0) (zs.drop k) := by
  refine ⟨?_, fun z hz => by rw [List.drop_of_length_le hk] at hz; cases hz⟩
  rw [List.length_drop, Nat.sub_eq_zero_of_le hk, List.map_drop]
  exact seq_none (by simpa using hk)
theorem strs_box1 {w : World} {g : Nat} {z : ByteArray} (h : Box w g 9 #[.string z]) (hz : z.size ≤ maxLen) : Strs w (.slice (some ⟨g, 0, none⟩) 1 1) [z] := ⟨seq_one h, fun y hy => by rw [List.mem_singleton] at hy; subst hy; exact hz⟩
theorem step_put_S (a0 w : World) {ops : Array Oper} {o : Oper} {a : Act} {K : Act → World → Prop} {Q : Exit → Act → World → Prop} {E : Prop} (hgd : o.guard = none) (s x : Operand)
    (ho : o.op = .call { callee := .builtin .append, args := #[s, x], argTypes := #[63, 63] })
    (v : Value) (zs : List ByteArray) (hs : a.eval s = v) (hown : OwnS w a0.heap.size v zs) (hk : Kept a0 w) (u : Value) (ys : List ByteArray) (hx : a.eval x = u) (hr : Strs w u ys)
    (hl : zs.length + ys.length ≤ 16777216)
    (h : ∀ v' w', OwnS w' a0.heap.size v' (zs ++ ys) → Kept a0 w' → Only (fp v) w w' → K (a.put o.dst v') w') :
    if Region.wanted o (yielded ops a.tmps) = true then Oper.wp Try.prog o a w K Q else E :=
  step_append_S w hgd s x ho a0.heap.size v zs hs hown u ys hx hr hl hk.size fun v' w' h2 h3 =>
    h v' w' h2 ((only_of_grown h3).above hk (fun b hb => (own_fp hown.1 b hb).1)) (only_of_grown h3)
theorem own0_S {w : World} {base g : Nat} (hg : base ≤ g) (h : Box w g 9 #[]) : OwnS w base (.slice (some ⟨g, 0, none⟩) 0 0) [] := ⟨own_made _ _ _ hg h, fun _ h => by cases h⟩
end Go.Proofs.Ytfemfkmjfplcmaa

/- Draws: bytes given, a cursor over them, its choices. -/
namespace Go.Proofs.Ytfemfkmjfplcmaa
set_option linter.unusedVariables false
set_option linter.unusedSimpArgs false
set_option linter.unnecessarySimpa false
open Go.RowKit

def BytA (w : World) (p : Nat) (A : Option Addr) (n : Nat) : Prop := 0 < n → ∃ b o, A = some ⟨b, o, none⟩ ∧ b < w.heap.size ∧ b < p ∧ ∀ j, j < n → ∃ z : Int, 0 ≤ z ∧ z ≤ 255 ∧ w.cell? ⟨b, o + j, none⟩ = some (.int .u8 z)
theorem Only.cell {S : List Nat} {w w' : World} (h : Only S w w') {p : Addr} (hp : p.block < w.heap.size) (hn : p.block ∉ S) : w'.cell? p = w.cell? p := World.cell?_of_block (w := w) (h.block p.block hp hn)
theorem BytA.only {w w' : World} {p : Nat} {A : Option Addr} {n : Nat} {S : List Nat} (h : BytA w p A n) (ho : Only S w w') (hS : ∀ x ∈ S, x = p ∨ w.heap.size ≤ x) : BytA w' p A n := by
  intro hn
  obtain ⟨b, o, e, hb, hp, hc⟩ := h hn
  refine ⟨b, o, e, Nat.lt_of_lt_of_le hb ho.size, hp, fun j hj => ?_⟩
  obtain ⟨z, h0, h1, hz⟩ := hc j hj
  refine ⟨z, h0, h1, (ho.cell (p := ⟨b, o + j, none⟩) hb (fun hx => ?_)).trans hz⟩
  rcases hS b hx with rfl | hge
  · omega
  · omega
/-- a cursor at p: at most m bytes have been read -/
def Cur (w : World) (p m : Nat) : Prop := ∃ (A : Option Addr) (n c at_ : Nat) (seed : Int), Box w p 73 #[.slice A n c, .int .i64 at_, .int .u64 seed] ∧ at_ ≤ m ∧ n ≤ c ∧ c ≤ maxLen ∧ BytA w p A n
theorem Cur.lt {w : World} {p m : Nat} (h : Cur w p m) : p < w.heap.size := by obtain ⟨_, _, _, _, _, hB, _⟩ := h; exact hB.lt
theorem Cur.le {w : World} {p m m' : Nat} (h : Cur w p m) (hm : m ≤ m') : Cur w p m' := by
  obtain ⟨A, n, c, a, s, hB, h1, h2⟩ := h
  exact ⟨A, n, c, a, s, hB, Nat.le_trans h1 hm, h2⟩
theorem Cur.kept {w w' : World} {p m : Nat} (h : Cur w p m) (k : Kept w w') : Cur w' p m := by
  obtain ⟨A, n, c, a, s, hB, h1, h2, h3, h4⟩ := h
  exact ⟨A, n, c, a, s, hB.kept k, h1, h2, h3, h4.only (k.only []) (fun x hx => by cases hx)⟩
theorem Cur.far {w w' : World} {p m : Nat} {S : List Nat} (h : Cur w p m) (k : Only S w w') (hS : ∀ x ∈ S, p < x) : Cur w' p m := by
  obtain ⟨A, n, c, a, s, hB, h1, h2, h3, h4⟩ := h
  refine ⟨A, n, c, a, s, hB.only k (fun hx => by have := hS p hx; omega), h1, h2, h3, fun hn => ?_⟩
  obtain ⟨b, o, e, hb, hp, hc⟩ := h4 hn
  refine ⟨b, o, e, Nat.lt_of_lt_of_le hb k.size, hp, fun j hj => ?_⟩
  obtain ⟨z, q0, q1, hz⟩ := hc j hj
  exact ⟨z, q0, q1, (k.cell (p := ⟨b, o + j, none⟩) hb (fun hx => by have := hS b hx; omega)).trans hz⟩
theorem Only.overD {w a b : World} {p : Nat} {S : List Nat} (h : Only [p] w a) (k : Only S a b) (hS : ∀ x ∈ S, w.heap.size ≤ x) : Only [p] w b :=
  ⟨k.os.trans h.os, k.tape.trans h.tape, k.output.trans h.output, Nat.le_trans h.size k.size, fun i hi hn => (k.block i (Nat.lt_of_lt_of_le hi h.size) (fun hx => by have := hS i hx; omega)).trans (h.block i hi hn)⟩
theorem OwnI.drawn {w w' : World} {p base : Nat} {v : Value} {zs : List Int} (h : OwnI w base v zs) (on : Only [p] w w') (hp : p < base) : OwnI w' base v zs :=
  h.only on (fun b hb hm => by rw [List.mem_singleton] at hm; have := (own_fp h b hb).1; omega)
theorem OwnS.drawn {w w' : World} {p base : Nat} {v : Value} {zs : List ByteArray} (h : OwnS w base v zs) (on : Only [p] w w') (hp : p < base) : OwnS w' base v zs :=
  h.only on (fun b hb hm => by rw [List.mem_singleton] at hm; have := (own_fp h.1 b hb).1; omega)
def lenV : Value → Nat
  | .slice _ n _ => n
  | _ => 0
theorem lenV_own {w : World} {base : Nat} {e : TypeId} {size : Nat} {v : Value} {n : Nat} {xs : List Value} (h : w.ownsRow base e size v n xs) : lenV v = n := by
  obtain ⟨A, c, rfl, _⟩ := own_form h
  rfl
theorem and255 (x : Int) : 0 ≤ bits .and .u64 x 255 ∧ bits .and .u64 x 255 ≤ 255 := by
  have h : ∀ a : BitVec 64, 0 ≤ IntKind.u64.wrap ((a &&& BitVec.ofInt 64 255).toNat) ∧ IntKind.u64.wrap ((a &&& BitVec.ofInt 64 255).toNat) ≤ 255 := fun a => by
    have h1 : (a &&& BitVec.ofInt 64 255).toNat ≤ 255 := by
      rw [BitVec.toNat_and]
      exact Nat.and_le_right
    have h2 : IntKind.u64.wrap (((a &&& BitVec.ofInt 64 255).toNat : Nat) : Int) = ((a &&& BitVec.ofInt 64 255).toNat : Nat) := IntWalk.u64_in _ (by omega)
    rw [h2]
    omega
  exact h _
theorem and255w (x : Int) : 0 ≤ wrap64 (bits .and .u64 x 255) ∧ wrap64 (bits .and .u64 x 255) ≤ 255 := by
  have h := and255 x
  rw [IntWalk.wrap64_in _ (by omega)]
  exact h
theorem next_any (p m : Nat) (w : World) (h : Cur w p m) (hm : m ≤ 1000000000000) :
    Calls Try.prog 108 #[.pointer (some ⟨p, 0, none⟩)] w fun e w' => ∃ x : Int, e = .returned (.int .i64 x) ∧ (0 ≤ x ∧ x ≤ 255) ∧ Cur w' p (m + 1) ∧ Only [p] w w' := by
  obtain ⟨A, n, c, at_, seed, hB, hat, hnc, hcm, hby⟩ := h
  obtain ⟨x0, y0⟩ := hB.three
  have hl := hB.lt
  have HB := Lib.hid hB
  have HBY := Lib.hid hby
  unfold maxLen at hcm
  have HC : Hid (∀ (a b : Nat) (s1 : Int), Cur ((((w.drewN a).setCell ⟨p, 1, none⟩ (.int .i64 ((at_ : Int) + 1))).setCell ⟨p, 2, none⟩ (.int .u64 s1)).drewN b) p (m + 1) ∧ Only [p] w ((((w.drewN a).setCell ⟨p, 1, none⟩ (.int .i64 ((at_ : Int) + 1))).setCell ⟨p, 2, none⟩ (.int .u64 s1)).drewN b)) := Lib.hid (fun a b s1 => by
    have ho : Only [p] w ((((w.drewN a).setCell ⟨p, 1, none⟩ (.int .i64 ((at_ : Int) + 1))).setCell ⟨p, 2, none⟩ (.int .u64 s1)).drewN b) := ((((Only.refl [p] w).drewN a).setCell (by simp) _).setCell (by simp) _).drewN b
    exact ⟨⟨A, n, c, at_ + 1, s1, (((HB.out.drewN a).set 1 _).set 2 _).drewN b, by omega, hnc, by unfold maxLen; omega, HBY.out.only ho (fun x hx => by rw [List.mem_singleton] at hx; exact .inl hx)⟩, ho⟩)
  clear hB hby
  by_cases hlt : at_ < n
  · obtain ⟨b, o, rfl, hbl, hbp, hc⟩ := HBY.out (by omega)
    obtain ⟨z, hz0, hz1, hx⟩ := hc at_ hlt
    have hle : (at_ : Int) + 1 ≤ (n : Int) := by omega
    clear hc
    go_enter Try.func108, Try.ntmps108
    go_wp2_with fail
    go_quiet (fail)
    go_wp2_with fail
    go_quiet (fail)
    go_wp2_with fail
    go_quiet (fail)
    go_wp2_with fail
    go_ret
    exact ⟨_, rfl, ⟨hz0, hz1⟩, (HC.out _ _ _).1, (HC.out _ _ _).2⟩
  · have hle : ¬ (at_ : Int) + 1 ≤ (n : Int) := by omega
    go_enter Try.func108, Try.ntmps108
    go_wp2_with fail
    go_quiet (fail)
    go_wp2_with fail
    go_quiet (fail)
    go_wp2_with fail
    go_ret
    exact ⟨_, rfl, and255w _, (HC.out _ _ _).1, (HC.out _ _ _).2⟩
theorem pick_any (p m : Nat) (n : Int) (w : World) (h : Cur w p m) (hm : m ≤ 100000000000) (hn : n ≤ 1000000000) :
    Calls Try.prog 56 #[.pointer (some ⟨p, 0, none⟩), .int .i64 n] w fun e w' => ∃ x : Int, e = .returned (.int .i64 x) ∧ (0 ≤ x ∧ (1 ≤ n → x < n)) ∧ Cur w' p (m + 2) ∧ Only [p] w w' := by
  have HC := Lib.hid h
  clear h
  by_cases h1 : n ≤ 1
  · go_enter Try.func56, Try.ntmps56
    go_wp2_with fail
    go_ret
    exact ⟨_, rfl, ⟨by omega, by omega⟩, HC.out.le (by omega), Only.refl _ _⟩
  · have C1 := Lib.hid (next_any p m w HC.out (by omega))
    by_cases h2 : 200 < n
    · go_enter Try.func56, Try.ntmps56
      go_wp2_with fail
      refine (C1.out).mono ?_
      rintro e w1 ⟨x, rfl, ⟨hx0, hx1⟩, c1, on1⟩
      have C2 := Lib.hid (next_any p (m + 1) w1 c1 (by omega))
      have ON1 := Lib.hid on1
      clear c1 on1
      go_wp2_with fail
      refine (C2.out).mono ?_
      rintro e w2 ⟨y, rfl, ⟨hy0, hy1⟩, c2, on2⟩
      have C3 := Lib.hid c2
      have ON2 := Lib.hid on2
      clear c2 on2
      go_wp2_with fail
      go_ret
      exact ⟨_, rfl, ⟨Int.emod_nonneg _ (by omega), fun _ => Int.emod_lt_of_pos _ (by omega)⟩, C3.out, ON1.out.trans ON2.out⟩
    · go_enter Try.func56, Try.ntmps56
      go_wp2_with fail
      refine (C1.out).mono ?_
      rintro e w1 ⟨x, rfl, ⟨hx0, hx1⟩, c1, on1⟩
      have C2 := Lib.hid (c1.le (m' := m + 2) (by omega))
      have ON1 := Lib.hid on1
      clear c1 on1
      go_wp2_with fail
      go_ret
      exact ⟨_, rfl, ⟨Int.emod_nonneg _ (by omega), fun _ => Int.emod_lt_of_pos _ (by omega)⟩, C2.out, ON1.out⟩
theorem one_any (p m : Nat) (n : Int) (w : World) (h : Cur w p m) (hm : m ≤ 100000000000) (hn : n ≤ 1000000000) :
    Calls Try.prog 66 #[.pointer (some ⟨p, 0, none⟩), .int .i64 n] w fun e w' => ∃ b : Bool, e = .returned (.bool b) ∧ Cur w' p (m + 2) ∧ Only [p] w w' := by
  have C := Lib.hid (pick_any p m n w h hm hn)
  clear h
  go_enter Try.func66, Try.ntmps66
  go_wp2_with fail
  refine (C.out).mono ?_
  rintro e w1 ⟨x, rfl, ⟨hx0, hx1⟩, c1, on1⟩
  have C2 := Lib.hid c1
  have ON1 := Lib.hid on1
  clear c1 on1
  go_wp2_with fail
  go_ret
  exact ⟨_, rfl, C2.out, ON1.out⟩
/-- a row that the cursor does not touch -/
theorem SeqA.only {S : List Nat} {w w' : World} {A : Option Addr} {n : Nat} {xs : List Value} (h : SeqA w A n xs) (ho : Only S w w') (hd : ∀ a, A = some a → a.block ∉ S) : SeqA w' A n xs := by
  intro hn
  obtain ⟨b, o, e, hb, hc⟩ := h hn
  exact ⟨b, o, e, Nat.lt_of_lt_of_le hb ho.size, fun j u hu => (ho.cell (p := ⟨b, o + j, none⟩) hb (hd ⟨b, o, none⟩ e)).trans (hc j u hu)⟩
theorem among_any (p m : Nat) (A : Option Addr) (k c : Nat) (zs : List Int) (w : World) (h : Cur w p m) (hm : m ≤ 100000000000) (hz : Ints w (.slice A k c) zs) (hk : k = zs.length) (h0 : 0 < zs.length) (h1 : zs.length ≤ 1000000) (hd : ∀ a, A = some a → a.block ≠ p) :
    Calls Try.prog 80 #[.pointer (some ⟨p, 0, none⟩), .slice A k c] w fun e w' => ∃ x : Int, e = .returned (.int .i64 x) ∧ x ∈ zs ∧ Cur w' p (m + 2) ∧ Only [p] w w' := by
  subst hk
  have C := Lib.hid (pick_any p m zs.length w h hm (by omega))
  have HA := Lib.hid hz.addr
  obtain ⟨_, _, e, hnc, hcm, _⟩ := hz.out
  cases e
  unfold maxLen at hcm
  clear h hz
  have HD := Lib.hid hd
  clear hd
  go_enter Try.func80, Try.ntmps80
  go_wp2_with fail
  refine (C.out).mono ?_
  rintro e w1 ⟨x, rfl, ⟨hx0, hx1⟩, c1, on1⟩
  obtain ⟨k, rfl⟩ : ∃ k : Nat, x = (k : Int) := ⟨x.toNat, by omega⟩
  have hk : k < zs.length := by have := hx1 (by omega); omega
  obtain ⟨b, o, z, rfl, hb, hzk, hc⟩ := ints_at (HA.out.only on1 (fun a ha hx => HD.out a ha (List.mem_singleton.1 hx))) hk
  have HM := Lib.hid (List.mem_of_getElem? hzk)
  have C2 := Lib.hid c1
  have ON1 := Lib.hid on1
  clear c1 on1 hzk hx1
  go_wp2_with fail
  go_ret
  exact ⟨_, rfl, HM.out, C2.out, ON1.out⟩
theorem of_any (p m : Nat) (A : Option Addr) (k c : Nat) (zs : List ByteArray) (w : World) (h : Cur w p m) (hm : m ≤ 100000000000) (hz : Strs w (.slice A k c) zs) (hk : k = zs.length) (h0 : 0 < zs.length) (h1 : zs.length ≤ 1000000) (hd : ∀ a, A = some a → a.block ≠ p) :
    Calls Try.prog 87 #[.pointer (some ⟨p, 0, none⟩), .slice A k c] w fun e w' => ∃ x : ByteArray, e = .returned (.string x) ∧ x ∈ zs ∧ Cur w' p (m + 2) ∧ Only [p] w w' := by
  subst hk
  have C := Lib.hid (pick_any p m zs.length w h hm (by omega))
  have HA := Lib.hid hz.1.addr
  obtain ⟨_, _, e, hnc, hcm, _⟩ := hz.1.out
  cases e
  unfold maxLen at hcm
  clear h hz
  have HD := Lib.hid hd
  clear hd
  go_enter Try.func87, Try.ntmps87
  go_wp2_with fail
  refine (C.out).mono ?_
  rintro e w1 ⟨x, rfl, ⟨hx0, hx1⟩, c1, on1⟩
  obtain ⟨k, rfl⟩ : ∃ k : Nat, x = (k : Int) := ⟨x.toNat, by omega⟩
  have hk : k < zs.length := by have := hx1 (by omega); omega
  obtain ⟨b, o, z, rfl, hb, hzk, hc⟩ := strs_at (HA.out.only on1 (fun a ha hx => HD.out a ha (List.mem_singleton.1 hx))) hk
  have HM := Lib.hid (List.mem_of_getElem? hzk)
  have C2 := Lib.hid c1
  have ON1 := Lib.hid on1
  clear c1 on1 hzk hx1
  go_wp2_with fail
  go_ret
  exact ⟨_, rfl, HM.out, C2.out, ON1.out⟩
end Go.Proofs.Ytfemfkmjfplcmaa

/- Draws of numbers, fractions and lists of numbers. -/
namespace Go.Proofs.Ytfemfkmjfplcmaa
set_option linter.unusedVariables false
set_option linter.unusedSimpArgs false
set_option linter.unnecessarySimpa false
open Go.RowKit

/-- a slice of bytes is given -/
def Byts (w : World) (v : Value) : Prop := ∃ (A : Option Addr) (n c : Nat), v = .slice A n c ∧ n ≤ c ∧ c ≤ maxLen ∧ (0 < n → ∃ b o, A = some ⟨b, o, none⟩ ∧ b < w.heap.size ∧ ∀ j, j < n → ∃ z : Int, 0 ≤ z ∧ z ≤ 255 ∧ w.cell? ⟨b, o + j, none⟩ = some (.int .u8 z))
theorem Byts.kept {w w' : World} {v : Value} (h : Byts w v) (k : Kept w w') : Byts w' v := by
  obtain ⟨A, n, c, rfl, h1, h2, h3⟩ := h
  refine ⟨A, n, c, rfl, h1, h2, fun hn => ?_⟩
  obtain ⟨b, o, e, hb, hc⟩ := h3 hn
  refine ⟨b, o, e, Nat.lt_of_lt_of_le hb k.size, fun j hj => ?_⟩
  obtain ⟨z, q0, q1, hz⟩ := hc j hj
  exact ⟨z, q0, q1, (k.cell (p := ⟨b, o + j, none⟩) hb).trans hz⟩
theorem Cur.init {w : World} {A : Option Addr} {n c : Nat} (hnc : n ≤ c) (hcm : c ≤ maxLen) (hb : 0 < n → ∃ b o, A = some ⟨b, o, none⟩ ∧ b < w.heap.size ∧ ∀ j, j < n → ∃ z : Int, 0 ≤ z ∧ z ≤ 255 ∧ w.cell? ⟨b, o + j, none⟩ = some (.int .u8 z)) :
    Cur (w.alloc (.cells #[.slice A n c, .int .i64 0, .int .u64 0] 73)) w.heap.size 0 := by
  have k : Kept w (w.alloc (.cells #[.slice A n c, .int .i64 0, .int .u64 0] 73)) := (Kept.refl w).alloc _
  refine ⟨A, n, c, 0, 0, Box.new w _ _ _ rfl, Nat.le_refl _, hnc, hcm, fun hn => ?_⟩
  obtain ⟨b, o, e, hbl, hc⟩ := hb hn
  refine ⟨b, o, e, Nat.lt_of_lt_of_le hbl k.size, hbl, fun j hj => ?_⟩
  obtain ⟨z, q0, q1, hz⟩ := hc j hj
  exact ⟨z, q0, q1, (k.cell (p := ⟨b, o + j, none⟩) hbl).trans hz⟩
theorem ints_lit {w : World} {g : Nat} {t : TypeId} {cs : Array Value} (zs : List Int) (h : Box w g t cs) (hc : cs = (zs.map (Value.int .i64)).toArray) (hl : zs.length ≤ 1000) : Ints w (.slice (some ⟨g, 0, none⟩) zs.length zs.length) zs :=
  ⟨_, zs.length, rfl, Nat.le_refl _, by unfold maxLen; omega, (fun h => by cases h), fun _ => ⟨g, 0, rfl, h.lt, fun j u hu => by
    rw [Nat.zero_add, h.cell j, ← hu, hc]
    exact List.getElem?_toArray⟩⟩
theorem strs_lit {w : World} {g : Nat} {t : TypeId} {cs : Array Value} (zs : List ByteArray) (h : Box w g t cs) (hc : cs = (zs.map Value.string).toArray) (hl : zs.length ≤ 1000) (hs : zs.all (fun z => decide (z.size ≤ 1000)) = true) : Strs w (.slice (some ⟨g, 0, none⟩) zs.length zs.length) zs :=
  ⟨⟨_, zs.length, rfl, Nat.le_refl _, by unfold maxLen; omega, (fun h => by cases h), fun _ => ⟨g, 0, rfl, h.lt, fun j u hu => by
    rw [Nat.zero_add, h.cell j, ← hu, hc]
    exact List.getElem?_toArray⟩⟩, fun e he => by have := List.all_eq_true.1 hs e he; simp at this; unfold maxLen; omega⟩
def RowPost (w : World) (e : Ending) (w' : World) : Prop := ∃ v' zs, e = .returned v' ∧ OwnI w' w.heap.size v' zs ∧ zs.length ≤ 61
theorem among_lit (p m g k : Nat) (zs : List Int) (w : World) {t : TypeId} (h : Cur w p m) (hm : m ≤ 100000000000) (hB : Box w g t (zs.map (Value.int .i64)).toArray) (hg : g ≠ p) (hk : zs.length = k) (h0 : 0 < k) (h1 : k ≤ 1000) :
    Calls Try.prog 80 #[.pointer (some ⟨p, 0, none⟩), .slice (some ⟨g, 0, none⟩) k k] w fun e w' => ∃ x : Int, e = .returned (.int .i64 x) ∧ x ∈ zs ∧ Cur w' p (m + 2) ∧ Only [p] w w' := by
  subst hk
  exact among_any p m _ _ _ zs w h hm (ints_lit zs hB rfl h1) rfl h0 (by omega) (fun a e => by cases e; exact hg)
theorem of_lit (p m g k : Nat) (zs : List ByteArray) (w : World) {t : TypeId} (h : Cur w p m) (hm : m ≤ 100000000000) (hB : Box w g t (zs.map Value.string).toArray) (hg : g ≠ p) (hk : zs.length = k) (h0 : 0 < k) (h1 : k ≤ 1000) (hs : zs.all (fun z => decide (z.size ≤ 1000)) = true) :
    Calls Try.prog 87 #[.pointer (some ⟨p, 0, none⟩), .slice (some ⟨g, 0, none⟩) k k] w fun e w' => ∃ x : ByteArray, e = .returned (.string x) ∧ x ∈ zs ∧ Cur w' p (m + 2) ∧ Only [p] w w' := by
  subst hk
  exact of_any p m _ _ _ zs w h hm (strs_lit zs hB rfl h1 hs) rfl h0 (by omega) (fun a e => by cases e; exact hg)
set_option maxHeartbeats 2000000 in
theorem part_any (p m : Nat)  (w : World) (h : Cur w p m) (hm : m ≤ 10000000000)  :
    Calls Try.prog 55 #[.pointer (some ⟨p, 0, none⟩)] w fun e w' => (∃ a b : Int, e = .returned (.tuple #[.int .i64 a, .int .i64 b])) ∧ Cur w' p (m + 10) ∧ Only [p] w w' := by
  have C0 := Lib.hid h
  have N0 : Hid (Only [p] w w) := Lib.hid (Only.refl _ _)
  clear h
  go_enter Try.func55, Try.ntmps55
  go_wp2_with fail
  with_reducible refine (pick_any p _ 60000 w C0.out (by omega) (by omega)).mono ?_
  rintro e w1 ⟨x1, rfl, ⟨lo1, hi1⟩, c1, on1⟩
  have C2 := Lib.hid c1
  have N2 := Lib.hid (N0.out.trans on1)
  clear c1 on1
  go_wp2_with fail
  obtain ⟨wb3, hwb3⟩ : ∃ x : World, x = w1.alloc (.cells #[.int .i64 1000000000000, .int .i64 1000000000001, .int .i64 (-1000000000000), .int .i64 (-1000000000001)] 3) := ⟨_, rfl⟩
  rw [← hwb3]
  have kb3 : Kept w1 wb3 := hwb3 ▸ (Kept.refl w1).alloc _
  have B3 : Box wb3 w1.heap.size 3 #[.int .i64 1000000000000, .int .i64 1000000000001, .int .i64 (-1000000000000), .int .i64 (-1000000000001)] := hwb3 ▸ Box.new w1 _ _ _ rfl
  have C3 := Lib.hid (C2.out.kept kb3)
  have N3 := Lib.hid (N2.out.trans (kb3.only _))
  have hp3 : w1.heap.size ≠ p := Nat.ne_of_gt C2.out.lt
  clear hwb3 kb3
  with_reducible refine (among_lit p _ w1.heap.size 4 [1000000000000, 1000000000001, (-1000000000000), (-1000000000001)] wb3 C3.out (by omega) B3 hp3 rfl (by omega) (by omega)).mono ?_
  rintro e w4 ⟨x4, rfl, hx4, c4, on4⟩
  have C5 := Lib.hid c4
  have N5 := Lib.hid (N3.out.trans on4)
  clear c4 on4
  go_wp2_with fail
  obtain ⟨wb6, hwb6⟩ : ∃ x : World, x = w4.alloc (.cells #[.int .i64 0, .int .i64 1, .int .i64 (-1), .int .i64 5, .int .i64 (-5), .int .i64 7, .int .i64 250, .int .i64 (-250), .int .i64 x1, .int .i64 x4] 3) := ⟨_, rfl⟩
  rw [← hwb6]
  have kb6 : Kept w4 wb6 := hwb6 ▸ (Kept.refl w4).alloc _
  have B6 : Box wb6 w4.heap.size 3 #[.int .i64 0, .int .i64 1, .int .i64 (-1), .int .i64 5, .int .i64 (-5), .int .i64 7, .int .i64 250, .int .i64 (-250), .int .i64 x1, .int .i64 x4] := hwb6 ▸ Box.new w4 _ _ _ rfl
  have C6 := Lib.hid (C5.out.kept kb6)
  have N6 := Lib.hid (N5.out.trans (kb6.only _))
  have hp6 : w4.heap.size ≠ p := Nat.ne_of_gt C5.out.lt
  clear hwb6 kb6
  with_reducible refine (among_lit p _ w4.heap.size 10 [0, 1, (-1), 5, (-5), 7, 250, (-250), x1, x4] wb6 C6.out (by omega) B6 hp6 rfl (by omega) (by omega)).mono ?_
  rintro e w7 ⟨x7, rfl, hx7, c7, on7⟩
  have C8 := Lib.hid c7
  have N8 := Lib.hid (N6.out.trans on7)
  clear c7 on7
  go_wp2_with fail
  obtain ⟨wb9, hwb9⟩ : ∃ x : World, x = w7.alloc (.cells #[.int .i64 1000000, .int .i64 1000001, .int .i64 0, .int .i64 (-1)] 3) := ⟨_, rfl⟩
  rw [← hwb9]
  have kb9 : Kept w7 wb9 := hwb9 ▸ (Kept.refl w7).alloc _
  have B9 : Box wb9 w7.heap.size 3 #[.int .i64 1000000, .int .i64 1000001, .int .i64 0, .int .i64 (-1)] := hwb9 ▸ Box.new w7 _ _ _ rfl
  have C9 := Lib.hid (C8.out.kept kb9)
  have N9 := Lib.hid (N8.out.trans (kb9.only _))
  have hp9 : w7.heap.size ≠ p := Nat.ne_of_gt C8.out.lt
  clear hwb9 kb9
  with_reducible refine (among_lit p _ w7.heap.size 4 [1000000, 1000001, 0, (-1)] wb9 C9.out (by omega) B9 hp9 rfl (by omega) (by omega)).mono ?_
  rintro e w10 ⟨x10, rfl, hx10, c10, on10⟩
  have C11 := Lib.hid c10
  have N11 := Lib.hid (N9.out.trans on10)
  clear c10 on10
  go_wp2_with fail
  obtain ⟨wb12, hwb12⟩ : ∃ x : World, x = w10.alloc (.cells #[.int .i64 1, .int .i64 2, .int .i64 3, .int .i64 4, .int .i64 7, .int .i64 10, .int .i64 100, .int .i64 1000, .int .i64 x10] 3) := ⟨_, rfl⟩
  rw [← hwb12]
  have kb12 : Kept w10 wb12 := hwb12 ▸ (Kept.refl w10).alloc _
  have B12 : Box wb12 w10.heap.size 3 #[.int .i64 1, .int .i64 2, .int .i64 3, .int .i64 4, .int .i64 7, .int .i64 10, .int .i64 100, .int .i64 1000, .int .i64 x10] := hwb12 ▸ Box.new w10 _ _ _ rfl
  have C12 := Lib.hid (C11.out.kept kb12)
  have N12 := Lib.hid (N11.out.trans (kb12.only _))
  have hp12 : w10.heap.size ≠ p := Nat.ne_of_gt C11.out.lt
  clear hwb12 kb12
  with_reducible refine (among_lit p _ w10.heap.size 9 [1, 2, 3, 4, 7, 10, 100, 1000, x10] wb12 C12.out (by omega) B12 hp12 rfl (by omega) (by omega)).mono ?_
  rintro e w13 ⟨x13, rfl, hx13, c13, on13⟩
  have C14 := Lib.hid c13
  have N14 := Lib.hid (N12.out.trans on13)
  clear c13 on13
  go_wp2_with fail
  go_ret2
  exact ⟨⟨_, _, rfl⟩, C14.out.le (by omega), N14.out⟩
set_option maxHeartbeats 2000000 in
theorem points_any (p m : Nat)  (w : World) (h : Cur w p m) (hm : m ≤ 10000000000)  :
    Calls Try.prog 136 #[.pointer (some ⟨p, 0, none⟩)] w fun e w' => (∃ a : Int, e = .returned (.int .i64 a)) ∧ Cur w' p (m + 8) ∧ Only [p] w w' := by
  have C0 := Lib.hid h
  have N0 : Hid (Only [p] w w) := Lib.hid (Only.refl _ _)
  clear h
  go_enter Try.func136, Try.ntmps136
  go_wp2_with fail
  with_reducible refine (pick_any p _ 60000 w C0.out (by omega) (by omega)).mono ?_
  rintro e w1 ⟨x1, rfl, ⟨lo1, hi1⟩, c1, on1⟩
  have C2 := Lib.hid c1
  have N2 := Lib.hid (N0.out.trans on1)
  clear c1 on1
  go_wp2_with fail
  with_reducible refine (pick_any p _ 60000 w1 C2.out (by omega) (by omega)).mono ?_
  rintro e w3 ⟨x3, rfl, ⟨lo3, hi3⟩, c3, on3⟩
  have C4 := Lib.hid c3
  have N4 := Lib.hid (N2.out.trans on3)
  clear c3 on3
  go_wp2_with fail
  obtain ⟨wb5, hwb5⟩ : ∃ x : World, x = w3.alloc (.cells #[.int .i64 1000000, .int .i64 1000001, .int .i64 (-1000000), .int .i64 (-1000001)] 3) := ⟨_, rfl⟩
  rw [← hwb5]
  have kb5 : Kept w3 wb5 := hwb5 ▸ (Kept.refl w3).alloc _
  have B5 : Box wb5 w3.heap.size 3 #[.int .i64 1000000, .int .i64 1000001, .int .i64 (-1000000), .int .i64 (-1000001)] := hwb5 ▸ Box.new w3 _ _ _ rfl
  have C5 := Lib.hid (C4.out.kept kb5)
  have N5 := Lib.hid (N4.out.trans (kb5.only _))
  have hp5 : w3.heap.size ≠ p := Nat.ne_of_gt C4.out.lt
  clear hwb5 kb5
  with_reducible refine (among_lit p _ w3.heap.size 4 [1000000, 1000001, (-1000000), (-1000001)] wb5 C5.out (by omega) B5 hp5 rfl (by omega) (by omega)).mono ?_
  rintro e w6 ⟨x6, rfl, hx6, c6, on6⟩
  have C7 := Lib.hid c6
  have N7 := Lib.hid (N5.out.trans on6)
  clear c6 on6
  go_wp2_with fail
  obtain ⟨wb8, hwb8⟩ : ∃ x : World, x = w6.alloc (.cells #[.int .i64 0, .int .i64 1, .int .i64 (-1), .int .i64 5, .int .i64 50, .int .i64 (-50), .int .i64 99, .int .i64 100, .int .i64 1234, .int .i64 (-1234), .int .i64 x1, .int .i64 x3, .int .i64 x6] 3) := ⟨_, rfl⟩
  rw [← hwb8]
  have kb8 : Kept w6 wb8 := hwb8 ▸ (Kept.refl w6).alloc _
  have B8 : Box wb8 w6.heap.size 3 #[.int .i64 0, .int .i64 1, .int .i64 (-1), .int .i64 5, .int .i64 50, .int .i64 (-50), .int .i64 99, .int .i64 100, .int .i64 1234, .int .i64 (-1234), .int .i64 x1, .int .i64 x3, .int .i64 x6] := hwb8 ▸ Box.new w6 _ _ _ rfl
  have C8 := Lib.hid (C7.out.kept kb8)
  have N8 := Lib.hid (N7.out.trans (kb8.only _))
  have hp8 : w6.heap.size ≠ p := Nat.ne_of_gt C7.out.lt
  clear hwb8 kb8
  with_reducible refine (among_lit p _ w6.heap.size 13 [0, 1, (-1), 5, 50, (-50), 99, 100, 1234, (-1234), x1, x3, x6] wb8 C8.out (by omega) B8 hp8 rfl (by omega) (by omega)).mono ?_
  rintro e w9 ⟨x9, rfl, hx9, c9, on9⟩
  have C10 := Lib.hid c9
  have N10 := Lib.hid (N8.out.trans on9)
  clear c9 on9
  go_wp2_with fail
  go_ret
  exact ⟨⟨_, rfl⟩, C10.out.le (by omega), N10.out⟩
set_option maxHeartbeats 2000000 in
theorem drawRound_any (v : Value) (w : World) (h : Byts w v) :
    Calls Try.prog 7 #[v] w fun e w' => (∃ a b c : Int, e = .returned (.tuple #[.int .i64 a, .int .i64 b, .int .i64 c])) ∧ Kept w w' := by
  obtain ⟨A, n, c, rfl, hnc, hcm, hb⟩ := h
  go_enter Try.func7, Try.ntmps7
  go_wp2_with fail
  obtain ⟨w0, hw0⟩ : ∃ x : World, x = w.alloc (.cells #[.slice A n c, .int .i64 0, .int .u64 0] 73) := ⟨_, rfl⟩
  rw [← hw0]
  have C0 : Hid (Cur w0 w.heap.size 0) := Lib.hid (hw0 ▸ Cur.init hnc hcm hb)
  have K0 : Hid (Kept w w0) := Lib.hid (hw0 ▸ (Kept.refl w).alloc _)
  clear hw0 hb
  obtain ⟨p, hp⟩ : ∃ p, p = w.heap.size := ⟨_, rfl⟩
  rw [← hp] at C0 ⊢
  have hpw : w.heap.size ≤ p := Nat.le_of_eq hp.symm
  clear hp
  have N0 : Hid (Only [p] w0 w0) := Lib.hid (Only.refl _ _)
  with_reducible refine (part_any p _ w0 C0.out (by omega)).mono ?_
  rintro e w1 ⟨⟨a1, b1, rfl⟩, c1, on1⟩
  have C2 := Lib.hid c1
  have N2 := Lib.hid (N0.out.trans on1)
  clear c1 on1
  go_wp2_with fail
  with_reducible refine (pick_any p _ 4 w1 C2.out (by omega) (by omega)).mono ?_
  rintro e w3 ⟨x3, rfl, ⟨lo3, hi3⟩, c3, on3⟩
  have C4 := Lib.hid c3
  have N4 := Lib.hid (N2.out.trans on3)
  clear c3 on3
  go_wp2_with fail
  with_reducible refine (pick_any p _ 24 w3 C4.out (by omega) (by omega)).mono ?_
  rintro e w5 ⟨x5, rfl, ⟨lo5, hi5⟩, c5, on5⟩
  have C6 := Lib.hid c5
  have N6 := Lib.hid (N4.out.trans on5)
  clear c5 on5
  go_wp2_with fail
  go_ret3
  exact ⟨⟨_, _, _, rfl⟩, N6.out.above K0.out (fun x hx => by rw [List.mem_singleton] at hx; subst hx; exact hpw)⟩
set_option maxHeartbeats 2000000 in
theorem drawLowest_any (v : Value) (w : World) (h : Byts w v) :
    Calls Try.prog 10 #[v] w fun e w' => (∃ a b : Int, e = .returned (.tuple #[.int .i64 a, .int .i64 b])) ∧ Kept w w' := by
  obtain ⟨A, n, c, rfl, hnc, hcm, hb⟩ := h
  go_enter Try.func10, Try.ntmps10
  go_wp2_with fail
  obtain ⟨w0, hw0⟩ : ∃ x : World, x = w.alloc (.cells #[.slice A n c, .int .i64 0, .int .u64 0] 73) := ⟨_, rfl⟩
  rw [← hw0]
  have C0 : Hid (Cur w0 w.heap.size 0) := Lib.hid (hw0 ▸ Cur.init hnc hcm hb)
  have K0 : Hid (Kept w w0) := Lib.hid (hw0 ▸ (Kept.refl w).alloc _)
  clear hw0 hb
  obtain ⟨p, hp⟩ : ∃ p, p = w.heap.size := ⟨_, rfl⟩
  rw [← hp] at C0 ⊢
  have hpw : w.heap.size ≤ p := Nat.le_of_eq hp.symm
  clear hp
  have N0 : Hid (Only [p] w0 w0) := Lib.hid (Only.refl _ _)
  with_reducible refine (part_any p _ w0 C0.out (by omega)).mono ?_
  rintro e w1 ⟨⟨a1, b1, rfl⟩, c1, on1⟩
  have C2 := Lib.hid c1
  have N2 := Lib.hid (N0.out.trans on1)
  clear c1 on1
  go_wp2_with fail
  go_ret2
  exact ⟨⟨_, _, rfl⟩, N2.out.above K0.out (fun x hx => by rw [List.mem_singleton] at hx; subst hx; exact hpw)⟩
set_option maxHeartbeats 2000000 in
theorem drawCompare_any (v : Value) (w : World) (h : Byts w v) :
    Calls Try.prog 14 #[v] w fun e w' => (∃ a b c d : Int, e = .returned (.tuple #[.int .i64 a, .int .i64 b, .int .i64 c, .int .i64 d])) ∧ Kept w w' := by
  obtain ⟨A, n, c, rfl, hnc, hcm, hb⟩ := h
  go_enter Try.func14, Try.ntmps14
  go_wp2_with fail
  obtain ⟨w0, hw0⟩ : ∃ x : World, x = w.alloc (.cells #[.slice A n c, .int .i64 0, .int .u64 0] 73) := ⟨_, rfl⟩
  rw [← hw0]
  have C0 : Hid (Cur w0 w.heap.size 0) := Lib.hid (hw0 ▸ Cur.init hnc hcm hb)
  have K0 : Hid (Kept w w0) := Lib.hid (hw0 ▸ (Kept.refl w).alloc _)
  clear hw0 hb
  obtain ⟨p, hp⟩ : ∃ p, p = w.heap.size := ⟨_, rfl⟩
  rw [← hp] at C0 ⊢
  have hpw : w.heap.size ≤ p := Nat.le_of_eq hp.symm
  clear hp
  have N0 : Hid (Only [p] w0 w0) := Lib.hid (Only.refl _ _)
  with_reducible refine (part_any p _ w0 C0.out (by omega)).mono ?_
  rintro e w1 ⟨⟨a1, b1, rfl⟩, c1, on1⟩
  have C2 := Lib.hid c1
  have N2 := Lib.hid (N0.out.trans on1)
  clear c1 on1
  go_wp2_with fail
  with_reducible refine (one_any p _ 3 w1 C2.out (by omega) (by omega)).mono ?_
  rintro e w3 ⟨b3, rfl, c3, on3⟩
  have C4 := Lib.hid c3
  have N4 := Lib.hid (N2.out.trans on3)
  clear c3 on3
  cases b3 with
  | true =>
    go_wp2_with fail
    refine bodyPost_ret (v := .tuple #[.int .i64 a1, .int .i64 b1, .int .i64 (wrap64 (3 * a1)), .int .i64 (wrap64 (3 * b1))]) (by simp [results, Try.results14, go_sem]) rfl ?_
    exact ⟨⟨_, _, _, _, rfl⟩, N4.out.above K0.out (fun x hx => by rw [List.mem_singleton] at hx; subst hx; exact hpw)⟩
  | false =>
    go_wp2_with fail
    with_reducible refine (part_any p _ w3 C4.out (by omega)).mono ?_
    rintro e w5 ⟨⟨a5, b5, rfl⟩, c5, on5⟩
    have C6 := Lib.hid c5
    have N6 := Lib.hid (N4.out.trans on5)
    clear c5 on5
    go_wp2_with fail
    refine bodyPost_ret (v := .tuple #[.int .i64 a1, .int .i64 b1, .int .i64 a5, .int .i64 b5]) (by simp [results, Try.results14, go_sem]) rfl ?_
    exact ⟨⟨_, _, _, _, rfl⟩, N6.out.above K0.out (fun x hx => by rw [List.mem_singleton] at hx; subst hx; exact hpw)⟩
set_option maxRecDepth 100000 in
set_option maxHeartbeats 4000000 in
theorem pointsList_any (p m : Nat) (w : World) (h : Cur w p m) (hm : m ≤ 1000000000) :
    Calls Try.prog 115 #[.pointer (some ⟨p, 0, none⟩)] w fun e w' => RowPost w e w' ∧ Cur w' p (m + 200) ∧ Only [p] w w' := by
  have C0 := Lib.hid h
  have hpl := h.lt
  clear h
  go_enter Try.func115, Try.ntmps115
  go_wp2_with fail
  with_reducible refine (pick_any p _ 9 w C0.out (by omega) (by omega)).mono ?_
  rintro e w1 ⟨x1, rfl, ⟨lo1, hi1⟩, c1, on1⟩
  have hi9 : x1 < 9 := hi1 (by omega)
  obtain ⟨k0, rfl⟩ : ∃ k : Nat, x1 = (k : Int) := ⟨x1.toNat, by omega⟩
  have C1 := Lib.hid c1
  have N1 := Lib.hid on1
  clear c1 on1 hi1
  go_wp2_with fail
  go_loopw [3, 4] (fun s3 s4 wr => ∃ (k : Nat) (zs : List Int), s4 = .int .i64 k ∧ zs.length + k ≤ 8 ∧ OwnI wr w.heap.size s3 zs ∧ Cur wr p (m + 2 + 8 * zs.length) ∧ Only [p] w wr) (fun _ i _ => (RowKit.intOf i).toNat)
  case atStart => exact ⟨k0, [], rfl, by simp; omega, own_nil _ _, C1.out.le (by omega), N1.out⟩
  case round =>
    clear C1 N1
    obtain ⟨k, zs, rfl, hzk, ho, hc, hon⟩ := hrel
    have HO := Lib.hid ho
    have HC := Lib.hid hc
    have HON := Lib.hid hon
    have hsz := hon.size
    clear ho hc hon
    by_cases hk : 0 < k
    · have hk' : (0 : Int) < (k : Int) := by omega
      go_wp2_with fail
      with_reducible refine (points_any p _ wr HC.out (by omega)).mono ?_
      rintro e w2 ⟨⟨a, rfl⟩, c2, on2⟩
      have O2 := Lib.hid (HO.out.drawn on2 hpl)
      have C2 := Lib.hid c2
      have N2 := Lib.hid (HON.out.trans on2)
      have sz2 := on2.size
      clear c2 on2
      go_wp2_with (at_builtin; refine wpList_append_I _ rfl _ _ rfl w.heap.size _ zs rfl (O2.out.kept ((Kept.refl _).alloc _)) _ [a] rfl (ints_box1 (Box.new _ _ _ _ rfl)) (by simp only [List.length_cons, List.length_nil]; omega) (by simp; omega) ?_; intro v3 w3 o3 g3)
      have hf := own_fp (O2.out.kept ((Kept.refl w2).alloc (.cells #[.int .i64 a] 3)))
      have C3 := Lib.hid ((C2.out.kept ((Kept.refl _).alloc _)).far (only_of_grown g3) (fun x hx => by have := (hf x hx).1; omega))
      have N3 := Lib.hid ((N2.out.trans (((Kept.refl _).alloc _).only _)).overD (only_of_grown g3) (fun x hx => (hf x hx).1))
      have O3 := Lib.hid o3
      clear o3 g3 hf
      go_wp2_with fail
      go_roundw
      case rel => exact ⟨k - 1, zs ++ [a], by (first | go_num | (congr 1; omega)), by simp; omega, O3.out, C3.out.le (by simp; omega), N3.out⟩
      case measure => simp [RowKit.intOf]; omega
    · obtain rfl : k = 0 := by omega
      go_wp2_with fail
      with_reducible refine (one_any p _ 16 wr HC.out (by omega) (by omega)).mono ?_
      rintro e w2 ⟨b2, rfl, c2, on2⟩
      have O2 := Lib.hid (HO.out.drawn on2 hpl)
      have C2 := Lib.hid c2
      have N2 := Lib.hid (HON.out.trans on2)
      have sz2 := on2.size
      clear c2 on2
      cases b2 with
      | false =>
        go_wp2_with fail
        go_ret
        exact ⟨⟨_, zs, rfl, O2.out, by omega⟩, C2.out.le (by omega), N2.out⟩
      | true =>
        go_wp2_with fail
        with_reducible refine (pick_any p _ 2 w2 C2.out (by omega) (by omega)).mono ?_
        rintro e w4 ⟨x4, rfl, ⟨lo4, hi4⟩, c4, on4⟩
        have hx4 : x4 < 2 := hi4 (by omega)
        have O4 := Lib.hid (O2.out.drawn on4 hpl)
        have C4 := Lib.hid c4
        have N4 := Lib.hid (N2.out.trans on4)
        have sz4 := on4.size
        clear c4 on4 hi4
        go_wp2_with fail
        go_loopw [3] (fun s3 wr2 => ∃ (ys : List Int), ys.length ≤ 61 ∧ OwnI wr2 w.heap.size s3 ys ∧ Cur wr2 p (m + 78 + 2 * ys.length) ∧ Only [p] w wr2) (fun s3 _ => 61 - lenV s3)
        case atStart => exact ⟨zs, by omega, O4.out, C4.out.le (by omega), N4.out⟩
        case round =>
          clear O4 C4 N4 O2 C2 N2
          obtain ⟨ys, hys, ho, hc, hon⟩ := hrel
          have HLV := Lib.hid (lenV_own ho)
          obtain ⟨A5, c5, rfl, hn5, hm5, _⟩ := own_form ho
          have HO5 := Lib.hid ho
          have HC5 := Lib.hid hc
          have HON5 := Lib.hid hon
          have hsz5 := hon.size
          unfold maxLen at hm5
          clear ho hc hon
          by_cases hlt : (ys.length : Int) < 60 + x4
          · go_wp2_with fail
            with_reducible refine (pick_any p _ 300 wr HC5.out (by omega) (by omega)).mono ?_
            rintro e w6 ⟨a, rfl, ⟨lo6, hi6⟩, c6, on6⟩
            have O6 := Lib.hid (HO5.out.drawn on6 hpl)
            have C6 := Lib.hid c6
            have N6 := Lib.hid (HON5.out.trans on6)
            have sz6 := on6.size
            clear c6 on6 hi6
            go_wp2_with (at_builtin; refine wpList_append_I _ rfl _ _ rfl w.heap.size _ ys rfl (O6.out.kept ((Kept.refl _).alloc _)) _ [a] rfl (ints_box1 (Box.new _ _ _ _ rfl)) (by simp only [List.length_cons, List.length_nil]; omega) (by simp; omega) ?_; intro v7 w7 o7 g7)
            have hf := own_fp (O6.out.kept ((Kept.refl w6).alloc (.cells #[.int .i64 a] 3)))
            have C7 := Lib.hid ((C6.out.kept ((Kept.refl _).alloc _)).far (only_of_grown g7) (fun x hx => by have := (hf x hx).1; omega))
            have N7 := Lib.hid ((N6.out.trans (((Kept.refl _).alloc _).only _)).overD (only_of_grown g7) (fun x hx => (hf x hx).1))
            have O7 := Lib.hid o7
            have HL7 := Lib.hid (lenV_own o7)
            clear o7 g7 hf
            go_wp2_with fail
            go_roundw
            case rel => exact ⟨ys ++ [a], by simp; omega, O7.out, C7.out.le (by simp; omega), N7.out⟩
            case measure => have h1 := HL7.out; have h2 := HLV.out; simp at h1 h2 ⊢; rw [h1]; try rw [h2]; omega
          · go_wp2_with fail
            go_ret
            exact ⟨⟨_, ys, rfl, HO5.out, hys⟩, HC5.out.le (by omega), HON5.out⟩
set_option maxHeartbeats 2000000 in
theorem drawSum_any (v : Value) (w : World) (h : Byts w v) :
    Calls Try.prog 68 #[v] w fun e w' => RowPost w e w' ∧ Kept w w' := by
  obtain ⟨A, n, c, rfl, hnc, hcm, hb⟩ := h
  go_enter Try.func68, Try.ntmps68
  go_wp2_with fail
  obtain ⟨w0, hw0⟩ : ∃ x : World, x = w.alloc (.cells #[.slice A n c, .int .i64 0, .int .u64 0] 73) := ⟨_, rfl⟩
  rw [← hw0]
  have C0 : Hid (Cur w0 w.heap.size 0) := Lib.hid (hw0 ▸ Cur.init hnc hcm hb)
  have K0 : Hid (Kept w w0) := Lib.hid (hw0 ▸ (Kept.refl w).alloc _)
  clear hw0 hb
  obtain ⟨p, hp⟩ : ∃ p, p = w.heap.size := ⟨_, rfl⟩
  rw [← hp] at C0 ⊢
  have hpw : w.heap.size ≤ p := Nat.le_of_eq hp.symm
  clear hp
  have N0 : Hid (Only [p] w0 w0) := Lib.hid (Only.refl _ _)
  with_reducible refine (pointsList_any p _ w0 C0.out (by omega)).mono ?_
  rintro e w1 ⟨⟨v1, zs1, rfl, o1, hz1⟩, c1, on1⟩
  have C2 := Lib.hid c1
  have N2 := Lib.hid (N0.out.trans on1)
  clear c1 on1
  have O1 := Lib.hid (own_base o1 K0.out.size)
  clear o1
  go_wp2_with fail
  go_ret
  exact ⟨⟨_, _, rfl, O1.out, hz1⟩, N2.out.above K0.out (fun x hx => by rw [List.mem_singleton] at hx; subst hx; exact hpw)⟩
theorem drawMean_any (v : Value) (w : World) (h : Byts w v) :
    Calls Try.prog 18 #[v] w fun e w' => RowPost w e w' ∧ Kept w w' := by
  have C := Lib.hid (drawSum_any v w h)
  go_enter Try.func18, Try.ntmps18
  go_wp2_with fail
  refine (C.out).mono ?_
  rintro e w1 ⟨⟨v1, zs, rfl, o1, hz⟩, k1⟩
  have O1 := Lib.hid o1
  clear o1
  go_wp2_with fail
  go_ret
  exact ⟨⟨_, zs, rfl, O1.out, hz⟩, k1⟩
end Go.Proofs.Ytfemfkmjfplcmaa

/- Contracts of chapter 1: fractions compared; the constants. -/
namespace Go.Proofs.Ytfemfkmjfplcmaa
set_option linter.unusedVariables false
set_option linter.unusedSimpArgs false
open Go.RowKit

def partB (a b : Int) : Bool := inB a (-1000000000000) 1000000000000 && inB b 1 1000000
theorem partB_true {a b : Int} (h : partB a b = true) : -1000000000000 ≤ a ∧ a ≤ 1000000000000 ∧ 1 ≤ b ∧ b ≤ 1000000 := by
  unfold partB at h
  rw [Bool.and_eq_true] at h
  have h1 := inB_true h.1
  have h2 := inB_true h.2
  exact ⟨h1.1, h1.2, h2.1, h2.2⟩
def sgn (n : Int) : Int := if 0 < n then 1 else if n < 0 then -1 else 0
def poMd (a b mode : Int) : Int := if mode = -1 then a / b else if mode = 0 then (2 * a + b) / (2 * b) else -(-a / b)

theorem poPart_any (a b : Int) (w : World) :
    Calls Try.prog 60 #[.int .i64 a, .int .i64 b] w fun e w' => e = .returned (.bool (partB a b)) ∧ w = w' := by
  go_enter Try.func60, Try.ntmps60
  go_wp2_with (go_at_call 84; refine (l1In_any _ _ _ _).mono ?_; rintro e w' ⟨rfl, rfl⟩)
  all_goals
    go_ret
    exact ⟨by simp [partB, *], rfl⟩
theorem isPart_any (a b : Int) (w : World) :
    Calls Try.prog 57 #[.int .i64 a, .int .i64 b] w fun e w' => e = .returned (.bool (partB a b)) ∧ w = w' := by
  go_enter Try.func57, Try.ntmps57
  go_wp2_with (go_at_call 81; refine (within_any _ _ _ _).mono ?_; rintro e w' ⟨rfl, rfl⟩)
  all_goals
    go_ret
    exact ⟨by simp [partB, *], rfl⟩
theorem l1Sign_any (n : Int) (w : World) :
    Calls Try.prog 67 #[.int .i64 n] w fun e w' => e = .returned (.int .i64 (sgn n)) ∧ w = w' := by
  go_enter Try.func67, Try.ntmps67
  go_wp2
  all_goals
    go_ret
    exact ⟨ret_int (by unfold sgn; split <;> (try split) <;> omega), rfl⟩
theorem signOf_any (n : Int) (w : World) :
    Calls Try.prog 65 #[.int .i64 n] w fun e w' => e = .returned (.int .i64 (sgn n)) ∧ w = w' := by
  go_enter Try.func65, Try.ntmps65
  go_wp2
  all_goals
    go_ret
    exact ⟨ret_int (by unfold sgn; split <;> (try split) <;> omega), rfl⟩
def cmpV (a b c d : Int) : Int := if partB a b && partB c d then sgn (a * d - c * b) else 0
theorem mul_bd {a d A D : Int} (h1 : -A ≤ a) (h2 : a ≤ A) (h3 : 0 ≤ d) (h4 : d ≤ D) : -(A * D) ≤ a * d ∧ a * d ≤ A * D := by
  have hA : 0 ≤ A := by omega
  constructor
  · have q1 : -A * d ≤ a * d := Int.mul_le_mul_of_nonneg_right h1 h3
    have q2 : A * d ≤ A * D := Int.mul_le_mul_of_nonneg_left h4 hA
    rw [Int.neg_mul] at q1
    omega
  · have q1 : a * d ≤ A * d := Int.mul_le_mul_of_nonneg_right h2 h3
    have q2 : A * d ≤ A * D := Int.mul_le_mul_of_nonneg_left h4 hA
    omega
theorem part_mul {a b c d : Int} (h1 : partB a b = true) (h2 : partB c d = true) : -1000000000000000000 ≤ a * d ∧ a * d ≤ 1000000000000000000 := by
  have q1 := partB_true h1
  have q2 := partB_true h2
  have := mul_bd (a := a) (d := d) (A := 1000000000000) (D := 1000000) (by omega) (by omega) (by omega) (by omega)
  omega
theorem specCompare_any (a b c d : Int) (w : World) :
    Calls Try.prog 15 #[.int .i64 a, .int .i64 b, .int .i64 c, .int .i64 d] w fun e w' => e = .returned (.tuple #[.int .i64 (cmpV a b c d), .bool (partB a b && partB c d)]) ∧ w = w' := by
  by_cases h1 : partB a b = true <;> by_cases h2 : partB c d = true
  · obtain ⟨q1, q2⟩ := part_mul h1 h2
    obtain ⟨q3, q4⟩ := part_mul h2 h1
    go_enter Try.func15, Try.ntmps15
    go_wp2_with (first | (go_at_call 60; refine (poPart_any _ _ _).mono ?_; rintro e w' ⟨rfl, rfl⟩) | (go_at_call 67; refine (l1Sign_any _ _).mono ?_; rintro e w' ⟨rfl, rfl⟩))
    go_ret2
    exact ⟨by simp [cmpV, h1, h2], rfl⟩
  all_goals
    simp only [Bool.not_eq_true] at *
    go_enter Try.func15, Try.ntmps15
    go_wp2_with (first | (go_at_call 60; refine (poPart_any _ _ _).mono ?_; rintro e w' ⟨rfl, rfl⟩) | (go_at_call 67; refine (l1Sign_any _ _).mono ?_; rintro e w' ⟨rfl, rfl⟩))
    go_ret2
    exact ⟨by simp [cmpV, h1, h2], rfl⟩
theorem implCompare_any (a b c d : Int) (w : World) :
    Calls Try.prog 13 #[.int .i64 a, .int .i64 b, .int .i64 c, .int .i64 d] w fun e w' => e = .returned (.tuple #[.int .i64 (cmpV a b c d), .bool (partB a b && partB c d)]) ∧ w = w' := by
  by_cases h1 : partB a b = true <;> by_cases h2 : partB c d = true
  · obtain ⟨q1, q2⟩ := part_mul h1 h2
    obtain ⟨q3, q4⟩ := part_mul h2 h1
    go_enter Try.func13, Try.ntmps13
    go_wp2_with (first | (go_at_call 57; refine (isPart_any _ _ _).mono ?_; rintro e w' ⟨rfl, rfl⟩) | (go_at_call 65; refine (signOf_any _ _).mono ?_; rintro e w' ⟨rfl, rfl⟩))
    go_ret2
    exact ⟨by simp [cmpV, h1, h2], rfl⟩
  all_goals
    simp only [Bool.not_eq_true] at *
    go_enter Try.func13, Try.ntmps13
    go_wp2_with (first | (go_at_call 57; refine (isPart_any _ _ _).mono ?_; rintro e w' ⟨rfl, rfl⟩) | (go_at_call 65; refine (signOf_any _ _).mono ?_; rintro e w' ⟨rfl, rfl⟩))
    go_ret2
    exact ⟨by simp [cmpV, h1, h2], rfl⟩
end Go.Proofs.Ytfemfkmjfplcmaa
