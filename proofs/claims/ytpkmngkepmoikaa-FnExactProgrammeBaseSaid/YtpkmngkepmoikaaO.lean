/- Memory that the call owns: which blocks a step may have turned; append; marks. -/
import Derived.Test.YtpkmngkepmoikaaM
import Derived.Maps.AppendAt
import Derived.Laws.AppendOwnNone
namespace Go.Proofs.Ytpkmngkepmoikaa
set_option linter.unusedVariables false
set_option linter.unusedSimpArgs false
open Go.RowKit

/-- only the blocks of S, and new ones, have turned -/
structure Only (S : List Nat) (w w' : World) : Prop where
  os : w'.os = w.os
  tape : w'.tape = w.tape
  output : w'.output = w.output
  size : w.heap.size ≤ w'.heap.size
  block : ∀ b, b < w.heap.size → b ∉ S → w'.heap[b]? = w.heap[b]?
theorem Only.refl (S : List Nat) (w : World) : Only S w w := ⟨rfl, rfl, rfl, Nat.le_refl _, fun _ _ _ => rfl⟩
theorem Kept.only {w w' : World} (h : Kept w w') (S : List Nat) : Only S w w' := ⟨h.os, h.tape, h.output, h.size, fun b hb _ => h.block b hb⟩
theorem Only.trans {S : List Nat} {a b c : World} (h : Only S a b) (k : Only S b c) : Only S a c :=
  ⟨k.os.trans h.os, k.tape.trans h.tape, k.output.trans h.output, Nat.le_trans h.size k.size, fun i hi hn => (k.block i (Nat.lt_of_lt_of_le hi h.size) hn).trans (h.block i hi hn)⟩
theorem Only.mono {S T : List Nat} {a b : World} (h : Only S a b) (hs : ∀ x ∈ S, x ∈ T) : Only T a b :=
  ⟨h.os, h.tape, h.output, h.size, fun i hi hn => h.block i hi (fun hx => hn (hs i hx))⟩
/-- what was there when a0 stood is kept if S lies above -/
theorem Only.above {S : List Nat} {a0 a b : World} (h : Only S a b) (k : Kept a0 a) (hs : ∀ x ∈ S, a0.heap.size ≤ x) : Kept a0 b :=
  ⟨h.os.trans k.os, h.tape.trans k.tape, h.output.trans k.output, Nat.le_trans k.size h.size, fun i hi => (h.block i (Nat.lt_of_lt_of_le hi k.size) (fun hx => by have := hs i hx; omega)).trans (k.block i hi)⟩
theorem Only.drewN {S : List Nat} {a b : World} (h : Only S a b) (n : Nat) : Only S a (b.drewN n) := ⟨h.os, h.tape, h.output, h.size, h.block⟩
theorem Only.setCell {S : List Nat} {a b : World} (h : Only S a b) {p : Addr} (hp : p.block ∈ S) (u : Value) : Only S a (b.setCell p u) :=
  ⟨h.os, h.tape, h.output, by simpa [World.setCell] using h.size, fun i hi hn => (Below.heap_setCell b p u i (fun e => hn (e ▸ hp))).trans (h.block i hi hn)⟩

/-- the block that a slice value leads to -/
def fp (v : Value) : List Nat := v.ownBlock.toList
theorem fp_some (a : Addr) (n c : Nat) : fp (.slice (some a) n c) = [a.block] := rfl
theorem fp_none (n c : Nat) : fp (.slice none n c) = [] := rfl
theorem own_fp {w : World} {base : Nat} {e : TypeId} {size : Nat} {v : Value} {n : Nat} {xs : List Value} (h : w.ownsRow base e size v n xs) : ∀ b ∈ fp v, base ≤ b ∧ b < w.heap.size := by
  intro b hb
  exact h.lt b (by simpa [fp] using hb)
theorem own_only {w w' : World} {base : Nat} {e : TypeId} {size : Nat} {v : Value} {n : Nat} {xs : List Value} {S : List Nat} (h : w.ownsRow base e size v n xs) (ho : Only S w w') (hd : ∀ b ∈ fp v, b ∉ S) : w'.ownsRow base e size v n xs := by
  refine ⟨h.1, ?_⟩
  rcases h.2 with hn | ⟨g, cap, cur, rfl, hb, hgg, rest⟩
  · exact .inl hn
  · refine .inr ⟨g, cap, cur, rfl, hb, ?_, rest⟩
    rw [ho.block g (Array.getElem?_eq_some_iff.1 hgg).1 (hd g (by simp [fp_some]))]
    exact hgg
theorem own_kept {w w' : World} {base : Nat} {e : TypeId} {size : Nat} {v : Value} {n : Nat} {xs : List Value} (h : w.ownsRow base e size v n xs) (hk : Kept w w') : w'.ownsRow base e size v n xs :=
  own_only h (hk.only []) (fun _ _ => List.not_mem_nil)
theorem own_base {w : World} {base base' : Nat} {e : TypeId} {size : Nat} {v : Value} {n : Nat} {xs : List Value} (h : w.ownsRow base e size v n xs) (hb : base' ≤ base) : w.ownsRow base' e size v n xs := by
  refine ⟨h.1, ?_⟩
  rcases h.2 with hn | ⟨g, cap, cur, rfl, hg, rest⟩
  · exact .inl hn
  · exact .inr ⟨g, cap, cur, rfl, Nat.le_trans hb hg, rest⟩
/-- what lies from 'base' on is kept where only blocks below it have turned -/
theorem own_far {w w' : World} {base base' : Nat} {e : TypeId} {size : Nat} {v : Value} {n : Nat} {xs : List Value} {S : List Nat} (h : w.ownsRow base e size v n xs) (ho : Only S w w') (hS : ∀ b ∈ S, b < base) (hb : base' ≤ base) : w'.ownsRow base' e size v n xs :=
  own_only (own_base h hb) ho (fun b hv hs => by have := (own_fp h b hv).1; have := hS b hs; omega)
theorem OwnI.kept {w w' : World} {base : Nat} {v : Value} {zs : List Int} (h : OwnI w base v zs) (hk : Kept w w') : OwnI w' base v zs := own_kept h hk
theorem OwnI.only {w w' : World} {base : Nat} {v : Value} {zs : List Int} {S : List Nat} (h : OwnI w base v zs) (ho : Only S w w') (hd : ∀ b ∈ fp v, b ∉ S) : OwnI w' base v zs := own_only h ho hd
theorem only_of_grown {w w' : World} {v : Value} (h : w.grownBy w' v.ownBlock) : Only (fp v) w w' :=
  ⟨h.os, h.tape, h.output, h.size, fun b hb hn => h.block b hb (fun e => hn (by simp [fp, ← e]))⟩

/-- block b is just the cells cs of element type t, none frozen -/
def Box (w : World) (b : Nat) (t : TypeId) (cs : Array Value) : Prop := w.heap[b]? = some (.cells cs t (0, 0))
theorem Box.lt {w : World} {b : Nat} {t : TypeId} {cs : Array Value} (h : Box w b t cs) : b < w.heap.size := by
  rcases Nat.lt_or_ge b w.heap.size with hlt | hge
  · exact hlt
  · unfold Box at h
    rw [Array.getElem?_eq_none hge] at h
    cases h
theorem Box.new (w : World) (b : Nat) (t : TypeId) (cs : Array Value) (hb : b = w.heap.size) : Box (w.alloc (.cells cs t)) b t cs := by
  subst hb
  exact heap_alloc_new w _
theorem Box.alloc {w : World} {b : Nat} {t : TypeId} {cs : Array Value} (h : Box w b t cs) (o : Obj) : Box (w.alloc o) b t cs := (Below.heap_alloc w o b h.lt).trans h
theorem Box.drewN {w : World} {b : Nat} {t : TypeId} {cs : Array Value} (h : Box w b t cs) (n : Nat) : Box (w.drewN n) b t cs := h
theorem Box.set {w : World} {b : Nat} {t : TypeId} {cs : Array Value} (h : Box w b t cs) (i : Nat) (u : Value) : Box (w.setCell ⟨b, i, none⟩ u) b t (cs.setIfInBounds i u) := by
  unfold Box at h ⊢
  simp [World.setCell, Array.getElem?_modify, h]
theorem Box.far {w : World} {b : Nat} {t : TypeId} {cs : Array Value} (h : Box w b t cs) (p : Addr) (hp : b ≠ p.block) (u : Value) : Box (w.setCell p u) b t cs := (Below.heap_setCell w p u b hp).trans h
theorem Box.kept {w w' : World} {b : Nat} {t : TypeId} {cs : Array Value} (h : Box w b t cs) (hk : Kept w w') : Box w' b t cs := (hk.block b h.lt).trans h
theorem Box.only {w w' : World} {b : Nat} {t : TypeId} {cs : Array Value} {S : List Nat} (h : Box w b t cs) (hk : Only S w w') (hn : b ∉ S) : Box w' b t cs := (hk.block b h.lt hn).trans h
theorem Box.cell {w : World} {b : Nat} {t : TypeId} {cs : Array Value} (h : Box w b t cs) (i : Nat) : w.cell? ⟨b, i, none⟩ = cs[i]? := cell_of_row w b i cs t (0, 0) h
theorem Box.free {w : World} {b : Nat} {t : TypeId} {cs : Array Value} (h : Box w b t cs) (i : Nat) : w.frozen? ⟨b, i, none⟩ = false := by
  unfold Box at h
  simp [World.frozen?, h]
/-- a block of three cells -/
theorem Box.three {w : World} {b : Nat} {t : TypeId} {x y z : Value} (h : Box w b t #[x, y, z]) :
    (w.cell? ⟨b, 0, none⟩ = some x ∧ w.cell? ⟨b, 1, none⟩ = some y ∧ w.cell? ⟨b, 2, none⟩ = some z) ∧ (w.frozen? ⟨b, 0, none⟩ = false ∧ w.frozen? ⟨b, 1, none⟩ = false ∧ w.frozen? ⟨b, 2, none⟩ = false) :=
  ⟨⟨h.cell 0, h.cell 1, h.cell 2⟩, h.free 0, h.free 1, h.free 2⟩

theorem Box.four {w : World} {b : Nat} {t : TypeId} {x y z u : Value} (h : Box w b t #[x, y, z, u]) :
    (w.cell? ⟨b, 0, none⟩ = some x ∧ w.cell? ⟨b, 1, none⟩ = some y ∧ w.cell? ⟨b, 2, none⟩ = some z ∧ w.cell? ⟨b, 3, none⟩ = some u) ∧ (w.frozen? ⟨b, 0, none⟩ = false ∧ w.frozen? ⟨b, 1, none⟩ = false ∧ w.frozen? ⟨b, 2, none⟩ = false ∧ w.frozen? ⟨b, 3, none⟩ = false) :=
  ⟨⟨h.cell 0, h.cell 1, h.cell 2, h.cell 3⟩, h.free 0, h.free 1, h.free 2, h.free 3⟩
theorem Box.six {w : World} {b : Nat} {t : TypeId} {x y z u p q : Value} (h : Box w b t #[x, y, z, u, p, q]) :
    (w.cell? ⟨b, 0, none⟩ = some x ∧ w.cell? ⟨b, 1, none⟩ = some y ∧ w.cell? ⟨b, 2, none⟩ = some z ∧ w.cell? ⟨b, 3, none⟩ = some u ∧ w.cell? ⟨b, 4, none⟩ = some p ∧ w.cell? ⟨b, 5, none⟩ = some q) ∧ (w.frozen? ⟨b, 0, none⟩ = false ∧ w.frozen? ⟨b, 1, none⟩ = false ∧ w.frozen? ⟨b, 2, none⟩ = false ∧ w.frozen? ⟨b, 3, none⟩ = false ∧ w.frozen? ⟨b, 4, none⟩ = false ∧ w.frozen? ⟨b, 5, none⟩ = false) :=
  ⟨⟨h.cell 0, h.cell 1, h.cell 2, h.cell 3, h.cell 4, h.cell 5⟩, h.free 0, h.free 1, h.free 2, h.free 3, h.free 4, h.free 5⟩

/-- the blocks that a struct of slices leads to -/
def fpA : Value → List Nat
  | .agg cs => cs.toList.flatMap fp
  | v => fp v
theorem nodup_one (v : Value) : (fp v).Nodup := by
  unfold fp
  cases v.ownBlock <;> simp
theorem nodup_fp {a b : Value} {m : Nat} (h1 : ∀ x ∈ fp a, x < m) (h2 : ∀ x ∈ fp b, m ≤ x) : (fp a ++ fp b).Nodup := by
  rw [List.nodup_append]
  exact ⟨nodup_one a, nodup_one b, fun x hx y hy e => by have := h1 x hx; have := h2 y hy; omega⟩
theorem OwnI.far {w w' : World} {base base' : Nat} {v : Value} {zs : List Int} {S : List Nat} (h : OwnI w base v zs) (ho : Only S w w') (hS : ∀ b ∈ S, b < base) (hb : base' ≤ base) : OwnI w' base' v zs := own_far h ho hS hb
theorem flat_get {α β : Type} (f : α → List β) (m : Nat) (hf : ∀ x, (f x).length = m) : ∀ (l : List α) (k j : Nat), j < m → (l.flatMap f)[k * m + j]? = (l[k]?).bind fun x => (f x)[j]?
  | [], k, j, _ => by simp
  | x :: l, 0, j, hj => by
    rw [List.flatMap_cons, Nat.zero_mul, Nat.zero_add, List.getElem?_append_left (by rw [hf]; exact hj)]
    rfl
  | x :: l, k + 1, j, hj => by
    rw [List.flatMap_cons, List.getElem?_append_right (by rw [hf, Nat.succ_mul]; omega), hf, show (k + 1) * m + j - m = k * m + j from by rw [Nat.succ_mul]; omega, flat_get f m hf l k j hj]
    simp
theorem flat_length {α β : Type} (f : α → List β) (m : Nat) (hf : ∀ x, (f x).length = m) (l : List α) : (l.flatMap f).length = l.length * m := by
  induction l with
  | nil => simp
  | cons x l ih => rw [List.flatMap_cons, List.length_append, hf, ih, List.length_cons, Nat.succ_mul]; omega

/-- append to a row of the call's own: the source nil, empty or not -/
theorem wpList_append_seq {P : Program} (w : World) {ops : Array Oper} {rest : List Oper} {o : Oper} {a : Act} {Q : Exit → Act → World → Prop} (hgd : o.guard = none) (s x : Operand) (t : TypeId)
    (ho : o.op = .call { callee := .builtin .append, args := #[s, x], argTypes := #[t, t] })
    (base : Nat) (e : TypeId) (i : TypeInfo) (z : Value) (size bytes : Nat) (ht : P.underlying t = some (.slice e)) (hi : P.info? e = some i) (hz : i.zero = some z)
    (hsize : i.size = size) (hby : i.bytes = bytes) (hzs : z.cells.size = size) (hsz : 0 < size)
    (v : Value) (n : Nat) (xs : List Value) (hs : a.eval s = v) (hown : w.ownsRow base e size v n xs)
    (u : Value) (m : Nat) (news : List Value) (hx : a.eval x = u) (hr : Seq w u m news) (hl : news.length = m * size) (h1 : ∀ y ∈ news, y.oneCell' = true)
    (h63 : n + m ≤ maxLen) (hbytes : (n + m) * bytes ≤ 140737488355328) (hbase : base ≤ w.heap.size)
    (h : ∀ v' w', w'.ownsRow base e size v' (n + m) (xs ++ news) → w.grownBy w' v.ownBlock → (v'.ownBlock = v.ownBlock ∨ v'.ownBlock = some w.heap.size) → wpList P ops Q rest (a.put o.dst v') w') : wpList P ops Q (o :: rest) a w := by
  obtain ⟨A, c, rfl, hnc, hcm, hA, hc⟩ := hr
  rcases A with _ | ad
  · obtain rfl := hA rfl
    obtain rfl : m = 0 := by omega
    obtain rfl : news = [] := List.eq_nil_of_length_eq_zero (by simpa using hl)
    exact wpList_append_own_none hgd s x t ho base e i size ht hi v n xs hs hown hx (h v w (by simpa using hown) (World.grownBy.refl w _) (.inl rfl))
  · refine wpList_append_own_at w hgd s x t ho base e i z size bytes ht hi hz hsize hby hzs hsz v n xs hs hown ad m c news hx hl ?_ h1 h63 hbytes hbase (fun v' w' q1 q2 _ q4 => h v' w' q1 q2 q4)
    intro j y hy
    have hm : 0 < m := by
      rcases Nat.eq_zero_or_pos m with h0 | h0
      · subst h0
        have : news = [] := List.eq_nil_of_length_eq_zero (by simpa using hl)
        subst this
        simp at hy
      · exact h0
    obtain ⟨b, o', e1, hb, hcell⟩ := hc hm
    injection e1 with e1
    subst e1
    have := hcell j y hy
    rwa [show (⟨b, o', none⟩ : Addr).add j = ⟨b, o' + j, none⟩ from by unfold Addr.add; split <;> simp_all]

/-- the marks from k on -/
def marksI (k : Int) (n : Nat) : List Int := (List.range n).map fun (i : Nat) => k + (i : Int)
theorem marksI_length (k : Int) (n : Nat) : (marksI k n).length = n := by simp [marksI]
theorem marksI_get {k : Int} {n i : Nat} (h : i < n) : (marksI k n)[i]? = some (k + i) := by simp [marksI, h]
theorem own_form {w : World} {base : Nat} {e : TypeId} {size : Nat} {v : Value} {n : Nat} {xs : List Value} (h : w.ownsRow base e size v n xs) :
    ∃ A c, v = .slice A n c ∧ n ≤ c ∧ c ≤ maxLen ∧ (0 < n → ∃ g, A = some ⟨g, 0, none⟩) := by
  rcases h.2 with ⟨rfl, rfl⟩ | ⟨g, cap, cur, rfl, hb, hg, hnc, hcm, hcs, htake⟩
  · exact ⟨none, 0, rfl, Nat.le_refl _, Nat.zero_le _, fun h => absurd h (by omega)⟩
  · exact ⟨_, cap, rfl, hnc, hcm, fun _ => ⟨g, rfl⟩⟩

set_option maxHeartbeats 400000 in
theorem markIntS_any (v : Value) (zs : List Int) (k : Int) (w : World) (base : Nat) (h : OwnI w base v zs) (hk : 0 ≤ k) (hk2 : k ≤ 1099511627776) (hn : zs.length ≤ 1048576) :
    Calls Try.prog 21 #[v, .int .i64 k] w fun e w' => e = .returned (.int .i64 (k + zs.length)) ∧ OwnI w' base v (marksI k zs.length) ∧ Only (fp v) w w' := by
  obtain ⟨A, c, rfl, hnc, hcm, hA⟩ := own_form h
  unfold maxLen at hcm
  have HA := Lib.hid hA
  have HI := Lib.hid h
  clear h hA
  go_enter Try.func21, Try.ntmps21
  go_wp2
  go_loopw [1, 5] (fun q i wr => ∃ (j : Nat) (xs : List Value), j ≤ zs.length ∧ i = .int .i64 j ∧ q = .int .i64 (k + j) ∧ wr.ownsRow base 3 1 (.slice A zs.length c) zs.length xs ∧ xs.take j = ((marksI k zs.length).map (Value.int .i64)).take j ∧ Only (fp (.slice A zs.length c)) w wr) (fun _ i _ => zs.length - (intOf i).toNat)
  case atStart => exact ⟨0, _, Nat.zero_le _, rfl, by simp, HI.out, rfl, Only.refl _ _⟩
  case round =>
    obtain ⟨j, xs, hj, rfl, rfl, ho, ht, hon⟩ := hrel
    have hlen : xs.length = zs.length := by simpa using ho.1
    by_cases hlt : j < zs.length
    · obtain ⟨g, rfl⟩ := HA.out (by omega)
      obtain ⟨u0, hx, hd, hf⟩ := own_at ho (j := j) (by omega)
      have hst := ho.stored j (.int .i64 (k + j))
      have HS := Lib.hid hst
      have HT := Lib.hid ht
      have HO := Lib.hid hlen
      have HN := Lib.hid hon
      clear hst ht hx hlen ho hon
      go_wp2
      go_roundw
      case rel => exact ⟨j + 1, _, by omega, by go_num, by go_num, HS.out.1, set_take (by rw [HO.out]; exact hlt) HT.out (by rw [List.getElem?_map, marksI_get hlt]; rfl), HN.out.setCell (by simp [fp_some]) _⟩
      case measure => simp [intOf]; omega
    · obtain rfl : j = zs.length := by omega
      have e := take_full (n := zs.length) hlen (by simp [marksI_length]) ht
      have HO := Lib.hid ho
      have HE := Lib.hid e
      clear ho ht hlen e
      go_wp2
      go_ret
      refine ⟨rfl, ?_, hon⟩
      have := HO.out
      rw [HE.out] at this
      unfold OwnI
      rw [marksI_length]
      exact this
theorem heldIntS_any (v : Value) (k : Int) (n : Nat) (w : World) (h : Ints w v (marksI k n)) (hk : 0 ≤ k) (hk2 : k ≤ 1099511627776) (hn : n ≤ 1048576) :
    Calls Try.prog 22 #[v, .int .i64 k] w fun e w' => e = .returned (.int .i64 (k + n)) ∧ w = w' := by
  obtain ⟨A, c, rfl, hnc, hcm, hl⟩ := h.out
  have HL := Lib.hid hl
  have HM := Lib.hid (marksI_length k n)
  rw [HM.out] at hnc
  unfold maxLen at hcm
  clear hl h
  rw [HM.out]
  go_enter Try.func22, Try.ntmps22
  go_wp2
  go_loop [1, 5] (fun q i => ∃ j : Nat, j ≤ n ∧ i = .int .i64 j ∧ q = .int .i64 (k + j)) (fun _ i => n - (intOf i).toNat)
  case atStart => exact ⟨0, Nat.zero_le _, rfl, by simp⟩
  case round =>
    obtain ⟨j, hj, rfl, rfl⟩ := hrel
    by_cases hlt : j < n
    · obtain ⟨b, o, z, rfl, hb, hz, hc⟩ := ints_at HL.out (k := j) (by rw [HM.out]; exact hlt)
      rw [marksI_get hlt] at hz
      injection hz with hz
      subst hz
      go_wp2
      go_round
      case rel => exact ⟨j + 1, by omega, by go_num, by go_num⟩
      case measure => simp [intOf]; omega
    · obtain rfl : j = n := by omega
      go_wp2
      go_ret
      exact ⟨rfl, rfl⟩

/-! ### sizes -/
def lessOr (left : Int) (n : Nat) : Int := if (n : Int) ≤ left then left - n else -1
theorem sum_take_le (l : List Nat) (k : Nat) : (l.take k).sum ≤ l.sum := by
  rw [← List.sum_append_nat.symm.trans (congrArg List.sum (List.take_append_drop k l))]
  omega
theorem mem_le_sum (l : List Nat) (x : Nat) (h : x ∈ l) : x ≤ l.sum := by
  induction l with
  | nil => cases h
  | cons y l ih =>
    rw [List.sum_cons]
    rcases List.mem_cons.1 h with rfl | h'
    · omega
    · have := ih h'
      omega
theorem sum_snoc {α : Type} (f : α → Nat) {l : List α} {k : Nat} {x : α} (h : l[k]? = some x) : ((l.take (k + 1)).map f).sum = ((l.take k).map f).sum + f x := by
  rw [take_snoc h, List.map_append, List.sum_append_nat]
  simp
theorem sum_take (α : Type) (f : α → Nat) (l : List α) (k : Nat) : ((l.take k).map f).sum ≤ (l.map f).sum := by
  rw [List.map_take]
  exact sum_take_le _ _
theorem lessOr_bd {left : Int} {n : Nat} (h : 0 ≤ left) : -1 ≤ lessOr left n ∧ lessOr left n ≤ left := by
  unfold lessOr
  split <;> omega
theorem lessOr_add {left : Int} {n m : Nat} (h : 0 ≤ lessOr left n) : lessOr (lessOr left n) m = lessOr left (n + m) := by
  unfold lessOr at *
  split at h
  · rename_i h1
    rw [if_pos h1]
    split
    · rw [if_pos (by omega)]; omega
    · rw [if_neg (by omega)]
  · omega
theorem lessOr_neg {left : Int} {n m : Nat} (h : lessOr left n < 0) (h0 : 0 ≤ left) : lessOr left (n + m) = -1 := by
  unfold lessOr at *
  split at h
  · omega
  · rw [if_neg (by omega)]
theorem szIntS_any (v : Value) (zs : List Int) (left : Int) (w : World) (h : Ints w v zs) (h0 : 0 ≤ left) (h1 : left ≤ 1048576) :
    Calls Try.prog 34 #[v, .int .i64 left] w fun e w' => e = .returned (.int .i64 (lessOr left zs.length)) ∧ w = w' := by
  obtain ⟨A, c, rfl, hnc, hcm, hl⟩ := h.out
  unfold maxLen at hcm
  clear hl h
  by_cases hb : (zs.length : Int) ≤ left
  · go_enter Try.func34, Try.ntmps34
    go_wp2
    go_ret
    exact ⟨ret_int (by unfold lessOr; rw [if_pos hb]), rfl⟩
  · go_enter Try.func34, Try.ntmps34
    go_wp2
    go_ret
    exact ⟨ret_int (by unfold lessOr; rw [if_neg (by omega)]), rfl⟩
end Go.Proofs.Ytpkmngkepmoikaa
