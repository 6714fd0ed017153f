/- Lists of items that a call builds by append. -/
import Derived.Test.YtmbgcmeiigmbaaaU
import Derived.Test.YtmbgcmeiigmbaaaApS
import Derived.Test.YtmbgcmeiigmbaaaAp2
import Derived.Test.YtmbgcmeiigmbaaaZ
import Derived.Lib.SliceRun
namespace Go.Proofs.Ytmbgcmeiigmbaaa
open Go.RowKit

theorem ownT_fps {w : World} {base : Nat} {v : Value} {it : ItemD} (h : OwnT w base v it) : ∀ b ∈ fpA v, base ≤ b ∧ b < w.heap.size := by
  obtain ⟨nv, mv, rfl, h1, h2, h3⟩ := h
  rw [fpA_item]
  intro b hb
  rcases List.mem_append.1 hb with hb | hb
  · exact own_fp h1.1 b hb
  · exact own_fp h2 b hb
theorem OwnC.fps {w : World} {base : Nat} {v : Value} {its : List ItemD} {cs : List (Value × Value)} (h : OwnC w base v its cs) : ∀ b ∈ fp v ++ fpL cs, base ≤ b ∧ b < w.heap.size := by
  obtain ⟨h1, h2, h3, _⟩ := h
  intro b hb
  rcases List.mem_append.1 hb with hb | hb
  · exact own_fp h2 b hb
  · unfold fpL at hb
    obtain ⟨⟨nv, mv⟩, hp, hb⟩ := List.mem_flatMap.1 hb
    obtain ⟨k, hk⟩ := List.getElem?_of_mem hp
    have hlt : k < its.length := by rw [← h1]; exact (List.getElem?_eq_some_iff.1 hk).1
    obtain ⟨q1, q2⟩ := h3 k nv mv its[k] hk (List.getElem?_eq_getElem hlt)
    rcases List.mem_append.1 hb with hb | hb
    · exact own_fp q1.1 b hb
    · exact own_fp q2 b hb
theorem OwnC.base {w : World} {base base' : Nat} {v : Value} {its : List ItemD} {cs : List (Value × Value)} (h : OwnC w base v its cs) (hb : base' ≤ base) : OwnC w base' v its cs :=
  ⟨h.1, own_base h.2.1 hb, fun k nv mv it q1 q2 => ⟨⟨own_base (h.2.2.1 k nv mv it q1 q2).1.1 hb, (h.2.2.1 k nv mv it q1 q2).1.2⟩, own_base (h.2.2.1 k nv mv it q1 q2).2 hb⟩, h.2.2.2⟩
theorem OwnC.toL {w : World} {base : Nat} {v : Value} {its : List ItemD} {cs : List (Value × Value)} (h : OwnC w base v its cs) : OwnL w base v its (fp v ++ fpL cs) :=
  ⟨cs, h.1, h.2.1, h.2.2.1, rfl, h.2.2.2, h.fps⟩
theorem OwnC.nil0 (w : World) (base : Nat) : OwnC w base (.slice none 0 0) [] [] := ⟨rfl, World.ownsRow_nil _ _ _ _, fun k _ _ _ h => by simp at h, by simp [fp, fpL, Value.ownBlock]⟩
theorem OwnC.made {w : World} {base : Nat} (g : Nat) (hb : base ≤ g) (h : Box w g 64 #[]) : OwnC w base (.slice (some ⟨g, 0, none⟩) 0 0) [] [] :=
  ⟨rfl, own_made g _ 3 hb h, fun k _ _ _ h => by simp at h, by simp [fp_some, fpL]⟩
/-- one item more -/
theorem OwnC.push {w w' : World} {base : Nat} {v v' nv mv : Value} {its : List ItemD} {cs : List (Value × Value)} {it : ItemD} (h : OwnC w base v its cs) (hn : OwnS w base nv it.names) (hm : OwnI w base mv it.marks)
    (hnd : (fp nv ++ fp mv).Nodup) (hd : ∀ b ∈ fp nv ++ fp mv, b ∉ fp v ++ fpL cs) (ho : w'.ownsRow base 64 3 v' (its.length + 1) ((cs.zip its).flatMap row3 ++ [nv, mv, .bool it.late]))
    (hg : w.grownBy w' v.ownBlock) (hv : v'.ownBlock = v.ownBlock ∨ v'.ownBlock = some w.heap.size) : OwnC w' base v' (its ++ [it]) (cs ++ [(nv, mv)]) := by
  have hon := only_of_grown hg
  have hfs := h.fps
  have hfn : ∀ b ∈ fp nv ++ fp mv, b < w.heap.size := fun b hb => by
    rcases List.mem_append.1 hb with hb | hb
    · exact (own_fp hn.1 b hb).2
    · exact (own_fp hm b hb).2
  have hd1 : ∀ b ∈ fp nv ++ fp mv, b ∉ fp v := fun b hb hb' => hd b hb (List.mem_append_left _ hb')
  have hnod := List.nodup_append.1 h.2.2.2
  refine ⟨by simp [h.1], ?_, ?_, ?_⟩
  · rw [List.length_append, List.length_singleton]
    have e : (cs ++ [(nv, mv)]).zip (its ++ [it]) = cs.zip its ++ [((nv, mv), it)] := by
      rw [List.zip_append h.1]
      rfl
    rw [e, List.flatMap_append]
    simpa [row3] using ho
  · intro k nv' mv' it' q1 q2
    rcases getElem?_snoc q1 with q | ⟨qk, qe⟩
    · have hk : k < its.length := by rw [← h.1]; exact (List.getElem?_eq_some_iff.1 q).1
      rw [List.getElem?_append_left hk] at q2
      obtain ⟨r1, r2⟩ := h.2.2.1 k nv' mv' it' q q2
      have hx : ∀ b, b ∈ fp nv' ∨ b ∈ fp mv' → b ∉ fp v := fun b hb hb' => hnod.2.2 b hb' b (mem_fpL q hb) rfl
      exact ⟨r1.only hon (fun b hb => hx b (.inl hb)), r2.only hon (fun b hb => hx b (.inr hb))⟩
    · simp only [Prod.mk.injEq] at qe
      obtain ⟨rfl, rfl⟩ := qe
      rw [qk, h.1, List.getElem?_concat_length] at q2
      injection q2 with q2
      subst q2
      exact ⟨hn.only hon (fun b hb => hd1 b (List.mem_append_left _ hb)), hm.only hon (fun b hb => hd1 b (List.mem_append_right _ hb))⟩
  · rw [fpL_snoc]
    have hv' : ∀ b ∈ fp v', b ∈ fp v ∨ b = w.heap.size := fun b hb => by
      have hb' : v'.ownBlock = some b := by simpa [fp] using hb
      rcases hv with hv | hv
      · left
        rw [hv] at hb'
        simpa [fp] using hb'
      · right
        rw [hv] at hb'
        injection hb' with hb'
        exact hb'.symm
    rw [List.nodup_append]
    refine ⟨nodup_one _, List.nodup_append.2 ⟨hnod.2.1, hnd, fun x hx y hy e => ?_⟩, fun x hx y hy e => ?_⟩
    · subst e
      exact hd x hy (List.mem_append_right _ hx)
    · subst e
      rcases hv' x hx with hx | rfl
      · rcases List.mem_append.1 hy with hy | hy
        · exact hnod.2.2 x hx x hy rfl
        · exact hd1 x hy hx
      · rcases List.mem_append.1 hy with hy | hy
        · have := (hfs _ (List.mem_append_right _ hy)).2
          omega
        · have := hfn _ hy
          omega
theorem set3 {w : World} {g : Nat} {t : TypeId} {x0 x1 x2 : Value} (h : Box w g t #[x0, x1, x2]) (u0 u1 u2 : Value) :
    ∃ w9, w9 = ((w.setCell ⟨g, 0, none⟩ u0).setCell ⟨g, 1, none⟩ u1).setCell ⟨g, 2, none⟩ u2 ∧ Box w9 g t #[u0, u1, u2] ∧ Only [g] w w9 :=
  ⟨_, rfl, ((h.set 0 u0).set 1 u1).set 2 u2, (((Only.refl [g] w).setCell (by simp) _).setCell (by simp) _).setCell (by simp) _⟩
theorem Box.far3 {w : World} {b g : Nat} {t : TypeId} {cs : Array Value} (h : Box w b t cs) (hne : b ≠ g) (u0 u1 u2 : Value) :
    Box (((w.setCell ⟨g, 0, none⟩ u0).setCell ⟨g, 1, none⟩ u1).setCell ⟨g, 2, none⟩ u2) b t cs := ((h.far _ hne _).far _ hne _).far _ hne _
/-- append(out, item) -/
theorem run_append_T {P : Program} (w : World) (base : Nat) (t ty e : TypeId) (i : TypeInfo) (z : Value) (ht : P.underlying t = some (.slice e)) (hi : P.info? e = some i) (hz : i.zero = some z)
    (hsize : i.size = 3) (hby : i.bytes = 56) (hzs : z.cells.size = 3) (v : Value) (n : Nat) (xs : List Value) (hown : w.ownsRow base e 3 v n xs) (g : Nat) (c0 c1 c2 : Value) (hB : Box w g e #[c0, c1, c2])
    (h1 : c0.oneCell' = true ∧ c1.oneCell' = true ∧ c2.oneCell' = true) (hl : n ≤ 1000000) (hbase : base ≤ w.heap.size) :
    ∃ v' w', (Builtin.append_ #[t, t] ty #[v, .slice (some ⟨g, 0, none⟩) 1 1]).run P w = .ok v' w' ∧ w'.ownsRow base e 3 v' (n + 1) (xs ++ [c0, c1, c2]) ∧ w.grownBy w' v.ownBlock ∧ (v'.ownBlock = v.ownBlock ∨ v'.ownBlock = some w.heap.size) := by
  obtain ⟨v', w', hrun, h2, h3, _, h5⟩ := run_append_own_at (P := P) w base t ty e i z 3 56 ht hi hz hsize hby hzs (by omega) v n xs hown ⟨g, 0, none⟩ 1 1 [c0, c1, c2] rfl (by
    intro j u hu
    have e1 : (⟨g, 0, none⟩ : Addr).add j = ⟨g, j, none⟩ := by unfold Addr.add; split <;> simp_all
    rw [e1, hB.cell j, ← hu]
    exact List.getElem?_toArray (xs := [c0, c1, c2]) (i := j)) (by
    intro u hu
    simp only [List.mem_cons, List.not_mem_nil, or_false] at hu
    rcases hu with rfl | rfl | rfl
    · exact h1.1
    · exact h1.2.1
    · exact h1.2.2) (by unfold maxLen; omega) (by omega) hbase
  exact ⟨v', w', hrun, h2, h3, h5⟩
theorem wp_append_T (w : World) {o : Oper} {a : Act} {K : Act → World → Prop} {Q : Exit → Act → World → Prop} (s x : Operand)
    (ho : o.op = .call { callee := .builtin .append, args := #[s, x], argTypes := #[31, 31] })
    (base : Nat) (v : Value) (n : Nat) (xs : List Value) (hs : a.eval s = v) (hown : w.ownsRow base 64 3 v n xs) (g : Nat) (c0 c1 c2 : Value) (hx : a.eval x = .slice (some ⟨g, 0, none⟩) 1 1)
    (hB : Box w g 64 #[c0, c1, c2]) (h1 : c0.oneCell' = true ∧ c1.oneCell' = true ∧ c2.oneCell' = true) (hl : n ≤ 1000000) (hbase : base ≤ w.heap.size)
    (h : ∀ v' w', w'.ownsRow base 64 3 v' (n + 1) (xs ++ [c0, c1, c2]) → w.grownBy w' v.ownBlock → (v'.ownBlock = v.ownBlock ∨ v'.ownBlock = some w.heap.size) → K (a.put o.dst v') w') : o.wp Try.prog a w K Q := by
  obtain ⟨i0, hi, hz0, hz1, hz2⟩ := info_parts info_item
  obtain ⟨v', w', hrun, h2, h3, h4⟩ := run_append_T (P := Try.prog) w base 31 o.type 64 i0 _ Try.underlying31 hi hz0 hz1 hz2 rfl v n xs hown g c0 c1 c2 hB h1 hl hbase
  unfold Oper.wp execOp
  simp only [ho, resolve, invoke, builtin, Sem.run_bind, Sem.run_pure, Result.andThen_ok, List.map_toArray, List.map_cons, List.map_nil, hs, hx, hrun]
  exact h v' w' h2 h3 h4
theorem wpList_append_T (w : World) {ops : Array Oper} {rest : List Oper} {o : Oper} {a : Act} {Q : Exit → Act → World → Prop} (hgd : o.guard = none) (s x : Operand)
    (ho : o.op = .call { callee := .builtin .append, args := #[s, x], argTypes := #[31, 31] })
    (base : Nat) (v : Value) (n : Nat) (xs : List Value) (hs : a.eval s = v) (hown : w.ownsRow base 64 3 v n xs) (g : Nat) (c0 c1 c2 : Value) (hx : a.eval x = .slice (some ⟨g, 0, none⟩) 1 1)
    (hB : Box w g 64 #[c0, c1, c2]) (h1 : c0.oneCell' = true ∧ c1.oneCell' = true ∧ c2.oneCell' = true) (hl : n ≤ 1000000) (hbase : base ≤ w.heap.size)
    (h : ∀ v' w', w'.ownsRow base 64 3 v' (n + 1) (xs ++ [c0, c1, c2]) → w.grownBy w' v.ownBlock → (v'.ownBlock = v.ownBlock ∨ v'.ownBlock = some w.heap.size) → wpList Try.prog ops Q rest (a.put o.dst v') w') : wpList Try.prog ops Q (o :: rest) a w :=
  wpList_plain hgd fun _ hK => wp_append_T w s x ho base v n xs hs hown g c0 c1 c2 hx hB h1 hl hbase fun v' w' h2 h3 h4 => hK _ _ (h v' w' h2 h3 h4)
theorem step_append_T (w : World) {ops : Array Oper} {o : Oper} {a : Act} {K : Act → World → Prop} {Q : Exit → Act → World → Prop} {E : Prop} (hgd : o.guard = none) (s x : Operand)
    (ho : o.op = .call { callee := .builtin .append, args := #[s, x], argTypes := #[31, 31] })
    (base : Nat) (v : Value) (n : Nat) (xs : List Value) (hs : a.eval s = v) (hown : w.ownsRow base 64 3 v n xs) (g : Nat) (c0 c1 c2 : Value) (hx : a.eval x = .slice (some ⟨g, 0, none⟩) 1 1)
    (hB : Box w g 64 #[c0, c1, c2]) (h1 : c0.oneCell' = true ∧ c1.oneCell' = true ∧ c2.oneCell' = true) (hl : n ≤ 1000000) (hbase : base ≤ w.heap.size)
    (h : ∀ v' w', w'.ownsRow base 64 3 v' (n + 1) (xs ++ [c0, c1, c2]) → w.grownBy w' v.ownBlock → (v'.ownBlock = v.ownBlock ∨ v'.ownBlock = some w.heap.size) → K (a.put o.dst v') w') :
    if Region.wanted o (yielded ops a.tmps) = true then Oper.wp Try.prog o a w K Q else E := by
  have hw : Region.wanted o (yielded ops a.tmps) = true := by simp [Region.wanted, hgd]
  rw [if_pos hw]
  exact wp_append_T w s x ho base v n xs hs hown g c0 c1 c2 hx hB h1 hl hbase h
/-! ### one row after another -/
theorem mixA_get {α : Type} {a b : List α} {j : Nat} (h : a.length = b.length) (hj : j < b.length) : (a.take j ++ b.drop j)[j]? = b[j]? := by
  rw [List.getElem?_append_right (by rw [List.length_take]; omega), List.length_take, Nat.min_eq_left (by omega), Nat.sub_self, List.getElem?_drop, Nat.add_zero]
theorem mixA_set {α : Type} {a b : List α} {j : Nat} {z : α} (h : a.length = b.length) (hj : j < b.length) (hz : a[j]? = some z) : (a.take j ++ b.drop j).set j z = a.take (j + 1) ++ b.drop (j + 1) := by
  rw [List.set_append_right _ _ (by rw [List.length_take]; omega), List.length_take, Nat.min_eq_left (by omega), Nat.sub_self, take_snoc hz, List.append_assoc]
  congr 1
  rw [List.drop_eq_getElem_cons hj]
  rfl
theorem mixA_len {α : Type} {a b : List α} {j : Nat} (h : a.length = b.length) (hj : j ≤ b.length) : (a.take j ++ b.drop j).length = b.length := by
  rw [List.length_append, List.length_take, List.length_drop]; omega
end Go.Proofs.Ytmbgcmeiigmbaaa
