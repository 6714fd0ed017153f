/- Contracts of functions that the proof leans on. No condition. -/
import Derived.Test.YtkekpolfdmmgeaaGreatDoorM440191de9c
import Derived.Lib.SliceRun
import Derived.Test.YtkekpolfdmmgeaaGreatDoorShelf
import Derived.Deep.DeepCutAuto
/- Lists of items that a call builds by append. -/
namespace Go.Proofs.YtkekpolfdmmgeaaGreatDoor
set_option linter.unusedVariables false
set_option linter.unusedSimpArgs false
open Go.RowKit

theorem ownT_fps {w : World} {base : Nat} {v : Value} {it : ItemD} (h : OwnT w base v it) : ∀ b ∈ fpA v, base ≤ b ∧ b < w.heap.size := by
  obtain ⟨nv, mv, rfl, h1, h2, h3⟩ := h
  rw [fpA_item]
  intro b hb
  rcases List.mem_append.1 hb with hb | hb
  · exact own_fp h1.1 b hb
  · exact own_fp h2 b hb
theorem OwnC.fps {w : World} {base : Nat} {v : Value} {its : List ItemD} {cs : List (Value × Value)} (h : OwnC w base v its cs) : ∀ b ∈ fp v ++ fpL cs, base ≤ b ∧ b < w.heap.size := by
  obtain ⟨h1, h2, h3, _⟩ := h
  intro b hb
  rcases List.mem_append.1 hb with hb | hb
  · exact own_fp h2 b hb
  · unfold fpL at hb
    obtain ⟨⟨nv, mv⟩, hp, hb⟩ := List.mem_flatMap.1 hb
    obtain ⟨k, hk⟩ := List.getElem?_of_mem hp
    have hlt : k < its.length := by rw [← h1]; exact (List.getElem?_eq_some_iff.1 hk).1
    obtain ⟨q1, q2⟩ := h3 k nv mv its[k] hk (List.getElem?_eq_getElem hlt)
    rcases List.mem_append.1 hb with hb | hb
    · exact own_fp q1.1 b hb
    · exact own_fp q2 b hb
theorem OwnC.base {w : World} {base base' : Nat} {v : Value} {its : List ItemD} {cs : List (Value × Value)} (h : OwnC w base v its cs) (hb : base' ≤ base) : OwnC w base' v its cs :=
  ⟨h.1, own_base h.2.1 hb, fun k nv mv it q1 q2 => ⟨⟨own_base (h.2.2.1 k nv mv it q1 q2).1.1 hb, (h.2.2.1 k nv mv it q1 q2).1.2⟩, own_base (h.2.2.1 k nv mv it q1 q2).2 hb⟩, h.2.2.2⟩
theorem OwnC.toL {w : World} {base : Nat} {v : Value} {its : List ItemD} {cs : List (Value × Value)} (h : OwnC w base v its cs) : OwnL w base v its (fp v ++ fpL cs) :=
  ⟨cs, h.1, h.2.1, h.2.2.1, rfl, h.2.2.2, h.fps⟩
theorem OwnC.nil0 (w : World) (base : Nat) : OwnC w base (.slice none 0 0) [] [] := ⟨rfl, World.ownsRow_nil _ _ _ _, fun k _ _ _ h => by simp at h, by simp [fp, fpL, Value.ownBlock]⟩
theorem OwnC.made {w : World} {base : Nat} (g : Nat) (hb : base ≤ g) (h : Box w g 64 #[]) : OwnC w base (.slice (some ⟨g, 0, none⟩) 0 0) [] [] :=
  ⟨rfl, own_made g _ 3 hb h, fun k _ _ _ h => by simp at h, by simp [fp_some, fpL]⟩
/-- one item more -/
theorem OwnC.push {w w' : World} {base : Nat} {v v' nv mv : Value} {its : List ItemD} {cs : List (Value × Value)} {it : ItemD} (h : OwnC w base v its cs) (hn : OwnS w base nv it.names) (hm : OwnI w base mv it.marks)
    (hnd : (fp nv ++ fp mv).Nodup) (hd : ∀ b ∈ fp nv ++ fp mv, b ∉ fp v ++ fpL cs) (ho : w'.ownsRow base 64 3 v' (its.length + 1) ((cs.zip its).flatMap row3 ++ [nv, mv, .bool it.late]))
    (hg : w.grownBy w' v.ownBlock) (hv : v'.ownBlock = v.ownBlock ∨ v'.ownBlock = some w.heap.size) : OwnC w' base v' (its ++ [it]) (cs ++ [(nv, mv)]) := by
  have hon := only_of_grown hg
  have hfs := h.fps
  have hfn : ∀ b ∈ fp nv ++ fp mv, b < w.heap.size := fun b hb => by
    rcases List.mem_append.1 hb with hb | hb
    · exact (own_fp hn.1 b hb).2
    · exact (own_fp hm b hb).2
  have hd1 : ∀ b ∈ fp nv ++ fp mv, b ∉ fp v := fun b hb hb' => hd b hb (List.mem_append_left _ hb')
  have hnod := List.nodup_append.1 h.2.2.2
  refine ⟨by simp [h.1], ?_, ?_, ?_⟩
  · rw [List.length_append, List.length_singleton]
    have e : (cs ++ [(nv, mv)]).zip (its ++ [it]) = cs.zip its ++ [((nv, mv), it)] := by
      rw [List.zip_append h.1]
      rfl
    rw [e, List.flatMap_append]
    simpa [row3] using ho
  · intro k nv' mv' it' q1 q2
    rcases getElem?_snoc q1 with q | ⟨qk, qe⟩
    · have hk : k < its.length := by rw [← h.1]; exact (List.getElem?_eq_some_iff.1 q).1
      rw [List.getElem?_append_left hk] at q2
      obtain ⟨r1, r2⟩ := h.2.2.1 k nv' mv' it' q q2
      have hx : ∀ b, b ∈ fp nv' ∨ b ∈ fp mv' → b ∉ fp v := fun b hb hb' => hnod.2.2 b hb' b (mem_fpL q hb) rfl
      exact ⟨r1.only hon (fun b hb => hx b (.inl hb)), r2.only hon (fun b hb => hx b (.inr hb))⟩
    · simp only [Prod.mk.injEq] at qe
      obtain ⟨rfl, rfl⟩ := qe
      rw [qk, h.1, List.getElem?_concat_length] at q2
      injection q2 with q2
      subst q2
      exact ⟨hn.only hon (fun b hb => hd1 b (List.mem_append_left _ hb)), hm.only hon (fun b hb => hd1 b (List.mem_append_right _ hb))⟩
  · rw [fpL_snoc]
    have hv' : ∀ b ∈ fp v', b ∈ fp v ∨ b = w.heap.size := fun b hb => by
      have hb' : v'.ownBlock = some b := by simpa [fp] using hb
      rcases hv with hv | hv
      · left
        rw [hv] at hb'
        simpa [fp] using hb'
      · right
        rw [hv] at hb'
        injection hb' with hb'
        exact hb'.symm
    rw [List.nodup_append]
    refine ⟨nodup_one _, List.nodup_append.2 ⟨hnod.2.1, hnd, fun x hx y hy e => ?_⟩, fun x hx y hy e => ?_⟩
    · subst e
      exact hd x hy (List.mem_append_right _ hx)
    · subst e
      rcases hv' x hx with hx | rfl
      · rcases List.mem_append.1 hy with hy | hy
        · exact hnod.2.2 x hx x hy rfl
        · exact hd1 x hy hx
      · rcases List.mem_append.1 hy with hy | hy
        · have := (hfs _ (List.mem_append_right _ hy)).2
          omega
        · have := hfn _ hy
          omega
theorem set3 {w : World} {g : Nat} {t : TypeId} {x0 x1 x2 : Value} (h : Box w g t #[x0, x1, x2]) (u0 u1 u2 : Value) :
    ∃ w9, w9 = ((w.setCell ⟨g, 0, none⟩ u0).setCell ⟨g, 1, none⟩ u1).setCell ⟨g, 2, none⟩ u2 ∧ Box w9 g t #[u0, u1, u2] ∧ Only [g] w w9 :=
  ⟨_, rfl, ((h.set 0 u0).set 1 u1).set 2 u2, (((Only.refl [g] w).setCell (by simp) _).setCell (by simp) _).setCell (by simp) _⟩
theorem Box.far3 {w : World} {b g : Nat} {t : TypeId} {cs : Array Value} (h : Box w b t cs) (hne : b ≠ g) (u0 u1 u2 : Value) :
    Box (((w.setCell ⟨g, 0, none⟩ u0).setCell ⟨g, 1, none⟩ u1).setCell ⟨g, 2, none⟩ u2) b t cs := ((h.far _ hne _).far _ hne _).far _ hne _
/-- append(out, item) -/
theorem run_append_T {P : Program} (w : World) (base : Nat) (t ty e : TypeId) (i : TypeInfo) (z : Value) (ht : P.underlying t = some (.slice e)) (hi : P.info? e = some i) (hz : i.zero = some z)
    (hsize : i.size = 3) (hby : i.bytes = 56) (hzs : z.cells.size = 3) (v : Value) (n : Nat) (xs : List Value) (hown : w.ownsRow base e 3 v n xs) (g : Nat) (c0 c1 c2 : Value) (hB : Box w g e #[c0, c1, c2])
    (h1 : c0.oneCell' = true ∧ c1.oneCell' = true ∧ c2.oneCell' = true) (hl : n ≤ 1000000) (hbase : base ≤ w.heap.size) :
    ∃ v' w', (Builtin.append_ #[t, t] ty #[v, .slice (some ⟨g, 0, none⟩) 1 1]).run P w = .ok v' w' ∧ w'.ownsRow base e 3 v' (n + 1) (xs ++ [c0, c1, c2]) ∧ w.grownBy w' v.ownBlock ∧ (v'.ownBlock = v.ownBlock ∨ v'.ownBlock = some w.heap.size) := by
  obtain ⟨v', w', hrun, h2, h3, _, h5⟩ := run_append_own_at (P := P) w base t ty e i z 3 56 ht hi hz hsize hby hzs (by omega) v n xs hown ⟨g, 0, none⟩ 1 1 [c0, c1, c2] rfl (by
    intro j u hu
    have e1 : (⟨g, 0, none⟩ : Addr).add j = ⟨g, j, none⟩ := by unfold Addr.add; split <;> simp_all
    rw [e1, hB.cell j, ← hu]
    exact List.getElem?_toArray (xs := [c0, c1, c2]) (i := j)) (by
    intro u hu
    simp only [List.mem_cons, List.not_mem_nil, or_false] at hu
    rcases hu with rfl | rfl | rfl
    · exact h1.1
    · exact h1.2.1
    · exact h1.2.2) (by unfold maxLen; omega) (by omega) hbase
  exact ⟨v', w', hrun, h2, h3, h5⟩
theorem wp_append_T (w : World) {o : Oper} {a : Act} {K : Act → World → Prop} {Q : Exit → Act → World → Prop} (s x : Operand)
    (ho : o.op = .call { callee := .builtin .append, args := #[s, x], argTypes := #[46, 46] })
    (base : Nat) (v : Value) (n : Nat) (xs : List Value) (hs : a.eval s = v) (hown : w.ownsRow base 64 3 v n xs) (g : Nat) (c0 c1 c2 : Value) (hx : a.eval x = .slice (some ⟨g, 0, none⟩) 1 1)
    (hB : Box w g 64 #[c0, c1, c2]) (h1 : c0.oneCell' = true ∧ c1.oneCell' = true ∧ c2.oneCell' = true) (hl : n ≤ 1000000) (hbase : base ≤ w.heap.size)
    (h : ∀ v' w', w'.ownsRow base 64 3 v' (n + 1) (xs ++ [c0, c1, c2]) → w.grownBy w' v.ownBlock → (v'.ownBlock = v.ownBlock ∨ v'.ownBlock = some w.heap.size) → K (a.put o.dst v') w') : o.wp Tryz.prog a w K Q := by
  obtain ⟨i0, hi, hz0, hz1, hz2⟩ := info_parts info_item
  obtain ⟨v', w', hrun, h2, h3, h4⟩ := run_append_T (P := Tryz.prog) w base 46 o.type 64 i0 _ Tryz.underlying46 hi hz0 hz1 hz2 rfl v n xs hown g c0 c1 c2 hB h1 hl hbase
  unfold Oper.wp execOp
  simp only [ho, resolve, invoke, builtin, Sem.run_bind, Sem.run_pure, Result.andThen_ok, List.map_toArray, List.map_cons, List.map_nil, hs, hx, hrun]
  exact h v' w' h2 h3 h4
theorem wpList_append_T (w : World) {ops : Array Oper} {rest : List Oper} {o : Oper} {a : Act} {Q : Exit → Act → World → Prop} (hgd : o.guard = none) (s x : Operand)
    (ho : o.op = .call { callee := .builtin .append, args := #[s, x], argTypes := #[46, 46] })
    (base : Nat) (v : Value) (n : Nat) (xs : List Value) (hs : a.eval s = v) (hown : w.ownsRow base 64 3 v n xs) (g : Nat) (c0 c1 c2 : Value) (hx : a.eval x = .slice (some ⟨g, 0, none⟩) 1 1)
    (hB : Box w g 64 #[c0, c1, c2]) (h1 : c0.oneCell' = true ∧ c1.oneCell' = true ∧ c2.oneCell' = true) (hl : n ≤ 1000000) (hbase : base ≤ w.heap.size)
    (h : ∀ v' w', w'.ownsRow base 64 3 v' (n + 1) (xs ++ [c0, c1, c2]) → w.grownBy w' v.ownBlock → (v'.ownBlock = v.ownBlock ∨ v'.ownBlock = some w.heap.size) → wpList Tryz.prog ops Q rest (a.put o.dst v') w') : wpList Tryz.prog ops Q (o :: rest) a w :=
  wpList_plain hgd fun _ hK => wp_append_T w s x ho base v n xs hs hown g c0 c1 c2 hx hB h1 hl hbase fun v' w' h2 h3 h4 => hK _ _ (h v' w' h2 h3 h4)
theorem step_append_T (w : World) {ops : Array Oper} {o : Oper} {a : Act} {K : Act → World → Prop} {Q : Exit → Act → World → Prop} {E : Prop} (hgd : o.guard = none) (s x : Operand)
    (ho : o.op = .call { callee := .builtin .append, args := #[s, x], argTypes := #[46, 46] })
    (base : Nat) (v : Value) (n : Nat) (xs : List Value) (hs : a.eval s = v) (hown : w.ownsRow base 64 3 v n xs) (g : Nat) (c0 c1 c2 : Value) (hx : a.eval x = .slice (some ⟨g, 0, none⟩) 1 1)
    (hB : Box w g 64 #[c0, c1, c2]) (h1 : c0.oneCell' = true ∧ c1.oneCell' = true ∧ c2.oneCell' = true) (hl : n ≤ 1000000) (hbase : base ≤ w.heap.size)
    (h : ∀ v' w', w'.ownsRow base 64 3 v' (n + 1) (xs ++ [c0, c1, c2]) → w.grownBy w' v.ownBlock → (v'.ownBlock = v.ownBlock ∨ v'.ownBlock = some w.heap.size) → K (a.put o.dst v') w') :
    if Region.wanted o (yielded ops a.tmps) = true then Oper.wp Tryz.prog o a w K Q else E := by
  have hw : Region.wanted o (yielded ops a.tmps) = true := by simp [Region.wanted, hgd]
  rw [if_pos hw]
  exact wp_append_T w s x ho base v n xs hs hown g c0 c1 c2 hx hB h1 hl hbase h
/-! ### one row after another -/
theorem mixA_get {α : Type} {a b : List α} {j : Nat} (h : a.length = b.length) (hj : j < b.length) : (a.take j ++ b.drop j)[j]? = b[j]? := by
  rw [List.getElem?_append_right (by rw [List.length_take]; omega), List.length_take, Nat.min_eq_left (by omega), Nat.sub_self, List.getElem?_drop, Nat.add_zero]
theorem mixA_set {α : Type} {a b : List α} {j : Nat} {z : α} (h : a.length = b.length) (hj : j < b.length) (hz : a[j]? = some z) : (a.take j ++ b.drop j).set j z = a.take (j + 1) ++ b.drop (j + 1) := by
  rw [List.set_append_right _ _ (by rw [List.length_take]; omega), List.length_take, Nat.min_eq_left (by omega), Nat.sub_self, take_snoc hz, List.append_assoc]
  congr 1
  rw [List.drop_eq_getElem_cons hj]
  rfl
theorem mixA_len {α : Type} {a b : List α} {j : Nat} (h : a.length = b.length) (hj : j ≤ b.length) : (a.take j ++ b.drop j).length = b.length := by
  rw [List.length_append, List.length_take, List.length_drop]; omega
end Go.Proofs.YtkekpolfdmmgeaaGreatDoor

/- Items: ItemText, both sides and the law. -/
namespace Go.Proofs.YtkekpolfdmmgeaaGreatDoor
set_option linter.unusedVariables false
set_option linter.unusedSimpArgs false
set_option linter.unnecessarySimpa false
open Go.RowKit Go.Lib

theorem OwnT.only {w w' : World} {base : Nat} {v : Value} {it : ItemD} {S : List Nat} (h : OwnT w base v it) (ho : Only S w w') (hd : ∀ b ∈ fpA v, b ∉ S) : OwnT w' base v it := by
  obtain ⟨nv, mv, rfl, h1, h2, h3⟩ := h
  rw [fpA_item] at hd
  exact ⟨nv, mv, rfl, h1.only ho (fun b hb => hd b (List.mem_append_left _ hb)), h2.only ho (fun b hb => hd b (List.mem_append_right _ hb)), h3⟩
theorem OwnT.kept {w w' : World} {base : Nat} {v : Value} {it : ItemD} (h : OwnT w base v it) (hk : Kept w w') : OwnT w' base v it := h.only (hk.only []) (fun _ _ => List.not_mem_nil)
theorem OwnT.fps {w : World} {base : Nat} {v : Value} {it : ItemD} (h : OwnT w base v it) : ∀ b ∈ fpA v, base ≤ b ∧ b < w.heap.size := by
  obtain ⟨nv, mv, rfl, h1, h2, h3⟩ := h
  rw [fpA_item]
  intro b hb
  rcases List.mem_append.1 hb with hb | hb
  · exact own_fp h1.1 b hb
  · exact own_fp h2 b hb
def itV (it : ItemD) : ByteArray := if itemB it then itT it else ⟨#[]⟩
theorem itV_yes {it : ItemD} (h : itemB it = true) : itV it = itT it := by unfold itV; rw [h]; rfl
theorem itV_no {it : ItemD} (h : itemB it = false) : itV it = ⟨#[]⟩ := by unfold itV; rw [h]; rfl
set_option maxHeartbeats 1000000 in
theorem specItemText_any (v : Value) (it : ItemD) (w : World) (h : ItemAt w v it) :
    Calls Tryz.prog 39 #[v] w fun e w' => e = .returned (.tuple #[.string (itV it), .bool (itemB it)]) ∧ Kept w w' := by
  have HI := Lib.hid h
  obtain ⟨nv, mv, rfl, q1, q2⟩ := h
  obtain ⟨A1, c1, rfl, _⟩ := q1.1.out
  obtain ⟨A2, c2, rfl, _⟩ := q2.out
  clear q1 q2
  go_enter Tryz.func39, Tryz.ntmps39
  have B0 := Box.new w w.heap.size 64 #[.slice A1 it.names.length c1, .slice A2 it.marks.length c2, .bool it.late] rfl
  have K0 : Kept w (w.alloc (.cells #[.slice A1 it.names.length c1, .slice A2 it.marks.length c2, .bool it.late] 64)) := (Kept.refl w).alloc _
  obtain ⟨x0, y0⟩ := B0.three
  go_wp2_with fail
  refine (itGood_any _ it _ (HI.out.kept K0)).mono ?_
  rintro e w1 ⟨rfl, k1⟩
  have kk := K0.trans k1
  obtain ⟨x1, y1⟩ := (B0.kept k1).three
  clear x0 y0
  by_cases hb : itemB it = true
  · have HB := Lib.hid hb
    rw [hb]
    clear hb
    go_wp2_with fail
    refine (itText_any _ it _ (HI.out.kept kk) HB.out).mono ?_
    rintro e w2 ⟨rfl, k2⟩
    go_wp2_with fail
    go_ret2
    exact ⟨ret_sb (itV_yes HB.out).symm HB.out.symm, kk.trans k2⟩
  · simp only [Bool.not_eq_true] at hb
    have HB := Lib.hid hb
    rw [hb]
    clear hb
    go_wp2_with fail
    go_ret2
    exact ⟨ret_sb (itV_no HB.out).symm HB.out.symm, kk⟩
set_option maxHeartbeats 1000000 in
theorem implItemText_any (v : Value) (it : ItemD) (w : World) (h : ItemAt w v it) (hsg : HasSigns w) :
    Calls Tryz.prog 38 #[v] w fun e w' => e = .returned (.tuple #[.string (itV it), .bool (itemB it)]) ∧ Kept w w' := by
  have HI := Lib.hid h
  obtain ⟨nv, mv, rfl, q1, q2⟩ := h
  obtain ⟨A1, c1, rfl, _⟩ := q1.1.out
  obtain ⟨A2, c2, rfl, _⟩ := q2.out
  have HSG := Lib.hid hsg
  clear hsg
  clear q1 q2
  go_enter Tryz.func38, Tryz.ntmps38
  have B0 := Box.new w w.heap.size 64 #[.slice A1 it.names.length c1, .slice A2 it.marks.length c2, .bool it.late] rfl
  have K0 : Kept w (w.alloc (.cells #[.slice A1 it.names.length c1, .slice A2 it.marks.length c2, .bool it.late] 64)) := (Kept.refl w).alloc _
  obtain ⟨x0, y0⟩ := B0.three
  go_wp2_with fail
  refine (isItem_any _ it _ (HI.out.kept K0)).mono ?_
  rintro e w1 ⟨rfl, k1⟩
  have kk := K0.trans k1
  obtain ⟨x1, y1⟩ := (B0.kept k1).three
  clear x0 y0
  by_cases hb : itemB it = true
  · have HB := Lib.hid hb
    rw [hb]
    clear hb
    go_wp2_with fail
    refine (implItemText0_any _ it _ (HI.out.kept kk) HB.out (HSG.out.kept kk)).mono ?_
    rintro e w2 ⟨rfl, k2⟩
    go_wp2_with fail
    go_ret2
    exact ⟨ret_sb (itV_yes HB.out).symm HB.out.symm, kk.trans k2⟩
  · simp only [Bool.not_eq_true] at hb
    have HB := Lib.hid hb
    rw [hb]
    clear hb
    go_wp2_with fail
    go_ret2
    exact ⟨ret_sb (itV_no HB.out).symm HB.out.symm, kk⟩
end Go.Proofs.YtkekpolfdmmgeaaGreatDoor

/- An item's marks. -/
namespace Go.Proofs.YtkekpolfdmmgeaaGreatDoor
set_option linter.unusedVariables false
set_option linter.unusedSimpArgs false
open Go.RowKit

def nextM (k : Int) (x : ItemD) : Int := k + x.names.length + x.marks.length
def markM (k : Int) (x : ItemD) : ItemD := ⟨marksS k x.names.length, marksI (k + x.names.length) x.marks.length, x.late⟩
end Go.Proofs.YtkekpolfdmmgeaaGreatDoor

/- Reading items: plain facts about words and their signs; rows in a box; splitting by the library; the marks of one item. -/
namespace Go.Proofs.YtkekpolfdmmgeaaGreatDoor
set_option linter.unusedVariables false
set_option linter.unusedSimpArgs false
set_option linter.unnecessarySimpa false
open Go.RowKit Go.Lib

theorem Only.over {S T : List Nat} {a b c : World} (h : Only S a b) (k : Only T b c) (hT : ∀ x ∈ T, x ∈ S ∨ a.heap.size ≤ x) : Only S a c :=
  ⟨k.os.trans h.os, k.tape.trans h.tape, k.output.trans h.output, Nat.le_trans h.size k.size, fun i hi hn => (k.block i (Nat.lt_of_lt_of_le hi h.size) (fun hx => by rcases hT i hx with q | q; exact hn q; omega)).trans (h.block i hi hn)⟩
theorem Only.step {S : List Nat} {a b c : World} (h : Only S a b) (k : Kept b c) : Only S a c := h.trans (k.only S)
theorem Box.set0 {w : World} {b : Nat} {t : TypeId} {x y z : Value} (h : Box w b t #[x, y, z]) (u : Value) : Box (w.setCell ⟨b, 0, none⟩ u) b t #[u, y, z] := h.set 0 u
theorem Box.set1 {w : World} {b : Nat} {t : TypeId} {x y z : Value} (h : Box w b t #[x, y, z]) (u : Value) : Box (w.setCell ⟨b, 1, none⟩ u) b t #[x, u, z] := h.set 1 u
theorem Box.set2 {w : World} {b : Nat} {t : TypeId} {x y z : Value} (h : Box w b t #[x, y, z]) (u : Value) : Box (w.setCell ⟨b, 2, none⟩ u) b t #[x, y, u] := h.set 2 u
/-- append(out, xs...), strings: only the row's own block turns; where the new row lies -/
theorem wpList_append_SD (w : World) {ops : Array Oper} {rest : List Oper} {o : Oper} {a : Act} {Q : Exit → Act → World → Prop} (hgd : o.guard = none) (s x : Operand)
    (ho : o.op = .call { callee := .builtin .append, args := #[s, x], argTypes := #[57, 57] })
    (base : Nat) (v : Value) (zs : List ByteArray) (hs : a.eval s = v) (hown : OwnS w base v zs) (u : Value) (ys : List ByteArray) (hx : a.eval x = u) (hr : Strs w u ys)
    (hl : zs.length + ys.length ≤ 16777216) (hbase : base ≤ w.heap.size)
    (h : ∀ v' w', OwnS w' base v' (zs ++ ys) → Only (fp v) w w' → (∀ b ∈ fp v', b ∈ fp v ∨ b = w.heap.size) → wpList Tryz.prog ops Q rest (a.put o.dst v') w') : wpList Tryz.prog ops Q (o :: rest) a w := by
  refine wpList_plain hgd fun K hK => ?_
  obtain ⟨i0, hi, hz0, hz1, hz2⟩ := info_parts info_str
  obtain ⟨v', w', hrun, h2, h3, h4⟩ := run_append_locG (P := Tryz.prog) w base 57 o.type 9 i0 _ 1 16 Tryz.underlying57 hi hz0 hz1 hz2 rfl (by omega) v zs.length _ hown.1 u ys.length (ys.map Value.string) hr.1 (by simp) (fun y hy => by obtain ⟨_, _, rfl⟩ := List.mem_map.1 hy; rfl) (by unfold maxLen; omega) (by omega) hbase
  unfold Oper.wp execOp
  simp only [ho, resolve, invoke, builtin, Sem.run_bind, Sem.run_pure, Result.andThen_ok, List.map_toArray, List.map_cons, List.map_nil, hs, hx, hrun]
  refine hK _ _ (h v' w' ?_ (only_of_grown h3) (fun b hb => ?_))
  · refine ⟨by rw [List.length_append, List.map_append]; exact h2, fun e he => ?_⟩
    rcases List.mem_append.1 he with he | he
    · exact hown.2 e he
    · exact hr.2 e he
  · have hb' : v'.ownBlock = some b := by simpa [fp] using hb
    rcases h4 with h4 | h4
    · left; rw [h4] at hb'; simpa [fp] using hb'
    · right; rw [h4] at hb'; exact (Option.some.inj hb').symm
/-- the same, numbers -/
theorem wpList_append_ID (w : World) {ops : Array Oper} {rest : List Oper} {o : Oper} {a : Act} {Q : Exit → Act → World → Prop} (hgd : o.guard = none) (s x : Operand)
    (ho : o.op = .call { callee := .builtin .append, args := #[s, x], argTypes := #[24, 24] })
    (base : Nat) (v : Value) (zs : List Int) (hs : a.eval s = v) (hown : OwnI w base v zs) (u : Value) (ys : List Int) (hx : a.eval x = u) (hr : Ints w u ys)
    (hl : zs.length + ys.length ≤ 16777216) (hbase : base ≤ w.heap.size)
    (h : ∀ v' w', OwnI w' base v' (zs ++ ys) → Only (fp v) w w' → (∀ b ∈ fp v', b ∈ fp v ∨ b = w.heap.size) → wpList Tryz.prog ops Q rest (a.put o.dst v') w') : wpList Tryz.prog ops Q (o :: rest) a w := by
  refine wpList_plain hgd fun K hK => ?_
  obtain ⟨i0, hi, hz0, hz1, hz2⟩ := info_parts info_int
  obtain ⟨v', w', hrun, h2, h3, h4⟩ := run_append_locG (P := Tryz.prog) w base 24 o.type 3 i0 _ 1 8 Tryz.underlying24 hi hz0 hz1 hz2 rfl (by omega) v zs.length _ hown u ys.length (ys.map (Value.int .i64)) hr (by simp) (fun y hy => by obtain ⟨_, _, rfl⟩ := List.mem_map.1 hy; rfl) (by unfold maxLen; omega) (by omega) hbase
  unfold Oper.wp execOp
  simp only [ho, resolve, invoke, builtin, Sem.run_bind, Sem.run_pure, Result.andThen_ok, List.map_toArray, List.map_cons, List.map_nil, hs, hx, hrun]
  refine hK _ _ (h v' w' ?_ (only_of_grown h3) (fun b hb => ?_))
  · unfold OwnI
    rw [List.length_append, List.map_append]
    exact h2
  · have hb' : v'.ownBlock = some b := by simpa [fp] using hb
    rcases h4 with h4 | h4
    · left; rw [h4] at hb'; simpa [fp] using hb'
    · right; rw [h4] at hb'; exact (Option.some.inj hb').symm

/-! ### words and signs -/
theorem endM_bd (w : List UInt8) : 0 ≤ endM w ∧ endM w ≤ 3 := by
  unfold endM
  split
  · split
    · omega
    · split
      · omega
      · split <;> omega
  · omega
theorem sig_one {m : Nat} (h1 : 1 ≤ m) (h3 : m ≤ 3) : ∃ c, signL (m : Int) = [c] ∧ ∀ b : UInt8, (if b = 60 then (1 : Int) else if b = 101 then 2 else if b = 42 then 3 else 0) = (m : Int) ↔ b = c := by
  have hm : m = 1 ∨ m = 2 ∨ m = 3 := by omega
  rcases hm with rfl | rfl | rfl
  · refine ⟨60, rfl, fun b => ⟨fun h => ?_, fun h => by subst h; rfl⟩⟩
    by_cases h1 : b = 60
    · exact h1
    · rw [if_neg h1] at h; split at h
      · cases h
      · split at h <;> cases h
  · refine ⟨101, rfl, fun b => ⟨fun h => ?_, fun h => by subst h; rfl⟩⟩
    by_cases h1 : b = 60
    · rw [if_pos h1] at h; cases h
    · rw [if_neg h1] at h
      by_cases h2 : b = 101
      · exact h2
      · rw [if_neg h2] at h; split at h <;> cases h
  · refine ⟨42, rfl, fun b => ⟨fun h => ?_, fun h => by subst h; rfl⟩⟩
    by_cases h1 : b = 60
    · rw [if_pos h1] at h; cases h
    · rw [if_neg h1] at h
      by_cases h2 : b = 101
      · rw [if_pos h2] at h; cases h
      · rw [if_neg h2] at h
        by_cases h3 : b = 42
        · exact h3
        · rw [if_neg h3] at h; cases h
/-- a word ends with a sign just if its mark is that sign's -/
theorem suf_sign {w : List UInt8} {m : Nat} (h1 : 1 ≤ m) (h3 : m ≤ 3) : hasSuffix w (signL (m : Int)) = decide (endM w = (m : Int)) := by
  obtain ⟨c, e, hc⟩ := sig_one h1 h3
  rw [e]
  induction w using snocInd with
  | h0 =>
    have : ¬ endM [] = (m : Int) := by rw [endM_nil]; omega
    rw [decide_eq_false this]
    rfl
  | h1 l b _ =>
    rw [endM_snoc]
    have hb := hc b
    by_cases hbc : b = c
    · rw [decide_eq_true (hb.2 hbc)]
      subst hbc
      exact List.isSuffixOf_iff_suffix.2 ⟨l, rfl⟩
    · rw [decide_eq_false (fun h => hbc (hb.1 h)), Bool.eq_false_iff]
      intro hs
      obtain ⟨t, ht⟩ := List.isSuffixOf_iff_suffix.1 hs
      have := (List.append_inj' ht rfl).2
      injection this with this
      exact hbc this.symm
theorem cut_sign {w : List UInt8} {m : Nat} (h1 : 1 ≤ m) (h3 : m ≤ 3) (he : endM w = (m : Int)) : trimSuffix w (signL (m : Int)) = cutM w := by
  have hs := suf_sign (w := w) h1 h3
  rw [decide_eq_true he] at hs
  obtain ⟨c, e, _⟩ := sig_one h1 h3
  have hs' := hs
  rw [e] at hs'
  obtain ⟨t, ht⟩ := List.isSuffixOf_iff_suffix.1 hs'
  unfold trimSuffix cutM
  rw [show hasSuffix w (signL (m : Int)) = true from hs, if_pos rfl, if_neg (by omega), e, ← ht]
  simp
def nmW (z : ByteArray) : ByteArray := nameM z.data.toList
def mkW (z : ByteArray) : Int := endM z.data.toList
theorem nmW_zero {z : ByteArray} (h : mkW z = 0) : nmW z = z := by
  unfold nmW nameM cutM
  unfold mkW at h
  rw [if_pos h]
theorem nmW_cut {z : ByteArray} (h : ¬ mkW z = 0) : z.extract 0 (z.size - 1) = nmW z := by
  unfold nmW nameM cutM
  unfold mkW at h
  rw [if_neg h, pc_ext]
  unfold pc tx
  rw [List.drop_zero, List.dropLast_eq_take, size_eq]
theorem last_ext {z : ByteArray} (h : 0 < z.size) : ∃ p b, z.data.toList = p ++ [b] ∧ z.extract (z.size - 1) z.size = tx [b] := by
  have hne : z.data.toList ≠ [] := by intro e; rw [size_eq, e] at h; simp at h
  refine ⟨_, _, (List.dropLast_concat_getLast hne).symm, ?_⟩
  rw [pc_ext]
  unfold pc
  congr 1
  rw [size_eq, List.take_length]
  conv => lhs; rw [← List.dropLast_concat_getLast hne]
  rw [List.drop_left' (by rw [List.length_dropLast, List.length_append, List.length_dropLast]; simp)]
theorem mkW_pos {z : ByteArray} (h : ¬ mkW z = 0) : 0 < z.size := by
  rcases Nat.eq_zero_or_pos z.size with h0 | h0
  · exfalso
    apply h
    unfold mkW
    rw [show z.data.toList = [] from List.eq_nil_of_length_eq_zero (by rw [← size_eq]; exact h0)]
    rfl
  · exact h0
theorem last_yes {z : ByteArray} {m : Nat} (h1 : 1 ≤ m) (h3 : m ≤ 3) (he : mkW z = (m : Int)) : z.extract (z.size - 1) z.size = sgB m := by
  obtain ⟨p, b, e, hx⟩ := last_ext (z := z) (mkW_pos (by omega))
  obtain ⟨c, ec, hc⟩ := sig_one h1 h3
  unfold mkW at he
  rw [e, endM_snoc] at he
  rw [hx, (hc b).1 he]
  unfold sgB
  rw [ec]
theorem last_no {z : ByteArray} {m : Nat} (h0 : 0 < z.size) (h1 : 1 ≤ m) (h3 : m ≤ 3) (he : ¬ mkW z = (m : Int)) : ¬ (z.extract (z.size - 1) z.size).toList = (sgB m).toList := by
  obtain ⟨p, b, e, hx⟩ := last_ext h0
  obtain ⟨c, ec, hc⟩ := sig_one h1 h3
  unfold mkW at he
  rw [e, endM_snoc] at he
  rw [hx, tx_toList]
  unfold sgB
  rw [tx_toList, ec]
  intro h
  injection h with h
  exact he ((hc b).2 h)
def nmsP (t : ByteArray) : List ByteArray := (spB 43 t).map nmW
def mksP (t : ByteArray) : List Int := (spB 43 t).map mkW
theorem nmsP_len (t : ByteArray) : (nmsP t).length = (spB 43 t).length := by simp [nmsP]
theorem mksP_len (t : ByteArray) : (mksP t).length = (spB 43 t).length := by simp [mksP]
theorem nmsP_snoc {t z : ByteArray} {k : Nat} (h : (spB 43 t)[k]? = some z) : (nmsP t).take (k + 1) = (nmsP t).take k ++ [nmW z] := take_snoc (by unfold nmsP; rw [List.getElem?_map, h]; rfl)
theorem mksP_snoc {t z : ByteArray} {k : Nat} (h : (spB 43 t)[k]? = some z) : (mksP t).take (k + 1) = (mksP t).take k ++ [mkW z] := take_snoc (by unfold mksP; rw [List.getElem?_map, h]; rfl)
theorem itP_parts {s t : ByteArray} {late : Bool} (ht : trimSuffix s.data.toList [32, 120] = t.data.toList) (hl : hasSuffix s.data.toList [32, 120] = late) : itP s.data.toList = ⟨nmsP t, mksP t, late⟩ := by
  unfold itP nmsP mksP spB
  rw [ht, hl, List.map_map, List.map_map]
  rfl
def piB (s : ByteArray) : Bool := itemB (itP s.data.toList)
def zeroT : ItemD := ⟨[], [], false⟩
def piV (s : ByteArray) : ItemD := if piB s then itP s.data.toList else zeroT
theorem piV_yes {s : ByteArray} (h : piB s = true) : piV s = itP s.data.toList := by unfold piV; rw [h]; rfl
theorem piV_no {s : ByteArray} (h : piB s = false) : piV s = zeroT := by unfold piV; rw [h]; rfl
theorem piV_len (s : ByteArray) : (piV s).names.length ≤ 3 ∧ (piV s).marks.length ≤ 3 := by
  cases h : piB s with
  | true =>
    rw [piV_yes h]
    obtain ⟨_, _, a, _, b⟩ := item_of h
    omega
  | false => rw [piV_no h]; exact ⟨by decide, by decide⟩
def PiPost (s : ByteArray) (w : World) (e : Ending) (w' : World) : Prop := ∃ v', e = .returned (.tuple #[v', .bool (piB s)]) ∧ OwnT w' w.heap.size v' (piV s) ∧ Kept w w'
/-- a cut string's size -/
theorem spB_sz {b : UInt8} {t z : ByteArray} (h : z ∈ spB b t) : z.size ≤ t.size := by
  unfold spB at h
  obtain ⟨l, hl, rfl⟩ := List.mem_map.1 h
  have hj := splitOn_join b t.data.toList
  rw [tx_size, size_eq, ← hj]
  have hm : ∀ (L : List (List UInt8)), l ∈ L → l.length ≤ (Lib.join L [b]).length := by
    intro L
    induction L with
    | nil => intro h; cases h
    | cons x r ih =>
      intro h
      cases r with
      | nil =>
        rw [join_one]
        rcases List.mem_cons.1 h with rfl | h
        · exact Nat.le_refl _
        · cases h
      | cons y r =>
        have e : Lib.join (x :: y :: r) [b] = x ++ [b] ++ Lib.join (y :: r) [b] := by rw [join_cons, join_cons]; simp [joinTail]
        rw [e, List.length_append, List.length_append]
        rcases List.mem_cons.1 h with rfl | h
        · omega
        · have := ih h; omega
  exact hm _ hl
theorem spB_le (b : UInt8) (t : ByteArray) : (spB b t).length ≤ t.size + 1 := by
  unfold spB
  rw [List.length_map, size_eq]
  exact splitOn_length_le _ _
theorem split_any (s : ByteArray) (b : UInt8) (w : World) (hs : s.size ≤ 1048576) (hm : HasMax w) :
    Calls Tryz.prog 91 #[.string s, .string ⟨#[b]⟩] w fun e w' => ∃ cap, e = .returned (.slice (some ⟨w.heap.size, 0, none⟩) (spB b s).length cap) ∧ OwnS w' w.heap.size (.slice (some ⟨w.heap.size, 0, none⟩) (spB b s).length cap) (spB b s) ∧ Kept w w' := by
  obtain ⟨m, hm⟩ := hm
  have e0 : splitB ⟨#[b]⟩ 0 (countB s ⟨#[b]⟩) s = spB b s := by
    have h1 := splitB_one b s
    unfold spB
    rw [← h1, List.map_map]
    conv => lhs; rw [← List.map_id (splitB ⟨#[b]⟩ 0 (countB s ⟨#[b]⟩) s)]
    refine List.map_congr_left fun x _ => ?_
    show x = tx x.data.toList
    rw [tx_of]
  have hc : countB s ⟨#[b]⟩ + 1 = (spB b s).length := by rw [← e0, Lib.splitB_all ⟨#[b]⟩ (Nat.le_refl 1) 0 _ s rfl]
  refine (Tryz.strings_Split s ⟨#[b]⟩ m w (by omega) hm (Nat.le_refl 1)).mono ?_
  rintro e w' ⟨rfl, rfl⟩
  rw [hc, e0]
  have hl := spB_le b s
  refine ⟨_, rfl, ⟨?_, fun z hz => by have := spB_sz hz; unfold maxLen; omega⟩, (Kept.refl w).alloc _⟩
  refine own_of_box (Box.new w _ _ _ rfl) (Nat.le_refl _) (Nat.le_refl _) (by unfold maxLen; omega) (by simp) (List.take_of_length_le (by simp))
end Go.Proofs.YtkekpolfdmmgeaaGreatDoor

/- Items: reading their text, the reference's side. -/
namespace Go.Proofs.YtkekpolfdmmgeaaGreatDoor
set_option linter.unusedVariables false
set_option linter.unusedSimpArgs false
set_option linter.unnecessarySimpa false
open Go.RowKit Go.Lib

/-- the mark found among the first j signs -/
def mkAt (e : Int) (j : Nat) : Int := if e < (j : Int) then e else 0
theorem mkAt_start {e : Int} (h : 0 ≤ e) : mkAt e 0 = 0 := by unfold mkAt; split <;> omega
theorem mkAt_hit {e : Int} {j : Nat} (h : e = (j : Int)) : mkAt e (j + 1) = (j : Int) := by unfold mkAt; rw [if_pos (by omega), h]
theorem mkAt_miss {e : Int} {j : Nat} (h : ¬ e = (j : Int)) : mkAt e (j + 1) = mkAt e j := by
  unfold mkAt
  by_cases h1 : e < (j : Int)
  · rw [if_pos h1, if_pos (by omega)]
  · rw [if_neg h1, if_neg (by omega)]
theorem mkAt_zero {e : Int} {j : Nat} (h : (j : Int) = 0) (h0 : 0 ≤ e) : mkAt e (j + 1) = mkAt e j := by
  unfold mkAt
  rw [if_neg (by omega : ¬ e < (j : Int))]
  split <;> omega
theorem mkAt_end {e : Int} (h : e ≤ 3) : mkAt e 4 = e := by unfold mkAt; rw [if_pos (by omega)]
theorem mkAt_bd {e : Int} (j : Nat) (h0 : 0 ≤ e) (h3 : e ≤ 3) : 0 ≤ mkAt e j ∧ mkAt e j ≤ 3 := by unfold mkAt; split <;> omega
theorem spB_ne (b : UInt8) (t : ByteArray) : spB b t ≠ [] := by
  unfold spB
  intro h
  exact splitOn_ne _ _ (List.map_eq_nil_iff.1 h)
theorem nmW_sz (z : ByteArray) : (nmW z).size ≤ z.size := by
  unfold nmW nameM
  rw [size_eq, size_eq]
  unfold cutM
  split
  · exact Nat.le_refl _
  · simp
theorem sufx {s : ByteArray} (h : 2 ≤ s.size) : hasSuffix s.data.toList [32, 120] = true ↔ s.extract (s.size - 2) s.size = ⟨#[32, 120]⟩ := by
  have e : s.extract (s.size - 2) s.size = tx (s.data.toList.drop (s.data.toList.length - 2)) := by
    rw [pc_ext]
    unfold pc
    rw [size_eq, List.take_length]
  rw [e]
  constructor
  · intro hs
    obtain ⟨t, ht⟩ := List.isSuffixOf_iff_suffix.1 hs
    rw [← ht]
    have : (t ++ [32, 120]).length - 2 = t.length := by simp
    rw [this, List.drop_left' rfl]
    rfl
  · intro hs
    have h2 : s.data.toList.drop (s.data.toList.length - 2) = [32, 120] := tx_inj hs
    exact List.isSuffixOf_iff_suffix.2 ⟨s.data.toList.take (s.data.toList.length - 2), by rw [← h2, List.take_append_drop]⟩
theorem sufx_cut {s : ByteArray} (h : hasSuffix s.data.toList [32, 120] = true) : trimSuffix s.data.toList [32, 120] = (s.extract 0 (s.size - 2)).data.toList := by
  rw [pc_ext, tx_data]
  unfold trimSuffix pc
  rw [h, if_pos rfl, size_eq]
  simp
theorem sufx_not {s : ByteArray} (h : hasSuffix s.data.toList [32, 120] = false) : trimSuffix s.data.toList [32, 120] = s.data.toList := by
  unfold trimSuffix
  rw [h]
  rfl
theorem sufx_short {s : ByteArray} (h : s.size < 2) : hasSuffix s.data.toList [32, 120] = false := by
  rw [Bool.eq_false_iff]
  intro hs
  obtain ⟨t, ht⟩ := List.isSuffixOf_iff_suffix.1 hs
  rw [size_eq, ← ht] at h
  simp at h
  omega
/-- what the walk of a reader of an item has in hand: a text, its head, whether it ends late -/
def ItHead (s t : ByteArray) (late : Bool) : Prop := trimSuffix s.data.toList [32, 120] = t.data.toList ∧ hasSuffix s.data.toList [32, 120] = late
theorem itHead_cases (s : ByteArray) (hs : s.size ≤ 1048576) : ∃ (t : ByteArray) (late : Bool), t.size ≤ 1048576 ∧ ItHead s t late ∧
    ((s.size < 2 ∧ t = s ∧ late = false) ∨ (∃ z : ByteArray, 2 ≤ s.size ∧ s.extract (s.size - 2) s.size = z ∧ ¬ z = ⟨#[32, 120]⟩ ∧ t = s ∧ late = false) ∨ (2 ≤ s.size ∧ s.extract (s.size - 2) s.size = ⟨#[32, 120]⟩ ∧ s.extract 0 (s.size - 2) = t ∧ late = true)) := by
  by_cases h2 : s.size < 2
  · exact ⟨s, false, hs, ⟨sufx_not (sufx_short h2), sufx_short h2⟩, .inl ⟨h2, rfl, rfl⟩⟩
  · by_cases h : s.extract (s.size - 2) s.size = ⟨#[32, 120]⟩
    · have hh := (sufx (by omega)).2 h
      refine ⟨s.extract 0 (s.size - 2), true, ?_, ⟨sufx_cut hh, hh⟩, .inr (.inr ⟨by omega, h, rfl, rfl⟩)⟩
      rw [pc_ext, tx_size, pc_size s 0 (s.size - 2) (by omega)]
      omega
    · have hh : hasSuffix s.data.toList [32, 120] = false := by rw [Bool.eq_false_iff]; exact fun e => h ((sufx (by omega)).1 e)
      exact ⟨s, false, hs, ⟨sufx_not hh, hh⟩, .inr (.inl ⟨_, by omega, rfl, h, rfl, rfl⟩)⟩
/-- the item read so far lies in a box (bb); h: the box of the result; S: blocks that may have turned since w1 -/
structure RowSt (S : List Nat) (h bb B : Nat) (t : ByteArray) (late : Bool) (w1 wr : World) (k : Nat) (nv mv : Value) : Prop where
  hbox : Box wr h 64 #[.slice none 0 0, .slice none 0 0, .bool false]
  bbox : Box wr bb 64 #[nv, mv, .bool late]
  names : OwnS wr B nv ((nmsP t).take k)
  marks : OwnI wr B mv ((mksP t).take k)
  apart : ∀ b ∈ fp nv, b ∉ fp mv
  only : Only S w1 wr
  inS : bb ∈ S
  ne : h ≠ bb
  where_ : ∀ b ∈ fp nv ++ fp mv, (b ∈ S ∨ w1.heap.size ≤ b) ∧ b ≠ bb ∧ b ≠ h
  hB : B ≤ w1.heap.size
theorem RowSt.mid1 {S : List Nat} {h bb B : Nat} {t : ByteArray} {late : Bool} {w1 wr w3 w4 : World} {k : Nat} {nv mv : Value} (H : RowSt S h bb B t late w1 wr k nv mv) (k3 : Kept wr w3) (on4 : Only (fp nv) w3 w4) :
    Box w4 bb 64 #[nv, mv, .bool late] ∧ OwnI w4 B mv ((mksP t).take k) :=
  ⟨(H.bbox.kept k3).only on4 (fun hb => (H.where_ bb (List.mem_append_left _ hb)).2.1 rfl), (H.marks.kept k3).only on4 (fun b hb hb' => H.apart b hb' hb)⟩
theorem RowSt.mid2 {S : List Nat} {h bb B : Nat} {t : ByteArray} {late : Bool} {w1 wr w3 w4 : World} {k : Nat} {nv mv v4 : Value} (H : RowSt S h bb B t late w1 wr k nv mv) (k3 : Kept wr w3) (on4 : Only (fp nv) w3 w4) (o : Obj) :
    OwnI ((w4.setCell ⟨bb, 0, none⟩ v4).alloc o) B mv ((mksP t).take k) :=
  ((H.mid1 k3 on4).2.only ((Only.refl [bb] w4).setCell (by simp) _) (fun b hb hb' => by rw [List.mem_singleton] at hb'; exact (H.where_ b (List.mem_append_right _ hb)).2.1 hb')).kept ((Kept.refl _).alloc _)
theorem RowSt.mid3 {S : List Nat} {h bb B : Nat} {t : ByteArray} {late : Bool} {w1 wr w3 w4 w6 : World} {k : Nat} {nv mv v4 : Value} {o : Obj} (H : RowSt S h bb B t late w1 wr k nv mv) (k3 : Kept wr w3) (on4 : Only (fp nv) w3 w4) (on6 : Only (fp mv) ((w4.setCell ⟨bb, 0, none⟩ v4).alloc o) w6) :
    Box w6 bb 64 #[v4, mv, .bool late] :=
  Box.only (((H.mid1 k3 on4).1.set0 v4).alloc o) on6 (fun hb => (H.where_ bb (List.mem_append_right _ hb)).2.1 rfl)
theorem RowSt.step {S : List Nat} {h bb B : Nat} {t : ByteArray} {late : Bool} {w1 wr w3 w4 w6 : World} {k : Nat} {nv mv v4 v6 : Value} {o : Obj} (H : RowSt S h bb B t late w1 wr k nv mv) (k3 : Kept wr w3) (sz3 : wr.heap.size < w3.heap.size)
    (on4 : Only (fp nv) w3 w4) (on6 : Only (fp mv) ((w4.setCell ⟨bb, 0, none⟩ v4).alloc o) w6) (o4 : OwnS w4 B v4 ((nmsP t).take (k + 1))) (o6 : OwnI w6 B v6 ((mksP t).take (k + 1)))
    (f4 : ∀ b ∈ fp v4, b ∈ fp nv ∨ b = w3.heap.size) (f6 : ∀ b ∈ fp v6, b ∈ fp mv ∨ b = ((w4.setCell ⟨bb, 0, none⟩ v4).alloc o).heap.size) :
    RowSt S h bb B t late w1 (w6.setCell ⟨bb, 1, none⟩ v6) (k + 1) v4 v6 := by
  have hbl := H.bbox.lt
  have hhl := H.hbox.lt
  have hsr := H.only.size
  have hs4 := on4.size
  have hs5 : ((w4.setCell ⟨bb, 0, none⟩ v4).alloc o).heap.size = w4.heap.size + 1 := by simp [World.setCell]
  have hn := own_fp H.names.1
  have hm := own_fp H.marks
  have w4b : ∀ b ∈ fp v4, (b ∈ S ∨ w1.heap.size ≤ b) ∧ b ≠ bb ∧ b ≠ h ∧ b ∉ fp mv ∧ b < w4.heap.size + 1 := fun b hb => by
    have hlt := (own_fp o4.1 b hb).2
    rcases f4 b hb with q | q
    · have := H.where_ b (List.mem_append_left _ q)
      exact ⟨this.1, this.2.1, this.2.2, H.apart b q, by omega⟩
    · refine ⟨.inr (by omega), by omega, by omega, fun hx => ?_, by omega⟩
      have := hm b hx
      omega
  have w6b : ∀ b ∈ fp v6, (b ∈ S ∨ w1.heap.size ≤ b) ∧ b ≠ bb ∧ b ≠ h := fun b hb => by
    rcases f6 b hb with q | q
    · exact H.where_ b (List.mem_append_right _ q)
    · exact ⟨.inr (by omega), by omega, by omega⟩
  have on5 : Only [bb] w4 ((w4.setCell ⟨bb, 0, none⟩ v4).alloc o) := ((Only.refl [bb] w4).setCell (by simp) _).trans (((Kept.refl _).alloc _).only _)
  have on7 : Only [bb] w6 (w6.setCell ⟨bb, 1, none⟩ v6) := (Only.refl [bb] w6).setCell (by simp) _
  have hb1 : ∀ b ∈ [bb], b ∈ S ∨ w1.heap.size ≤ b := fun b hb => by rw [List.mem_singleton] at hb; subst hb; exact .inl H.inS
  have HW : Only S w1 (w6.setCell ⟨bb, 1, none⟩ v6) := ((((H.only.step k3).over on4 (fun b hb => (H.where_ b (List.mem_append_left _ hb)).1)).over on5 hb1).over on6 (fun b hb => (H.where_ b (List.mem_append_right _ hb)).1)).over on7 hb1
  have nb : ∀ {l : Nat} {x : Nat}, l ≠ x → l ∉ [x] := fun h hm => by rw [List.mem_singleton] at hm; exact h hm
  refine ⟨?_, ?_, ?_, ?_, ?_, HW, H.inS, H.ne, ?_, H.hB⟩
  · have a1 := (H.hbox.kept k3).only on4 (fun hb => (H.where_ h (List.mem_append_left _ hb)).2.2 rfl)
    have a2 := (a1.only on5 (nb H.ne)).only on6 (fun hb => (H.where_ h (List.mem_append_right _ hb)).2.2 rfl)
    exact a2.only on7 (nb H.ne)
  · exact (H.mid3 k3 on4 on6).set1 v6
  · have a1 := (o4.only on5 (fun b hb => nb (w4b b hb).2.1)).only on6 (fun b hb => (w4b b hb).2.2.2.1)
    exact a1.only on7 (fun b hb => nb (w4b b hb).2.1)
  · exact o6.only on7 (fun b hb => nb (w6b b hb).2.1)
  · intro b hb hb'
    rcases f6 b hb' with q | q
    · exact (w4b b hb).2.2.2.1 q
    · have := (w4b b hb).2.2.2.2
      omega
  · intro b hb
    rcases List.mem_append.1 hb with hb | hb
    · exact ⟨(w4b b hb).1, (w4b b hb).2.1, (w4b b hb).2.2.1⟩
    · exact w6b b hb
/-- the item read whole -/
theorem RowSt.whole {S : List Nat} {h bb B : Nat} {s t : ByteArray} {late : Bool} {w1 wr : World} {k : Nat} {nv mv : Value} (H : RowSt S h bb B t late w1 wr k nv mv) (hT : ItHead s t late) (hk : k = (spB 43 t).length) :
    OwnT wr B (.agg #[nv, mv, .bool late]) (itP s.data.toList) := by
  rw [itP_parts hT.1 hT.2]
  have e1 : (nmsP t).take k = nmsP t := List.take_of_length_le (by rw [nmsP_len]; omega)
  have e2 : (mksP t).take k = mksP t := List.take_of_length_le (by rw [mksP_len]; omega)
  refine ⟨nv, mv, rfl, ?_, ?_, ?_⟩
  · have := H.names; rw [e1] at this; exact this
  · have := H.marks; rw [e2] at this; exact this
  · rw [fpA_item, List.nodup_append]
    exact ⟨nodup_one _, nodup_one _, fun x hx y hy e => H.apart x hx (e ▸ hy)⟩
theorem RowSt.fin {S : List Nat} {h bb B : Nat} {s t : ByteArray} {late : Bool} {w1 wr w3 w4 : World} {k : Nat} {nv mv : Value} (H : RowSt S h bb B t late w1 wr k nv mv) (hT : ItHead s t late) (hk : k = (spB 43 t).length) (k3 : Kept wr w3) (q : Only [h] w3 w4) :
    OwnT w4 B (.agg #[nv, mv, .bool late]) (itP s.data.toList) := by
  obtain ⟨nv', mv', e, h1, h2, h3⟩ := H.whole hT hk
  injection e with e
  have e1 := congrArg Array.toList e
  simp only [List.cons.injEq] at e1
  obtain ⟨rfl, rfl, e2, _⟩ := e1
  have hd : ∀ b ∈ fp nv ++ fp mv, b ∉ [h] := fun b hb hm => (H.where_ b hb).2.2 (by rw [List.mem_singleton] at hm; exact hm)
  exact ⟨nv, mv, by rw [← e2], (h1.kept k3).only q (fun b hb => hd b (List.mem_append_left _ hb)), OwnI.only (own_kept h2 k3) q (fun b hb => hd b (List.mem_append_right _ hb)), h3⟩
theorem itT_P (s : ByteArray) : itT (itP s.data.toList) = s := by unfold itT; rw [itTxt_P, tx_of]
theorem PiPost.no {s : ByteArray} {w w' : World} (h : piB s = false) (k : Kept w w') : PiPost s w (.returned (.tuple #[.agg #[.slice none 0 0, .slice none 0 0, .bool false], .bool false])) w' :=
  ⟨_, by rw [h], by rw [piV_no h]; exact ⟨_, _, rfl, nilS _ _, own_nil _ _, by simp [fpA, fp, Value.ownBlock]⟩, k⟩
theorem PiPost.yes {s : ByteArray} {w w' : World} {v : Value} (h : piB s = true) (o : OwnT w' w.heap.size v (itP s.data.toList)) (k : Kept w w') : PiPost s w (.returned (.tuple #[v, .bool true])) w' :=
  ⟨_, by rw [h], by rw [piV_yes h]; exact o, k⟩
end Go.Proofs.YtkekpolfdmmgeaaGreatDoor
