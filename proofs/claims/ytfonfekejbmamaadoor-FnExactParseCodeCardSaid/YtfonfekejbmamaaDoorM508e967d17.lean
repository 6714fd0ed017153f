/- Contracts of functions that the proof leans on. No condition. -/
import Derived.Test.YtfonfekejbmamaaDoorM5506b2a89e
import Derived.Deep.RegionHeld3
import Derived.StillTail
import Derived.Deep.DeepCutAuto
/- A region that draws its order and ends in a store to a cell that it reads: the last operation is put off; what is asked of the worlds on the way is not asked behind it. -/
namespace Go.Proofs.YtfonfekejbmamaaDoor
set_option linter.unusedVariables false
set_option linter.unusedSimpArgs false
open Go.RowKit

/-- the post, but the operations of t at a normal end -/
def tailPost (P : Program) (ops : Array Oper) (t : List Oper) (Q : Exit → Act → World → Prop) : Exit → Act → World → Prop
  | .normal, a, w => wpList P ops Q t a w
  | e, a, w => Q e a w
def popB (ops : Array Oper) (n : Nat) : Bool :=
  decide (ops.size = n + 1) && Region.sinkB .any ops n && Region.chainB .any ops n && ops.toList.all (fun o => o.guard.isNone) && (List.range ops.size).all fun i => match ops[i]? with
    | some o => o.after.toList.all fun e => !Region.binds .any e || decide (e.on < i)
    | none => true
section
variable {P : Program} {Q : Exit → Act → World → Prop}
theorem tail_wp {ops : Array Oper} {t : List Oper} {o : Oper} {a : Act} {w : World} {K : Act → World → Prop} (h : o.wp P a w K (tailPost P ops t Q)) : o.wp P a w K Q := by
  unfold Oper.wp at *
  generalize (execOp a.eval o).run P w = r at *
  cases r with
  | ok n w' =>
    cases n <;> simp only [Oper.upon] at h ⊢ <;>
      first
        | exact h
        | exact Calls.mono h (fun e w'' he => by cases e <;> exact he)
  | halt x w' => cases x <;> simp only [Oper.upon] at h ⊢ <;> exact h
theorem tail_letsOut {ops : Array Oper} {t : List Oper} (h : LetsOut (tailPost P ops t Q)) : LetsOut Q := by
  obtain ⟨a, w, h⟩ := h
  exact ⟨a, w, h⟩
theorem wanted_none {o : Oper} (h : o.guard = none) (y : Nat → Option Bool) : Region.wanted o y = true := by simp [Region.wanted, h]
theorem ready_pop {l : List Oper} {n i : Nat} (hl : l.length = n + 1) {listed : Array Bool} (hi : i < n) : i ∈ Region.ready .any (l.take n).toArray listed ↔ i ∈ Region.ready .any l.toArray listed := by
  rw [mem_ready, mem_ready]
  have e : (l.take n).toArray[i]? = l.toArray[i]? := by simp [List.getElem?_take, hi]
  rw [e]
theorem wpAny_pop {l : List Oper} {n : Nat} (hl : l.length = n + 1) (hs : Region.sinkB .any l.toArray n = true) (hc : Region.chainB .any l.toArray n = true) (hg : ∀ o ∈ l, o.guard = none)
    (hlow : ∀ i o, l.toArray[i]? = some o → ∀ e ∈ o.after, Region.binds .any e = true → e.on < i) :
    ∀ (fuel : Nat) (listed : Array Bool) (a : Act) (w : World), HeadInv .any l.toArray n listed → wpAny P .any (l.take n).toArray (tailPost P l.toArray (l.drop n) Q) fuel listed a w → wpAny P .any l.toArray Q (fuel + 1) listed a w := by
  have hn : n < l.toArray.size := by simp; omega
  -- where none of the head may come up, all of it has
  have hall : ∀ listed, HeadInv .any l.toArray n listed → Region.ready .any (l.take n).toArray listed = [] → ∀ i, i < n → listed.getD i true = true := by
    intro listed inv hr i
    induction i using Nat.strongRecOn with
    | _ i ih =>
      intro hi
      cases h0 : listed.getD i true with
      | true => rfl
      | false =>
        have hin : i ∈ Region.ready .any l.toArray listed := by
          have hlt : i < l.toArray.size := by omega
          refine mem_ready.2 ⟨h0, l.toArray[i], Array.getElem?_eq_getElem hlt, fun e he hb => ?_⟩
          have h1 := hlow i _ (Array.getElem?_eq_getElem hlt) e he hb
          have h2 := ih e.on h1 (by omega)
          have h3 : e.on < listed.size := by rw [inv.size]; omega
          simp [h3] at h2 ⊢
          exact h2
        rw [← ready_pop hl hi, hr] at hin
        cases hin
  have hlast : ∀ listed a w, HeadInv .any l.toArray n listed → Region.ready .any (l.take n).toArray listed = [] → wpList P l.toArray Q (l.drop n) a w → ∀ f, wpAny P .any l.toArray Q (f + 1) listed a w := by
    intro listed a w inv hr h f
    have ha := hall listed inv hr
    have hnr : n ∈ Region.ready .any l.toArray listed := by
      refine mem_ready.2 ⟨inv.tail n (Nat.le_refl _) hn, l.toArray[n], Array.getElem?_eq_getElem hn, fun e he hb => ?_⟩
      have h1 := hlow n _ (Array.getElem?_eq_getElem hn) e he hb
      have h2 := ha e.on h1
      have h3 : e.on < listed.size := by rw [inv.size]; omega
      simp [h3] at h2 ⊢
      exact h2
    have honly : ∀ i ∈ Region.ready .any l.toArray listed, i = n := by
      intro i hi
      obtain ⟨h0, o, ho, _⟩ := mem_ready.1 hi
      have hlt : i < l.toArray.size := (Array.getElem?_eq_some_iff.1 ho).1
      have hlt' : i < n + 1 := by simpa [hl] using hlt
      rcases Nat.lt_or_ge i n with hi' | hi'
      · rw [ha i hi'] at h0; cases h0
      · omega
    refine ⟨fun h0 => absurd h0 (List.ne_nil_of_mem hnr), fun i hi => ?_⟩
    obtain rfl := honly i hi
    have hd : l.drop i = [l[i]'(by omega)] := by
      rw [List.drop_eq_getElem_cons (by omega), List.drop_eq_nil_of_le (by omega)]
    rw [hd] at h
    have h0 : l.toArray[i]? = some (l[i]'(by omega)) := by simp
    have hw : wpOp P l.toArray Q i (wpList P l.toArray Q []) a w := by unfold wpOp; simp only [h0]; exact h
    refine wpOp_mono (fun a' w' h' => ?_) hw
    have hnone : Region.ready .any l.toArray (listed.setIfInBounds i true) = [] := by
      refine List.eq_nil_iff_forall_not_mem.2 fun j hj => ?_
      obtain ⟨h1, o, ho, _⟩ := mem_ready.1 hj
      have hlt : j < l.toArray.size := (Array.getElem?_eq_some_iff.1 ho).1
      have hlt' : j < i + 1 := by simpa [hl] using hlt
      by_cases hji : i = j
      · subst hji
        have : i < listed.size := by rw [inv.size]; omega
        simp [this] at h1
      · rw [getD_set_ne true hji] at h1
        rw [ha j (by omega)] at h1
        cases h1
    cases f with
    | zero => exact ⟨hnone, h'⟩
    | succ f => exact ⟨fun _ => h', by rw [hnone]; simp⟩
  intro fuel
  induction fuel with
  | zero => exact fun listed a w inv h => hlast listed a w inv h.1 h.2 0
  | succ fuel ih =>
    intro listed a w inv h
    by_cases hr : Region.ready .any (l.take n).toArray listed = []
    · exact hlast listed a w inv hr (h.1 hr) (fuel + 1)
    · obtain ⟨i0, hi0⟩ := List.exists_mem_of_ne_nil _ hr
      obtain ⟨hu0, o0, ho0, _⟩ := mem_ready.1 hi0
      have hi0n : i0 < n := by
        have := (Array.getElem?_eq_some_iff.1 ho0).1
        simp at this
        omega
      have hnot := tail_waits hs hc hn inv _ i0 rfl hi0n hu0
      refine ⟨fun h0 => ?_, fun i hi => ?_⟩
      · rw [ready_pop hl hi0n, h0] at hi0
        cases hi0
      · have hin : i < n := by
          rcases Nat.lt_or_ge i n with hi' | hi'
          · exact hi'
          · exact absurd hi (hnot i hi')
        have h1 := h.2 i ((ready_pop hl hin).2 hi)
        have e : (l.take n).toArray[i]? = l.toArray[i]? := by simp [List.getElem?_take, hin]
        have hlt : i < l.toArray.size := by omega
        have hgo : (l.toArray[i]).guard = none := hg _ (by simp)
        have e2 : l.toArray[i]? = some l.toArray[i] := Array.getElem?_eq_getElem hlt
        unfold wpOp at h1 ⊢
        rw [e, e2] at h1
        rw [e2]
        simp only [wanted_none hgo, if_true] at h1 ⊢
        rcases h1 with h1 | ⟨h1, h2⟩
        · exact .inl (Oper.wp_mono (fun a' w' h' => ih _ a' w' (inv.set hi hin) h') (tail_wp h1))
        · exact .inr ⟨h1, tail_letsOut h2⟩
theorem region_pop {S : World → Prop} {id : Nat} {a : Act} {w : World} {l : List Oper} (n : Nat) (hm : P.follows .mixedOrders = true) (hB : popB l.toArray n = true)
    (h : wpAnyH P .any (l.take n).toArray (tailPost P l.toArray (l.drop n) Q) S n (Array.replicate (n + 1) false) a w.drew) : (Code.region id l.toArray true).wp P Q a w := by
  simp only [popB, Bool.and_eq_true, decide_eq_true_eq] at hB
  obtain ⟨⟨⟨⟨hz, hs⟩, hc⟩, hg⟩, hlow⟩ := hB
  have hl : l.length = n + 1 := by simpa using hz
  have inv0 : HeadInv .any l.toArray n (Array.replicate (n + 1) false) :=
    ⟨by simp [hl], fun j oj _ hx => (by rw [getD_replicate_false] at hx; cases hx), fun t _ ht => getD_in (by simpa [hl] using ht) (getD_replicate_false _ _)⟩
  refine wp_region_any hm ?_
  have hsz : l.toArray.size = n + 1 := hz
  rw [hsz]
  refine wpAny_pop hl hs hc (fun o ho => ?_) (fun i o ho e he hb => ?_) n _ a _ inv0 (wpAny_of_held _ _ _ _ h)
  · have := List.all_eq_true.1 hg o ho
    exact Option.isNone_iff_eq_none.1 this
  · have hlt : i < l.toArray.size := (Array.getElem?_eq_some_iff.1 ho).1
    have h1 := List.all_eq_true.1 hlow i (List.mem_range.2 hlt)
    rw [ho] at h1
    have h2 := List.all_eq_true.1 h1 e (Array.mem_def.1 he)
    rw [hb] at h2
    simpa using h2
end
/-! the moves, for regions written out as lists -/
section
variable {P : Program} {Q : Exit → Act → World → Prop} {S : World → Prop} {md : Region.Mode}
theorem startL {l : List Oper} {fuel : Nat} {listed : Array Bool} {a : Act} {w : World} (hS : S w) (h : S w → wpAnyH P md l.toArray Q S fuel listed a w) : wpAnyH P md l.toArray Q S fuel listed a w := h hS
theorem takeL {i : Nat} {oi : Oper} {v : Value} {l : List Oper} {fuel : Nat} {listed : Array Bool} {a : Act} {w : World} (hi : l[i]? = some oi)
    (hs : Region.noSelect l.toArray = true) (hf : Region.free md l.toArray listed i = true) (hr : (Region.ready md l.toArray listed).contains i = true)
    (hQ : ∀ c a w, Q (.panic c) (a.put oi.dst v) w → Q (.panic c) a w) (hy : YieldsIf P l.toArray S oi v a) (hS : S w)
    (h : wpAnyH P md l.toArray Q S fuel (listed.setIfInBounds i true) (a.put oi.dst v) w) : wpAnyH P md l.toArray Q S (fuel + 1) listed a w :=
  wpAnyH_take (by simpa using hi) hs hf hr hQ hy hS h
theorem onlyL {i : Nat} {oi : Oper} {l : List Oper} {fuel : Nat} {listed : Array Bool} {a : Act} {w : World} (hi : l[i]? = some oi) (hr : Region.ready md l.toArray listed = [i])
    (h : ∀ K' : Act → World → Prop, Shut (∀ a w, S w → (S w → wpAnyH P md l.toArray Q S fuel (listed.setIfInBounds i true) a w) → K' a w) → if Region.wanted oi (yielded l.toArray a.tmps) = true then Oper.wp P oi a w K' Q else K' (a.put oi.dst undef) w) :
    wpAnyH P md l.toArray Q S (fuel + 1) listed a w :=
  wpAnyH_ready hr (by simp) (AllReadyH.cons (by simpa using hi) h AllReadyH.nil)
theorem doneL {l : List Oper} {fuel : Nat} {listed : Array Bool} {a : Act} {w : World} {ops : Array Oper} {t : List Oper} (hr : Region.ready md l.toArray listed = []) (h : wpList P ops Q t a w) :
    wpAnyH P md l.toArray (tailPost P ops t Q) S fuel listed a w := wpAnyH_done hr h fuel
theorem readyL {rs : List Nat} {l : List Oper} {fuel : Nat} {listed : Array Bool} {a : Act} {w : World} (hr : Region.ready md l.toArray listed = rs) (hne : rs ≠ [])
    (h : AllReadyH P md l.toArray Q S fuel listed a w rs) : wpAnyH P md l.toArray Q S (fuel + 1) listed a w := wpAnyH_ready hr hne h
theorem allNil {l : List Oper} {fuel : Nat} {listed : Array Bool} {a : Act} {w : World} : AllReadyH P md l.toArray Q S fuel listed a w [] := AllReadyH.nil
theorem consL {i : Nat} {oi : Oper} {rs : List Nat} {l : List Oper} {fuel : Nat} {listed : Array Bool} {a : Act} {w : World} (hi : l[i]? = some oi)
    (h : ∀ K' : Act → World → Prop, Shut (∀ a w, S w → (S w → wpAnyH P md l.toArray Q S fuel (listed.setIfInBounds i true) a w) → K' a w) → if Region.wanted oi (yielded l.toArray a.tmps) = true then Oper.wp P oi a w K' Q else K' (a.put oi.dst undef) w)
    (hs : AllReadyH P md l.toArray Q S fuel listed a w rs) : AllReadyH P md l.toArray Q S fuel listed a w (i :: rs) := AllReadyH.cons (by simpa using hi) h hs
end
end Go.Proofs.YtfonfekejbmamaaDoor

/- append(out, xs...) to rows of elements and numbers: only the row's own block turns; where the new row lies. -/
namespace Go.Proofs.YtfonfekejbmamaaDoor
set_option linter.unusedVariables false
set_option linter.unusedSimpArgs false
open Go.RowKit

theorem wp_append_ED (w : World) {o : Oper} {a : Act} {K : Act → World → Prop} {Q : Exit → Act → World → Prop} (s x : Operand)
    (ho : o.op = .call { callee := .builtin .append, args := #[s, x], argTypes := #[39, 39] })
    (base : Nat) (v : Value) (zs : List ElemD) (hs : a.eval s = v) (hown : OwnE w base v zs) (u : Value) (ys : List ElemD) (hx : a.eval x = u) (hr : Elems w u ys)
    (hl : zs.length + ys.length ≤ 16777216) (hbase : base ≤ w.heap.size)
    (h : ∀ v' w', OwnE w' base v' (zs ++ ys) → Only (fp v) w w' → (∀ b ∈ fp v', b ∈ fp v ∨ b = w.heap.size) → K (a.put o.dst v') w') : o.wp Tryd.prog a w K Q := by
  obtain ⟨i0, hi, hz0, hz1, hz2⟩ := info_parts info_elem
  have h1 : ∀ y ∈ ys.flatMap cells4, y.oneCell' = true := by
    intro y hy
    obtain ⟨e, _, he⟩ := List.mem_flatMap.1 hy
    simp only [cells4, List.mem_cons, List.not_mem_nil, or_false] at he
    rcases he with rfl | rfl | rfl | rfl <;> rfl
  obtain ⟨v', w', hrun, h2, h3, h4⟩ := run_append_locG (P := Tryd.prog) w base 39 o.type 83 i0 _ 4 40 Tryd.underlying39 hi hz0 hz1 hz2 rfl (by omega) v zs.length _ hown.1 u ys.length (ys.flatMap cells4) hr.1 (flat_length cells4 4 (fun _ => rfl) ys) h1 (by unfold maxLen; omega) (by omega) hbase
  unfold Oper.wp execOp
  simp only [ho, resolve, invoke, builtin, Sem.run_bind, Sem.run_pure, Result.andThen_ok, List.map_toArray, List.map_cons, List.map_nil, hs, hx, hrun]
  refine h v' w' ⟨?_, fun e he => ?_⟩ (only_of_grown h3) (fun b hb => ?_)
  · rw [List.length_append, List.flatMap_append]
    exact h2
  · rcases List.mem_append.1 he with he | he
    · exact hown.2 e he
    · exact hr.2 e he
  · have hb' : v'.ownBlock = some b := by simpa [fp] using hb
    rcases h4 with h4 | h4
    · left; rw [h4] at hb'; simpa [fp] using hb'
    · right; rw [h4] at hb'; exact (Option.some.inj hb').symm
theorem wpList_append_ED (w : World) {ops : Array Oper} {rest : List Oper} {o : Oper} {a : Act} {Q : Exit → Act → World → Prop} (hgd : o.guard = none) (s x : Operand)
    (ho : o.op = .call { callee := .builtin .append, args := #[s, x], argTypes := #[39, 39] })
    (base : Nat) (v : Value) (zs : List ElemD) (hs : a.eval s = v) (hown : OwnE w base v zs) (u : Value) (ys : List ElemD) (hx : a.eval x = u) (hr : Elems w u ys)
    (hl : zs.length + ys.length ≤ 16777216) (hbase : base ≤ w.heap.size)
    (h : ∀ v' w', OwnE w' base v' (zs ++ ys) → Only (fp v) w w' → (∀ b ∈ fp v', b ∈ fp v ∨ b = w.heap.size) → wpList Tryd.prog ops Q rest (a.put o.dst v') w') : wpList Tryd.prog ops Q (o :: rest) a w :=
  wpList_plain hgd fun _ hK => wp_append_ED w s x ho base v zs hs hown u ys hx hr hl hbase fun v' w' h2 h3 h4 => hK _ _ (h v' w' h2 h3 h4)
theorem step_append_ED (w : World) {ops : Array Oper} {o : Oper} {a : Act} {K : Act → World → Prop} {Q : Exit → Act → World → Prop} {E : Prop} (hgd : o.guard = none) (s x : Operand)
    (ho : o.op = .call { callee := .builtin .append, args := #[s, x], argTypes := #[39, 39] })
    (base : Nat) (v : Value) (zs : List ElemD) (hs : a.eval s = v) (hown : OwnE w base v zs) (u : Value) (ys : List ElemD) (hx : a.eval x = u) (hr : Elems w u ys)
    (hl : zs.length + ys.length ≤ 16777216) (hbase : base ≤ w.heap.size)
    (h : ∀ v' w', OwnE w' base v' (zs ++ ys) → Only (fp v) w w' → (∀ b ∈ fp v', b ∈ fp v ∨ b = w.heap.size) → K (a.put o.dst v') w') :
    if Region.wanted o (yielded ops a.tmps) = true then Oper.wp Tryd.prog o a w K Q else E := by
  have hw : Region.wanted o (yielded ops a.tmps) = true := by simp [Region.wanted, hgd]
  rw [if_pos hw]
  exact wp_append_ED w s x ho base v zs hs hown u ys hx hr hl hbase h
/-- the same, numbers -/
theorem wp_append_ID (w : World) {o : Oper} {a : Act} {K : Act → World → Prop} {Q : Exit → Act → World → Prop} (s x : Operand)
    (ho : o.op = .call { callee := .builtin .append, args := #[s, x], argTypes := #[23, 23] })
    (base : Nat) (v : Value) (zs : List Int) (hs : a.eval s = v) (hown : OwnI w base v zs) (u : Value) (ys : List Int) (hx : a.eval x = u) (hr : Ints w u ys)
    (hl : zs.length + ys.length ≤ 16777216) (hbase : base ≤ w.heap.size)
    (h : ∀ v' w', OwnI w' base v' (zs ++ ys) → Only (fp v) w w' → (∀ b ∈ fp v', b ∈ fp v ∨ b = w.heap.size) → K (a.put o.dst v') w') : o.wp Tryd.prog a w K Q := by
  obtain ⟨i0, hi, hz0, hz1, hz2⟩ := info_parts info_int
  obtain ⟨v', w', hrun, h2, h3, h4⟩ := run_append_locG (P := Tryd.prog) w base 23 o.type 3 i0 _ 1 8 Tryd.underlying23 hi hz0 hz1 hz2 rfl (by omega) v zs.length _ hown u ys.length (ys.map (Value.int .i64)) hr (by simp) (fun y hy => by obtain ⟨_, _, rfl⟩ := List.mem_map.1 hy; rfl) (by unfold maxLen; omega) (by omega) hbase
  unfold Oper.wp execOp
  simp only [ho, resolve, invoke, builtin, Sem.run_bind, Sem.run_pure, Result.andThen_ok, List.map_toArray, List.map_cons, List.map_nil, hs, hx, hrun]
  refine h v' w' ?_ (only_of_grown h3) (fun b hb => ?_)
  · unfold OwnI
    rw [List.length_append, List.map_append]
    exact h2
  · have hb' : v'.ownBlock = some b := by simpa [fp] using hb
    rcases h4 with h4 | h4
    · left; rw [h4] at hb'; simpa [fp] using hb'
    · right; rw [h4] at hb'; exact (Option.some.inj hb').symm
end Go.Proofs.YtfonfekejbmamaaDoor

/- Codes: their text, the reference's side. -/
namespace Go.Proofs.YtfonfekejbmamaaDoor
set_option linter.unusedVariables false
set_option linter.unusedSimpArgs false
set_option linter.unnecessarySimpa false
open Go.RowKit Go.Lib

theorem ints3 {w : World} {g : Nat} {t : TypeId} {p q r : Int} (h : Box w g t #[.int .i64 p, .int .i64 q, .int .i64 r]) : Ints w (.slice (some ⟨g, 0, none⟩) 3 3) [p, q, r] :=
  ⟨_, 3, rfl, Nat.le_refl _, by decide, (fun h => by cases h), fun _ => ⟨g, 0, rfl, h.lt, fun j u hu => by
    rw [Nat.zero_add, h.cell j, ← hu]
    exact List.getElem?_toArray (xs := [Value.int .i64 p, .int .i64 q, .int .i64 r]) (i := j)⟩⟩
theorem ints4 {w : World} {g : Nat} {t : TypeId} {p q r s : Int} (h : Box w g t #[.int .i64 p, .int .i64 q, .int .i64 r, .int .i64 s]) : Ints w (.slice (some ⟨g, 0, none⟩) 4 4) [p, q, r, s] :=
  ⟨_, 4, rfl, Nat.le_refl _, by decide, (fun h => by cases h), fun _ => ⟨g, 0, rfl, h.lt, fun j u hu => by
    rw [Nat.zero_add, h.cell j, ← hu]
    exact List.getElem?_toArray (xs := [Value.int .i64 p, .int .i64 q, .int .i64 r, .int .i64 s]) (i := j)⟩⟩
def Smalls (zs : List Int) : Prop := ∀ n ∈ zs, 0 ≤ n ∧ n ≤ 1000000
theorem lineL_zero (w : List UInt8) : lineL w [] = w := by unfold lineL; rw [List.map_nil, join_one]
theorem lineL_snoc (w : List UInt8) (l : List Int) (n : Int) : lineL w (l ++ [n]) = lineL w l ++ ([32] ++ numL n) := by
  unfold lineL
  rw [List.map_append, ← List.cons_append]
  show Lib.join ((w :: l.map numL) ++ [numL n]) [32] = _
  rw [join_snoc _ _ _ (by simp), List.append_assoc]
theorem numL_len {n : Int} (h : 0 ≤ n ∧ n ≤ 1000000) : (numL n).length ≤ 10 := by
  have := numT_len (n := n.toNat) (by omega)
  unfold numT at this
  rw [tx_size] at this
  exact this
theorem lineL_take {w : List UInt8} {zs : List Int} {k : Nat} {n : Int} (h : zs[k]? = some n) : lineL w (zs.take (k + 1)) = lineL w (zs.take k) ++ ([32] ++ numL n) := by rw [take_snoc h, lineL_snoc]
theorem lineL_len {w : List UInt8} {zs : List Int} (hz : Smalls zs) : ∀ k, k ≤ zs.length → (lineL w (zs.take k)).length ≤ w.length + 11 * k
  | 0, _ => by rw [List.take_zero, lineL_zero]; omega
  | k + 1, hk => by
    have h1 : zs[k]? = some zs[k] := List.getElem?_eq_getElem (by omega)
    have ih := lineL_len (w := w) hz k (by omega)
    have := numL_len (hz _ (List.mem_of_getElem? h1))
    rw [lineL_take h1, List.length_append, List.length_append]
    simp
    omega
set_option maxRecDepth 100000 in
set_option maxHeartbeats 8000000 in
theorem cdLine_any (s0 : ByteArray) (v : Value) (zs : List Int) (w : World) (h : Ints w v zs) (hz : Smalls zs) (hs : s0.size ≤ 1000) (hl : zs.length ≤ 1000) :
    Calls Tryd.prog 73 #[.string s0, v] w fun e w' => e = .returned (.string (tx (lineL s0.data.toList zs ++ [10]))) ∧ Kept w w' := by
  obtain ⟨A, c, rfl, hnc, hcm, hA⟩ := h.out
  unfold maxLen at hcm
  have HA := Lib.hid hA
  have HZ := Lib.hid hz
  clear hA h hz
  have HS : Hid (s0 = tx (lineL s0.data.toList (zs.take 0))) := Lib.hid (by rw [List.take_zero, lineL_zero, tx_of])
  have hsl : s0.data.toList.length ≤ 1000 := by rw [← size_eq]; exact hs
  go_enter Tryd.func73, Tryd.ntmps73
  go_wp2_with fail
  go_loopw [0, 9] (fun s i wr => ∃ k : Nat, k ≤ zs.length ∧ i = .int .i64 k ∧ s = .string (tx (lineL s0.data.toList (zs.take k))) ∧ Kept w wr) (fun _ i _ => zs.length - (RowKit.intOf i).toNat)
  case atStart => exact ⟨0, Nat.zero_le _, rfl, by rw [← HS.out], Kept.refl _⟩
  case round =>
    obtain ⟨k, hk, rfl, rfl, hkept⟩ := hrel
    have hll := lineL_len (w := s0.data.toList) HZ.out k hk
    by_cases hlt : k < zs.length
    · obtain ⟨b, o, z, rfl, hb, hzk, hc⟩ := ints_at (HA.out.kept hkept) hlt
      obtain ⟨hz0, hz1⟩ := HZ.out z (List.mem_of_getElem? hzk)
      obtain ⟨n, rfl⟩ : ∃ n : Nat, z = (n : Int) := ⟨z.toNat, by omega⟩
      have hnl := numT_len (n := n) (by omega)
      have C := Lib.hid (l1Num_any n (by omega) wr)
      have AW := Lib.hid (cat_run (x := ⟨#[32]⟩) (y := numT n) rfl (by have e : (⟨#[32]⟩ : ByteArray).size = 1 := rfl; omega))
      have AJ : Hid (Op.stringOp .add (tx (lineL s0.data.toList (zs.take k))) (⟨#[32]⟩ ++ numT n) = pure (.string (tx (lineL s0.data.toList (zs.take (k + 1)))))) := Lib.hid (cat_run (by
        rw [lineL_take hzk, ← tx_app, ← tx_app]
        rfl) (by rw [tx_size, ByteArray.size_append]; have e : (⟨#[32]⟩ : ByteArray).size = 1 := rfl; omega))
      obtain ⟨z2, hz2⟩ : ∃ z2, z2 = tx (lineL s0.data.toList (zs.take (k + 1))) := ⟨_, rfl⟩
      have HZ2 := Lib.hid hz2
      have aw := AW.out
      have aj := AJ.out
      rw [← hz2] at aj
      clear hz2 hzk AJ AW
      generalize (⟨#[32]⟩ : ByteArray) ++ numT n = z1 at aw aj
      generalize tx (lineL s0.data.toList (zs.take k)) = zk at aj
      go_wp2_with fail
      refine (C.out).mono ?_
      rintro e w1 ⟨rfl, k1⟩
      go_wp2_with fail
      go_roundw
      case rel => exact ⟨k + 1, by omega, by go_num, by rw [HZ2.out], hkept.trans k1⟩
      case measure => simp [RowKit.intOf]; omega
    · obtain rfl : k = zs.length := by omega
      rw [List.take_length] at hll
      rw [List.take_length]
      have aw : Op.stringOp .add (tx (lineL s0.data.toList zs)) ⟨#[10]⟩ = pure (.string (tx (lineL s0.data.toList zs ++ [10]))) := cat_run (by rw [← tx_app]; rfl) (by rw [tx_size]; have e : (⟨#[10]⟩ : ByteArray).size = 1 := rfl; omega)
      generalize tx (lineL s0.data.toList zs) = zk at aw
      go_wp2_with fail
      go_ret
      exact ⟨rfl, hkept⟩
theorem ended_snoc (L : List (List UInt8)) (y : List UInt8) : ended (L ++ [y]) = ended L ++ (y ++ [10]) := by simp [ended]
def headL (x : CodeD) : List UInt8 := lineL codeW [x.repeats, x.bonus, x.keeps, x.fall]
def limL (x : CodeD) : List UInt8 := lineL limitsW x.limits
def cdPre (x : CodeD) (k : Nat) : List UInt8 := ended (headL x :: limL x :: (x.elems.take k).map elemL)
theorem cdPre_zero (x : CodeD) : tx (headL x ++ [10]) ++ tx (limL x ++ [10]) = tx (cdPre x 0) := by rw [tx_app]; congr 1; simp [cdPre, ended]
theorem cdPre_succ {x : CodeD} {k : Nat} {y : ElemD} (h : x.elems[k]? = some y) : cdPre x (k + 1) = cdPre x k ++ (elemL y ++ [10]) := by
  unfold cdPre
  rw [take_snoc h, List.map_append, ← List.cons_append, ← List.cons_append]
  exact ended_snoc _ _
theorem cdPre_all (x : CodeD) : cdPre x x.elems.length = cdTxt x := by unfold cdPre cdTxt cdLines headL limL; rw [List.take_length]
theorem code_small {x : CodeD} (h : codeB x = true) : Smalls [x.repeats, x.bonus, x.keeps, x.fall] ∧ Smalls x.limits ∧ x.limits.length = 5 ∧ x.elems.length ≤ 24 ∧ ∀ y ∈ x.elems, y.name.size ≤ 5 ∧ Smalls [y.family, y.level, y.base] := by
  obtain ⟨h1, h2, h3, h4, h5, h6, h7, h8⟩ := code_of h
  refine ⟨fun n hn => ?_, fun n hn => by have := h3 n hn; omega, h2, h1.2, fun y hy => ?_⟩
  · simp at hn; omega
  · obtain ⟨a, b, c, d⟩ := h8 y hy
    refine ⟨?_, fun n hn => ?_⟩
    · unfold nameB at a
      simp only [Bool.and_eq_true] at a
      have := inB_true a.2
      omega
    · simp at hn; omega
theorem elemL_len {y : ElemD} (h : y.name.size ≤ 5) (hs : Smalls [y.family, y.level, y.base]) : (elemL y).length ≤ 38 := by
  have h1 := lineL_len (w := y.name.data.toList) hs 3 (by simp)
  rw [← size_eq] at h1
  unfold elemL
  have e : [y.family, y.level, y.base].take 3 = [y.family, y.level, y.base] := rfl
  rw [e] at h1
  omega
theorem cdPre_len {x : CodeD} (h : codeB x = true) : ∀ k, k ≤ x.elems.length → (cdPre x k).length ≤ 120 + 39 * k
  | 0, _ => by
    obtain ⟨h1, h2, h3, _⟩ := code_small h
    have a := lineL_len (w := codeW) h1 4 (by simp)
    have b := lineL_len (w := limitsW) h2 5 (by omega)
    have e : [x.repeats, x.bonus, x.keeps, x.fall].take 4 = [x.repeats, x.bonus, x.keeps, x.fall] := rfl
    rw [e] at a
    rw [List.take_of_length_le (by omega)] at b
    have e1 : codeW.length = 4 := rfl
    have e2 : limitsW.length = 6 := rfl
    unfold cdPre ended headL limL
    simp
    omega
  | k + 1, hk => by
    obtain ⟨_, _, _, _, h5⟩ := code_small h
    have ih := cdPre_len h k (by omega)
    have h1 : x.elems[k]? = some x.elems[k] := List.getElem?_eq_getElem (by omega)
    obtain ⟨a, b⟩ := h5 _ (List.mem_of_getElem? h1)
    have := elemL_len a b
    rw [cdPre_succ h1, List.length_append, List.length_append]
    simp
    omega
def cdT (x : CodeD) : ByteArray := tx (cdTxt x)
def ctV (x : CodeD) : ByteArray := if codeB x then cdT x else ⟨#[]⟩
theorem ctV_yes {x : CodeD} (h : codeB x = true) : ctV x = cdT x := by unfold ctV; rw [h]; rfl
theorem ctV_no {x : CodeD} (h : codeB x = false) : ctV x = ⟨#[]⟩ := by unfold ctV; rw [h]; rfl
set_option maxRecDepth 100000 in
set_option maxHeartbeats 16000000 in
theorem cdText_any (v : Value) (x : CodeD) (w : World) (h : CodeAt w v x) (hb : codeB x = true) :
    Calls Tryd.prog 45 #[v] w fun e w' => e = .returned (.string (cdT x)) ∧ Kept w w' := by
  obtain ⟨nv, mv, rfl, q1, q2⟩ := h
  obtain ⟨A, c, rfl, hnc, hcm, hA⟩ := q1.1.out
  obtain ⟨D, d, rfl, hnd, hdm, _⟩ := q2.out
  unfold maxLen at hcm hdm
  obtain ⟨s1, s2, s3, s4, s5⟩ := code_small hb
  have HA := Lib.hid hA
  have H2 := Lib.hid q2
  have S1 := Lib.hid s1
  have S2 := Lib.hid s2
  have S3 := Lib.hid s3
  have S5 := Lib.hid s5
  have HPL := Lib.hid (cdPre_len hb)
  clear q1 q2 hA hb s1 s2 s3 s5
  go_enter Tryd.func45, Tryd.ntmps45
  obtain ⟨w0, hw0⟩ : ∃ u : World, u = w.alloc (.cells #[.slice A x.elems.length c, .slice D x.limits.length d, .int .i64 x.repeats, .int .i64 x.bonus, .int .i64 x.keeps, .int .i64 x.fall] 41) := ⟨_, rfl⟩
  have B0 : Box w0 w.heap.size 41 #[.slice A x.elems.length c, .slice D x.limits.length d, .int .i64 x.repeats, .int .i64 x.bonus, .int .i64 x.keeps, .int .i64 x.fall] := hw0 ▸ Box.new w _ _ _ rfl
  have K0 : Kept w w0 := hw0 ▸ (Kept.refl w).alloc _
  go_upto_region 1 with (fail)
  rw [← hw0]
  have sz0 : w.heap.size < w0.heap.size := B0.lt
  clear hw0
  have B0d : Box w0.drew w.heap.size 41 #[.slice A x.elems.length c, .slice D x.limits.length d, .int .i64 x.repeats, .int .i64 x.bonus, .int .i64 x.keeps, .int .i64 x.fall] := B0
  have AJ : Hid (Op.stringOp .add (tx (headL x ++ [10])) (tx (limL x ++ [10])) = pure (.string (tx (cdPre x 0)))) := Lib.hid (cat_run (cdPre_zero x) (by
    have := HPL.out 0 (by omega)
    have e := congrArg ByteArray.size (cdPre_zero x)
    rw [ByteArray.size_append, tx_size (cdPre x 0)] at e
    omega))
  have aj := AJ.out
  have C1 : Hid (∀ (W : World) (g : Nat), Box W g 3 #[.int .i64 x.repeats, .int .i64 x.bonus, .int .i64 x.keeps, .int .i64 x.fall] → Calls Tryd.prog 73 #[.string ⟨#[99, 111, 100, 101]⟩, .slice (some ⟨g, 0, none⟩) 4 4] W fun e w' => e = .returned (.string (tx (headL x ++ [10]))) ∧ Kept W w') := Lib.hid (fun W g hB => cdLine_any ⟨#[99, 111, 100, 101]⟩ _ [x.repeats, x.bonus, x.keeps, x.fall] W (ints4 hB) S1.out (by decide) (by simp))
  have C2 : Hid (∀ (W : World), Kept w W → Calls Tryd.prog 73 #[.string ⟨#[108, 105, 109, 105, 116, 115]⟩, .slice D x.limits.length d] W fun e w' => e = .returned (.string (tx (limL x ++ [10]))) ∧ Kept W w') := Lib.hid (fun W hk => cdLine_any ⟨#[108, 105, 109, 105, 116, 115]⟩ _ _ W (H2.out.kept hk) S2.out (by decide) (by have := S3.out; omega))
  generalize tx (headL x ++ [10]) = zh at aj C1
  generalize tx (limL x ++ [10]) = zl at aj C2
  have B0a : Box (w0.alloc (.cells #[.int .i64 x.repeats, .int .i64 x.bonus, .int .i64 x.keeps, .int .i64 x.fall] 3)).drew w.heap.size 41 #[.slice A x.elems.length c, .slice D x.limits.length d, .int .i64 x.repeats, .int .i64 x.bonus, .int .i64 x.keeps, .int .i64 x.fall] := B0.alloc _
  have B1d : Box (w0.alloc (.cells #[.int .i64 x.repeats, .int .i64 x.bonus, .int .i64 x.keeps, .int .i64 x.fall] 3)).drew w0.heap.size 3 #[.int .i64 x.repeats, .int .i64 x.bonus, .int .i64 x.keeps, .int .i64 x.fall] := Box.new w0 _ _ _ rfl
  have K0a : Kept w (w0.alloc (.cells #[.int .i64 x.repeats, .int .i64 x.bonus, .int .i64 x.keeps, .int .i64 x.fall] 3)).drew := (K0.alloc _).drew
  go_region_held3 (fun w' => w'.cell? ⟨w.heap.size, 1, none⟩ = some (.slice D x.limits.length d) ∧ w'.cell? ⟨w.heap.size, 2, none⟩ = some (.int .i64 x.repeats) ∧ w'.cell? ⟨w.heap.size, 3, none⟩ = some (.int .i64 x.bonus) ∧ w'.cell? ⟨w.heap.size, 4, none⟩ = some (.int .i64 x.keeps) ∧ w'.cell? ⟨w.heap.size, 5, none⟩ = some (.int .i64 x.fall)) (first | (with_reducible exact B0d.six.1.2) | (with_reducible exact B0a.six.1.2) | (with_reducible exact (B0a.kept (by assumption)).six.1.2))
    (first | (go_at_call 73; (with_reducible refine (C1.out _ _ B1d).mono ?_); rintro e w1 ⟨rfl, k1⟩) | (go_at_call 73; (with_reducible refine (C2.out _ (K0a.trans k1)).mono ?_); rintro e w2 ⟨rfl, k2'⟩; have k2 := k1.trans k2'))
  rename_i hheld
  clear hheld
  have KW := Lib.hid (K0a.trans k2)
  have B2 := Lib.hid (B0a.kept k2)
  clear aj C1 C2 B0 B0d B0a B1d AJ
  obtain ⟨x1, y1⟩ := B2.out.six
  go_wp2_with fail
  clear x1 y1
  have HZ0 : Hid (tx (cdPre x 0) = tx (cdPre x 0)) := Lib.hid rfl
  go_loopw [3, 23] (fun s3 s23 wr => ∃ k : Nat, k ≤ x.elems.length ∧ s23 = .int .i64 k ∧ s3 = .string (tx (cdPre x k)) ∧ Kept w wr) (fun _ i _ => x.elems.length - (RowKit.intOf i).toNat)
  case atStart => exact ⟨0, Nat.zero_le _, rfl, rfl, KW.out⟩
  case round =>
    obtain ⟨k, hk, rfl, rfl, hkept⟩ := hrel
    by_cases hlt : k < x.elems.length
    · obtain ⟨b, o, y, rfl, hb', h2, q0, q1, q2, q3⟩ := elems_at (HA.out.kept hkept) hlt
      have S5y := S5.out y (List.mem_of_getElem? h2)
      have hel := elemL_len S5y.1 S5y.2
      have hpl := HPL.out k hk
      have CY : Hid (∀ (W : World) (g : Nat), Box W g 3 #[.int .i64 y.family, .int .i64 y.level, .int .i64 y.base] → Calls Tryd.prog 73 #[.string y.name, .slice (some ⟨g, 0, none⟩) 3 3] W fun e w' => e = .returned (.string (tx (elemL y ++ [10]))) ∧ Kept W w') := Lib.hid (fun W g hB => cdLine_any y.name _ [y.family, y.level, y.base] W (ints3 hB) S5y.2 (by have := S5y.1; omega) (by simp))
      have AJ : Hid (Op.stringOp .add (tx (cdPre x k)) (tx (elemL y ++ [10])) = pure (.string (tx (cdPre x (k + 1))))) := Lib.hid (cat_run (by rw [cdPre_succ h2, tx_app]) (by rw [tx_size, tx_size, List.length_append]; simp; omega))
      obtain ⟨zn, hzn⟩ : ∃ zn, zn = tx (cdPre x (k + 1)) := ⟨_, rfl⟩
      have aj := AJ.out
      rw [← hzn] at aj
      have HZN := Lib.hid hzn
      generalize tx (cdPre x k) = zk at aj
      generalize tx (elemL y ++ [10]) = zy at aj CY
      clear hzn AJ h2 S5y
      have BY := Box.new wr wr.heap.size 83 #[.string y.name, .int .i64 y.family, .int .i64 y.level, .int .i64 y.base] rfl
      obtain ⟨xy, yy⟩ := BY.four
      have B3 : Box ((wr.alloc (.cells #[.string y.name, .int .i64 y.family, .int .i64 y.level, .int .i64 y.base] 83)).alloc (.cells #[.int .i64 y.family, .int .i64 y.level, .int .i64 y.base] 3)) (wr.heap.size + 1) 3 #[.int .i64 y.family, .int .i64 y.level, .int .i64 y.base] := Box.new _ _ _ _ (by simp)
      have KY : Kept wr (wr.alloc (.cells #[.string y.name, .int .i64 y.family, .int .i64 y.level, .int .i64 y.base] 83)) := (Kept.refl wr).alloc _
      go_wp2_with fail
      with_reducible refine (CY.out _ _ B3).mono ?_
      rintro e w3 ⟨rfl, k3⟩
      go_wp2_with fail
      go_roundw
      case rel => exact ⟨k + 1, by omega, by go_num, by rw [HZN.out], hkept.trans ((KY.alloc _).trans k3)⟩
      case measure => simp [RowKit.intOf]; omega
    · obtain rfl : k = x.elems.length := by omega
      have HC := Lib.hid (cdPre_all x)
      go_wp2_with fail
      go_ret
      exact ⟨ret_str (by rw [HC.out]; rfl), hkept⟩
end Go.Proofs.YtfonfekejbmamaaDoor

/- The marks that the laws write: elements, codes. -/
namespace Go.Proofs.YtfonfekejbmamaaDoor
set_option linter.unusedVariables false
set_option linter.unusedSimpArgs false
open Go.RowKit

def markE (k : Int) : ElemD := ⟨mt k, k + 1, k + 2, k + 3⟩
def marksE (k : Int) (n : Nat) : List ElemD := (List.range n).map fun (i : Nat) => markE (k + 4 * (i : Int))
theorem marksE_length (k : Int) (n : Nat) : (marksE k n).length = n := by simp [marksE]
theorem marksE_get {k : Int} {n i : Nat} (h : i < n) : (marksE k n)[i]? = some (markE (k + 4 * i)) := by simp [marksE, h]
theorem marksE_size (k : Int) (n : Nat) : ∀ e ∈ marksE k n, e.name.size ≤ maxLen := by
  intro z hz
  unfold marksE at hz
  obtain ⟨i, _, rfl⟩ := List.mem_map.1 hz
  exact mt_size _
set_option maxHeartbeats 2000000 in
theorem markElementS_any (v : Value) (es : List ElemD) (k : Int) (w : World) (base : Nat) (h : OwnE w base v es) (hk : 1 ≤ k) (hk2 : k ≤ 274877906944) (hn : es.length ≤ 1048576) :
    Calls Tryd.prog 58 #[v, .int .i64 k] w fun e w' => e = .returned (.int .i64 (k + 4 * es.length)) ∧ OwnE w' base v (marksE k es.length) ∧ Only (fp v) w w' := by
  obtain ⟨A, c, rfl, hnc, hcm, hA⟩ := own_form h.1
  unfold maxLen at hcm
  have HA := Lib.hid hA
  have HI := Lib.hid h.1
  clear h hA
  go_enter Tryd.func58, Tryd.ntmps58
  go_wp2_with fail
  go_loopw [1, 5] (fun q i wr => ∃ (j : Nat) (xs : List Value), j ≤ es.length ∧ i = .int .i64 j ∧ q = .int .i64 (k + 4 * j) ∧ wr.ownsRow base 83 4 (.slice A es.length c) es.length xs ∧ xs.take (j * 4) = ((marksE k es.length).take j).flatMap cells4 ∧ Only (fp (.slice A es.length c)) w wr) (fun _ i _ => es.length - (intOf i).toNat)
  case atStart => exact ⟨0, _, Nat.zero_le _, rfl, by simp, HI.out, by simp, Only.refl _ _⟩
  case round =>
    obtain ⟨j, xs, hj, rfl, rfl, ho, ht, hon⟩ := hrel
    have hlen : xs.length = es.length * 4 := ho.1
    by_cases hlt : j < es.length
    · obtain ⟨g, rfl⟩ := HA.out (by omega)
      have HT := Lib.hid ht
      have HO := Lib.hid hlen
      have HN := Lib.hid hon
      have HR := Lib.hid ho
      clear ht hlen ho hon
      go_wp2_with fail
      refine (markText_any _ _ (by omega) (by omega)).mono ?_
      rintro e w1 ⟨rfl, k1⟩
      have ho1 := own_kept HR.out k1
      obtain ⟨u0, _, x0, y0⟩ := own_at ho1 (j := j * 4) (by omega)
      obtain ⟨u1, _, x1, y1⟩ := own_at ho1 (j := j * 4 + 1) (by omega)
      obtain ⟨u2', _, x2, y2⟩ := own_at ho1 (j := j * 4 + 2) (by omega)
      obtain ⟨u3', _, x3, y3⟩ := own_at ho1 (j := j * 4 + 3) (by omega)
      have HO1 := Lib.hid ho1
      clear ho1
      go_wp2_with fail
      go_roundw
      case rel =>
        refine ⟨j + 1, _, by omega, by go_num, by go_num, ((((HO1.out.stored (j * 4) _).1.stored (j * 4 + 1) _).1.stored (j * 4 + 2) _).1.stored (j * 4 + 3) _).1, ?_, ?_⟩
        · rw [set4_take HO.out hlt HT.out, take_snoc (marksE_get hlt)]
          simp [cells4, markE]
          try omega
        · repeat (refine Only.setCell ?_ (by simp [fp_some]) _)
          exact HN.out.trans (k1.only _)
      case measure => simp [intOf]; omega
    · obtain rfl : j = es.length := by omega
      have hx : xs = (marksE k es.length).flatMap cells4 := by rw [List.take_of_length_le (by omega), List.take_of_length_le (by rw [marksE_length]; exact Nat.le_refl _)] at ht; exact ht
      have HX := Lib.hid hx
      have HR := Lib.hid ho
      have HN := Lib.hid hon
      clear hx ht ho hon hlen
      go_wp2_with fail
      go_ret
      refine ⟨rfl, ⟨?_, marksE_size _ _⟩, HN.out⟩
      rw [marksE_length, ← HX.out]
      exact HR.out
set_option maxHeartbeats 2000000 in
theorem heldElementS_any (v : Value) (k : Int) (n : Nat) (w : World) (h : Elems w v (marksE k n)) (hk : 1 ≤ k) (hk2 : k ≤ 274877906944) (hn : n ≤ 1048576) :
    Calls Tryd.prog 59 #[v, .int .i64 k] w fun e w' => e = .returned (.int .i64 (k + 4 * n)) ∧ Kept w w' := by
  obtain ⟨A, c, rfl, hnc, hcm, hA⟩ := h.1.out
  unfold maxLen at hcm
  have HA := Lib.hid hA
  have hN : (marksE k n).length = n := marksE_length k n
  rw [hN] at hnc ⊢
  have HL := Lib.hid hN
  clear h hA hN
  go_enter Tryd.func59, Tryd.ntmps59
  go_wp2_with fail
  go_loopw [1, 5] (fun q i wr => ∃ j : Nat, j ≤ n ∧ i = .int .i64 j ∧ q = .int .i64 (k + 4 * j) ∧ Kept w wr) (fun _ i _ => n - (intOf i).toNat)
  case atStart => exact ⟨0, Nat.zero_le _, rfl, by simp, Kept.refl _⟩
  case round =>
    obtain ⟨j, hj, rfl, rfl, hkept⟩ := hrel
    by_cases hlt : j < n
    · obtain ⟨b, o, y, rfl, hb, h2, q0, q1, q2, q3⟩ := elems_at (HA.out.kept hkept.drew) (k := j) (by rw [HL.out]; exact hlt)
      rw [marksE_get hlt] at h2
      injection h2 with h2
      subst h2
      have hlt' : (j : Int) < (n : Int) := by omega
      go_wp2_with fail
      have y0 := After.cell q0 hb
      have hne : (!(mt (k + 4 * (j : Int))).toList == (mt (k + 4 * (j : Int))).toList) = false := by simp
      have HQ := Lib.hid (show _ ∧ _ ∧ _ from ⟨q1, q2, q3⟩)
      clear q0 q1 q2 q3
      unfold markE at y0
      dsimp only at y0
      refine region_after (by kernel_rfl) (by kernel_rfl) ?_
      repeat (go_big_quiet_step ((go_at_call 67; exact after_of (markText_any _ _ (by omega) (by omega)))))
      refine wpQuiet_nil ?_
      intro wq hw'
      obtain ⟨⟨_, kq⟩, hw''⟩ := hw'
      subst hw''
      try dsimp only
      obtain ⟨q1, q2, q3⟩ := HQ.out
      have z1 := (kq.cell hb).trans q1
      have z2 := (kq.cell hb).trans q2
      have z3 := (kq.cell hb).trans q3
      unfold markE at z1 z2 z3
      dsimp only at z1 z2 z3
      have n1 : (k + 4 * (j : Int) + 1 != k + 4 * (j : Int) + 1) = false := by simp
      have n2 : (k + 4 * (j : Int) + 2 != k + 4 * (j : Int) + 2) = false := by simp
      have n3 : (k + 4 * (j : Int) + 3 != k + 4 * (j : Int) + 3) = false := by simp
      clear q1 q2 q3
      go_wp2_with fail
      go_roundw
      case rel => exact ⟨j + 1, by omega, by go_num, by go_num, hkept.drew.trans kq⟩
      case measure => simp [intOf]; omega
    · obtain rfl : j = n := by omega
      go_wp2_with fail
      go_ret
      exact ⟨rfl, hkept⟩
def markK (k : Int) (x : CodeD) : CodeD := { x with elems := marksE k x.elems.length, limits := marksI (k + 4 * x.elems.length) x.limits.length }
def nextC (k : Int) (x : CodeD) : Int := k + 4 * x.elems.length + x.limits.length
theorem OwnK.nodup {w : World} {base : Nat} {v : Value} {x : CodeD} (h : OwnK w base v x) : (fpA v).Nodup := by
  obtain ⟨_, _, _, _, _, h⟩ := h
  exact h
set_option maxHeartbeats 1000000 in
theorem markCode_any (v : Value) (x : CodeD) (k : Int) (w : World) (base : Nat) (h : OwnK w base v x) (hk : 1 ≤ k) (hk2 : k ≤ 137438953472) (hn : x.elems.length ≤ 1048576) (hm : x.limits.length ≤ 1048576) :
    Calls Tryd.prog 27 #[v, .int .i64 k] w fun e w' => e = .returned (.int .i64 (nextC k x)) ∧ OwnK w' base v (markK k x) ∧ Only (fpA v) w w' := by
  obtain ⟨nv, mv, rfl, o1, o2, nd⟩ := h
  obtain ⟨A, c, rfl, _, _, _⟩ := own_form o1.1
  obtain ⟨A2, c2, rfl, _, _, _⟩ := own_form o2
  have ND := Lib.hid nd
  rw [fpA_code] at nd
  have HD := Lib.hid (List.nodup_append.1 nd).2.2
  have O1 := Lib.hid o1
  have O2 := Lib.hid o2
  have B0 := Box.new w w.heap.size 41 #[.slice A x.elems.length c, .slice A2 x.limits.length c2, .int .i64 x.repeats, .int .i64 x.bonus, .int .i64 x.keeps, .int .i64 x.fall] rfl
  have K0 : Kept w (w.alloc (.cells #[.slice A x.elems.length c, .slice A2 x.limits.length c2, .int .i64 x.repeats, .int .i64 x.bonus, .int .i64 x.keeps, .int .i64 x.fall] 41)) := (Kept.refl w).alloc _
  have F1 := Lib.hid (own_fp o1.1)
  have F2 := Lib.hid (own_fp o2)
  clear nd o1 o2
  go_enter Tryd.func27, Tryd.ntmps27
  go_wp2_with fail
  refine (markElementS_any _ x.elems _ _ base (O1.out.kept K0) hk (by omega) hn).mono ?_
  rintro e w1 ⟨rfl, o1, on1⟩
  have B1 := B0.only on1 (fun hb => by have := F1.out _ hb; omega)
  obtain ⟨x0, y0⟩ := B1.six
  go_wp2_with fail
  clear x0 y0
  refine (markIntS_any _ x.limits _ _ base ((O2.out.kept K0).only on1 (fun b hb hb' => HD.out b hb' b hb rfl)) (by omega) (by omega) hm).mono ?_
  rintro e w2 ⟨rfl, o2, on2⟩
  go_wp2_with fail
  go_ret
  refine ⟨ret_int (by unfold nextC; rfl), ⟨_, _, rfl, ?_, ?_, ND.out⟩, ?_⟩
  · exact o1.only on2 (fun b hb hb' => HD.out b hb b hb' rfl)
  · exact o2
  · rw [fpA_code]
    exact (K0.only _).trans ((on1.mono (fun b hb => List.mem_append_left _ hb)).trans (on2.mono (fun b hb => List.mem_append_right _ hb)))
set_option maxHeartbeats 1000000 in
theorem heldCode_any (v : Value) (x : CodeD) (k : Int) (w : World) (h : CodeAt w v (markK k x)) (hk : 1 ≤ k) (hk2 : k ≤ 137438953472) (hn : x.elems.length ≤ 1048576) (hm : x.limits.length ≤ 1048576) :
    Calls Tryd.prog 28 #[v, .int .i64 k] w fun e w' => e = .returned (.int .i64 (nextC k x)) ∧ Kept w w' := by
  obtain ⟨nv, mv, rfl, q1, q2⟩ := h
  obtain ⟨A, c, rfl, _, _, _⟩ := q1.1.out
  obtain ⟨A2, c2, rfl, _, _, _⟩ := q2.out
  have H1 := Lib.hid q1
  have H2 := Lib.hid q2
  clear q1 q2
  unfold markK
  dsimp only
  have K0 : Kept w (w.alloc (.cells #[.slice A (marksE k x.elems.length).length c, .slice A2 (marksI (k + 4 * x.elems.length) x.limits.length).length c2, .int .i64 x.repeats, .int .i64 x.bonus, .int .i64 x.keeps, .int .i64 x.fall] 41)) := (Kept.refl w).alloc _
  have B0 := Box.new w w.heap.size 41 #[.slice A (marksE k x.elems.length).length c, .slice A2 (marksI (k + 4 * x.elems.length) x.limits.length).length c2, .int .i64 x.repeats, .int .i64 x.bonus, .int .i64 x.keeps, .int .i64 x.fall] rfl
  go_enter Tryd.func28, Tryd.ntmps28
  go_wp2_with fail
  refine (heldElementS_any _ k x.elems.length _ (H1.out.kept K0) hk (by omega) hn).mono ?_
  rintro e w1 ⟨rfl, k1⟩
  obtain ⟨x0, y0⟩ := (B0.kept k1).six
  have K1 := K0.trans k1
  go_wp2_with fail
  clear x0 y0
  refine (heldIntS_any _ _ x.limits.length _ (H2.out.kept K1) (by omega) (by omega) hm).mono ?_
  rintro e w2 ⟨rfl, k2⟩
  subst k2
  go_wp2_with fail
  go_ret
  exact ⟨ret_int (by unfold nextC; rfl), K1⟩
end Go.Proofs.YtfonfekejbmamaaDoor

/- Codes: ScaleCode. -/
namespace Go.Proofs.YtfonfekejbmamaaDoor
set_option linter.unusedVariables false
set_option linter.unusedSimpArgs false
open Go.RowKit

def scaleE (p : Int) (y : ElemD) : ElemD := { y with base := max (y.base * p / 100) 1 }
def scaleC (x : CodeD) (p : Int) : CodeD := { x with elems := x.elems.map (scaleE p) }
def scOk (x : CodeD) (p : Int) : Bool := codeB x && inB p 1 200
def scB (x : CodeD) (p : Int) : Bool := scOk x p && codeB (scaleC x p)
def scV (x : CodeD) (p : Int) : CodeD := if scOk x p then ifC (scaleC x p) else zeroC
theorem scV_no {x : CodeD} {p : Int} (h : scOk x p = false) : scV x p = zeroC := by unfold scV; rw [h]; rfl
theorem scV_yes {x : CodeD} {p : Int} (h : scOk x p = true) : scV x p = ifC (scaleC x p) := if_pos h
theorem scB_no {x : CodeD} {p : Int} (h : scOk x p = false) : scB x p = false := by unfold scB; rw [h]; rfl
theorem scB_yes {x : CodeD} {p : Int} (h : scOk x p = true) : scB x p = codeB (scaleC x p) := by unfold scB; rw [h, Bool.true_and]
theorem sc_code {x : CodeD} {p : Int} (h : scOk x p = true) : codeB x = true := by unfold scOk at h; rw [Bool.and_eq_true] at h; exact h.1
theorem sc_in {x : CodeD} {p : Int} (h : scOk x p = true) : inB p 1 200 = true := by unfold scOk at h; rw [Bool.and_eq_true] at h; exact h.2
theorem ifC_len (x : CodeD) : (ifC x).elems.length ≤ 24 ∧ (ifC x).limits.length ≤ 5 := by
  by_cases h : codeB x = true
  · rw [ifC_yes h]
    have := codeB_heads h
    omega
  · simp only [Bool.not_eq_true] at h
    rw [ifC_no h]
    exact ⟨by simp [zeroC], by simp [zeroC]⟩
theorem scV_len (x : CodeD) (p : Int) : (scV x p).elems.length ≤ 24 ∧ (scV x p).limits.length ≤ 5 := by
  by_cases h : scOk x p = true
  · rw [scV_yes h]; exact ifC_len _
  · simp only [Bool.not_eq_true] at h
    rw [scV_no h]
    exact ⟨by simp [zeroC], by simp [zeroC]⟩
theorem elems_one {w : World} {g : Nat} {t : TypeId} (y : ElemD) (h : Box w g t #[.string y.name, .int .i64 y.family, .int .i64 y.level, .int .i64 y.base]) (hs : y.name.size ≤ maxLen) : Elems w (.slice (some ⟨g, 0, none⟩) 1 1) [y] := by
  refine ⟨⟨_, 1, rfl, Nat.le_refl _, by unfold maxLen; simp, (fun h => by cases h), fun _ => ⟨g, 0, rfl, h.lt, ?_⟩⟩, ?_⟩
  · intro j u hu
    rw [Nat.zero_add, h.cell j]
    simp only [List.flatMap_cons, List.flatMap_nil, List.append_nil, cells4] at hu
    rw [← hu]
    rw [← Array.getElem?_toList]
  · intro e he
    simp at he
    subst he
    exact hs
theorem OwnE.base {w : World} {base base' : Nat} {v : Value} {es : List ElemD} (h : OwnE w base v es) (hb : base' ≤ base) : OwnE w base' v es := ⟨own_base h.1 hb, h.2⟩
theorem mul_bds {a b A B : Int} (h1 : 0 ≤ a) (h2 : a ≤ A) (h3 : 0 ≤ b) (h4 : b ≤ B) : 0 ≤ a * b ∧ a * b ≤ A * B :=
  ⟨Int.mul_nonneg h1 h3, Int.mul_le_mul h2 h4 h3 (by omega)⟩
theorem flat_set3 : ∀ (l : List ElemD) (k : Nat) (y : ElemD) (b : Int), l[k]? = some y → (l.flatMap cells4).set (k * 4 + 3) (.int .i64 b) = (l.set k { y with base := b }).flatMap cells4
  | [], _, _, _, h => by simp at h
  | x :: l, 0, y, b, h => by
    simp at h
    subst h
    simp [cells4]
  | x :: l, k + 1, y, b, h => by
    simp only [List.getElem?_cons_succ] at h
    rw [List.flatMap_cons, List.set_cons_succ, List.flatMap_cons, List.set_append_right _ _ (by simp [cells4]; omega), ← flat_set3 l k y b h]
    congr 2
    simp [cells4]
    omega
def scTo (es : List ElemD) (p : Int) (k : Nat) : List ElemD := (es.take k).map (scaleE p) ++ es.drop k
theorem scTo_len (es : List ElemD) (p : Int) (k : Nat) : (scTo es p k).length = es.length := by
  unfold scTo
  rw [List.length_append, List.length_map, List.length_take, List.length_drop]
  omega
theorem scTo_get {es : List ElemD} {p : Int} {k : Nat} {y : ElemD} (h : es[k]? = some y) : (scTo es p k)[k]? = some y := by
  have hk := (List.getElem?_eq_some_iff.1 h).1
  unfold scTo
  rw [List.getElem?_append_right (by rw [List.length_map, List.length_take]; omega), List.length_map, List.length_take, List.getElem?_drop, ← h]
  congr 1
  omega
theorem scTo_succ {es : List ElemD} {p : Int} {k : Nat} {y : ElemD} (h : es[k]? = some y) : scTo es p (k + 1) = (scTo es p k).set k (scaleE p y) := by
  have hk := (List.getElem?_eq_some_iff.1 h).1
  unfold scTo
  rw [take_snoc h, List.map_append, List.set_append_right _ _ (by rw [List.length_map, List.length_take]; omega), List.length_map, List.length_take]
  rw [show k - min k es.length = 0 from by omega, List.drop_eq_getElem_cons hk, List.set_cons_zero, List.map_cons, List.map_nil, List.append_assoc]
  rfl
theorem scTo_zero (es : List ElemD) (p : Int) : scTo es p 0 = es := by simp [scTo]
theorem scTo_full (es : List ElemD) (p : Int) : scTo es p es.length = es.map (scaleE p) := by simp [scTo]
end Go.Proofs.YtfonfekejbmamaaDoor
