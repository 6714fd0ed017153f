/- Contracts of functions that the proof leans on. No condition. -/
import Derived.Test.YtlmaiblfgbobnaaM49a7ddeb21
import Derived.Deep.RegionHeld3
import Derived.StillTail
import Derived.Deep.DeepCutAuto
/- A region that draws its order and ends in a store to a cell that it reads: the last operation is put off; what is asked of the worlds on the way is not asked behind it. -/
namespace Go.Proofs.Ytlmaiblfgbobnaa
set_option linter.unusedVariables false
set_option linter.unusedSimpArgs false
open Go.RowKit

/-- the post, but the operations of t at a normal end -/
def tailPost (P : Program) (ops : Array Oper) (t : List Oper) (Q : Exit → Act → World → Prop) : Exit → Act → World → Prop
  | .normal, a, w => wpList P ops Q t a w
  | e, a, w => Q e a w
def popB (ops : Array Oper) (n : Nat) : Bool :=
  decide (ops.size = n + 1) && Region.sinkB .any ops n && Region.chainB .any ops n && ops.toList.all (fun o => o.guard.isNone) && (List.range ops.size).all fun i => match ops[i]? with
    | some o => o.after.toList.all fun e => !Region.binds .any e || decide (e.on < i)
    | none => true
section
variable {P : Program} {Q : Exit → Act → World → Prop}
theorem tail_wp {ops : Array Oper} {t : List Oper} {o : Oper} {a : Act} {w : World} {K : Act → World → Prop} (h : o.wp P a w K (tailPost P ops t Q)) : o.wp P a w K Q := by
  unfold Oper.wp at *
  generalize (execOp a.eval o).run P w = r at *
  cases r with
  | ok n w' =>
    cases n <;> simp only [Oper.upon] at h ⊢ <;>
      first
        | exact h
        | exact Calls.mono h (fun e w'' he => by cases e <;> exact he)
  | halt x w' => cases x <;> simp only [Oper.upon] at h ⊢ <;> exact h
theorem tail_letsOut {ops : Array Oper} {t : List Oper} (h : LetsOut (tailPost P ops t Q)) : LetsOut Q := by
  obtain ⟨a, w, h⟩ := h
  exact ⟨a, w, h⟩
theorem wanted_none {o : Oper} (h : o.guard = none) (y : Nat → Option Bool) : Region.wanted o y = true := by simp [Region.wanted, h]
theorem ready_pop {l : List Oper} {n i : Nat} (hl : l.length = n + 1) {listed : Array Bool} (hi : i < n) : i ∈ Region.ready .any (l.take n).toArray listed ↔ i ∈ Region.ready .any l.toArray listed := by
  rw [mem_ready, mem_ready]
  have e : (l.take n).toArray[i]? = l.toArray[i]? := by simp [List.getElem?_take, hi]
  rw [e]
theorem wpAny_pop {l : List Oper} {n : Nat} (hl : l.length = n + 1) (hs : Region.sinkB .any l.toArray n = true) (hc : Region.chainB .any l.toArray n = true) (hg : ∀ o ∈ l, o.guard = none)
    (hlow : ∀ i o, l.toArray[i]? = some o → ∀ e ∈ o.after, Region.binds .any e = true → e.on < i) :
    ∀ (fuel : Nat) (listed : Array Bool) (a : Act) (w : World), HeadInv .any l.toArray n listed → wpAny P .any (l.take n).toArray (tailPost P l.toArray (l.drop n) Q) fuel listed a w → wpAny P .any l.toArray Q (fuel + 1) listed a w := by
  have hn : n < l.toArray.size := by simp; omega
  -- where none of the head may come up, all of it has
  have hall : ∀ listed, HeadInv .any l.toArray n listed → Region.ready .any (l.take n).toArray listed = [] → ∀ i, i < n → listed.getD i true = true := by
    intro listed inv hr i
    induction i using Nat.strongRecOn with
    | _ i ih =>
      intro hi
      cases h0 : listed.getD i true with
      | true => rfl
      | false =>
        have hin : i ∈ Region.ready .any l.toArray listed := by
          have hlt : i < l.toArray.size := by omega
          refine mem_ready.2 ⟨h0, l.toArray[i], Array.getElem?_eq_getElem hlt, fun e he hb => ?_⟩
          have h1 := hlow i _ (Array.getElem?_eq_getElem hlt) e he hb
          have h2 := ih e.on h1 (by omega)
          have h3 : e.on < listed.size := by rw [inv.size]; omega
          simp [h3] at h2 ⊢
          exact h2
        rw [← ready_pop hl hi, hr] at hin
        cases hin
  have hlast : ∀ listed a w, HeadInv .any l.toArray n listed → Region.ready .any (l.take n).toArray listed = [] → wpList P l.toArray Q (l.drop n) a w → ∀ f, wpAny P .any l.toArray Q (f + 1) listed a w := by
    intro listed a w inv hr h f
    have ha := hall listed inv hr
    have hnr : n ∈ Region.ready .any l.toArray listed := by
      refine mem_ready.2 ⟨inv.tail n (Nat.le_refl _) hn, l.toArray[n], Array.getElem?_eq_getElem hn, fun e he hb => ?_⟩
      have h1 := hlow n _ (Array.getElem?_eq_getElem hn) e he hb
      have h2 := ha e.on h1
      have h3 : e.on < listed.size := by rw [inv.size]; omega
      simp [h3] at h2 ⊢
      exact h2
    have honly : ∀ i ∈ Region.ready .any l.toArray listed, i = n := by
      intro i hi
      obtain ⟨h0, o, ho, _⟩ := mem_ready.1 hi
      have hlt : i < l.toArray.size := (Array.getElem?_eq_some_iff.1 ho).1
      have hlt' : i < n + 1 := by simpa [hl] using hlt
      rcases Nat.lt_or_ge i n with hi' | hi'
      · rw [ha i hi'] at h0; cases h0
      · omega
    refine ⟨fun h0 => absurd h0 (List.ne_nil_of_mem hnr), fun i hi => ?_⟩
    obtain rfl := honly i hi
    have hd : l.drop i = [l[i]'(by omega)] := by
      rw [List.drop_eq_getElem_cons (by omega), List.drop_eq_nil_of_le (by omega)]
    rw [hd] at h
    have h0 : l.toArray[i]? = some (l[i]'(by omega)) := by simp
    have hw : wpOp P l.toArray Q i (wpList P l.toArray Q []) a w := by unfold wpOp; simp only [h0]; exact h
    refine wpOp_mono (fun a' w' h' => ?_) hw
    have hnone : Region.ready .any l.toArray (listed.setIfInBounds i true) = [] := by
      refine List.eq_nil_iff_forall_not_mem.2 fun j hj => ?_
      obtain ⟨h1, o, ho, _⟩ := mem_ready.1 hj
      have hlt : j < l.toArray.size := (Array.getElem?_eq_some_iff.1 ho).1
      have hlt' : j < i + 1 := by simpa [hl] using hlt
      by_cases hji : i = j
      · subst hji
        have : i < listed.size := by rw [inv.size]; omega
        simp [this] at h1
      · rw [getD_set_ne true hji] at h1
        rw [ha j (by omega)] at h1
        cases h1
    cases f with
    | zero => exact ⟨hnone, h'⟩
    | succ f => exact ⟨fun _ => h', by rw [hnone]; simp⟩
  intro fuel
  induction fuel with
  | zero => exact fun listed a w inv h => hlast listed a w inv h.1 h.2 0
  | succ fuel ih =>
    intro listed a w inv h
    by_cases hr : Region.ready .any (l.take n).toArray listed = []
    · exact hlast listed a w inv hr (h.1 hr) (fuel + 1)
    · obtain ⟨i0, hi0⟩ := List.exists_mem_of_ne_nil _ hr
      obtain ⟨hu0, o0, ho0, _⟩ := mem_ready.1 hi0
      have hi0n : i0 < n := by
        have := (Array.getElem?_eq_some_iff.1 ho0).1
        simp at this
        omega
      have hnot := tail_waits hs hc hn inv _ i0 rfl hi0n hu0
      refine ⟨fun h0 => ?_, fun i hi => ?_⟩
      · rw [ready_pop hl hi0n, h0] at hi0
        cases hi0
      · have hin : i < n := by
          rcases Nat.lt_or_ge i n with hi' | hi'
          · exact hi'
          · exact absurd hi (hnot i hi')
        have h1 := h.2 i ((ready_pop hl hin).2 hi)
        have e : (l.take n).toArray[i]? = l.toArray[i]? := by simp [List.getElem?_take, hin]
        have hlt : i < l.toArray.size := by omega
        have hgo : (l.toArray[i]).guard = none := hg _ (by simp)
        have e2 : l.toArray[i]? = some l.toArray[i] := Array.getElem?_eq_getElem hlt
        unfold wpOp at h1 ⊢
        rw [e, e2] at h1
        rw [e2]
        simp only [wanted_none hgo, if_true] at h1 ⊢
        rcases h1 with h1 | ⟨h1, h2⟩
        · exact .inl (Oper.wp_mono (fun a' w' h' => ih _ a' w' (inv.set hi hin) h') (tail_wp h1))
        · exact .inr ⟨h1, tail_letsOut h2⟩
theorem region_pop {S : World → Prop} {id : Nat} {a : Act} {w : World} {l : List Oper} (n : Nat) (hm : P.follows .mixedOrders = true) (hB : popB l.toArray n = true)
    (h : wpAnyH P .any (l.take n).toArray (tailPost P l.toArray (l.drop n) Q) S n (Array.replicate (n + 1) false) a w.drew) : (Code.region id l.toArray true).wp P Q a w := by
  simp only [popB, Bool.and_eq_true, decide_eq_true_eq] at hB
  obtain ⟨⟨⟨⟨hz, hs⟩, hc⟩, hg⟩, hlow⟩ := hB
  have hl : l.length = n + 1 := by simpa using hz
  have inv0 : HeadInv .any l.toArray n (Array.replicate (n + 1) false) :=
    ⟨by simp [hl], fun j oj _ hx => (by rw [getD_replicate_false] at hx; cases hx), fun t _ ht => getD_in (by simpa [hl] using ht) (getD_replicate_false _ _)⟩
  refine wp_region_any hm ?_
  have hsz : l.toArray.size = n + 1 := hz
  rw [hsz]
  refine wpAny_pop hl hs hc (fun o ho => ?_) (fun i o ho e he hb => ?_) n _ a _ inv0 (wpAny_of_held _ _ _ _ h)
  · have := List.all_eq_true.1 hg o ho
    exact Option.isNone_iff_eq_none.1 this
  · have hlt : i < l.toArray.size := (Array.getElem?_eq_some_iff.1 ho).1
    have h1 := List.all_eq_true.1 hlow i (List.mem_range.2 hlt)
    rw [ho] at h1
    have h2 := List.all_eq_true.1 h1 e (Array.mem_def.1 he)
    rw [hb] at h2
    simpa using h2
end
/-! the moves, for regions written out as lists -/
section
variable {P : Program} {Q : Exit → Act → World → Prop} {S : World → Prop} {md : Region.Mode}
theorem startL {l : List Oper} {fuel : Nat} {listed : Array Bool} {a : Act} {w : World} (hS : S w) (h : S w → wpAnyH P md l.toArray Q S fuel listed a w) : wpAnyH P md l.toArray Q S fuel listed a w := h hS
theorem takeL {i : Nat} {oi : Oper} {v : Value} {l : List Oper} {fuel : Nat} {listed : Array Bool} {a : Act} {w : World} (hi : l[i]? = some oi)
    (hs : Region.noSelect l.toArray = true) (hf : Region.free md l.toArray listed i = true) (hr : (Region.ready md l.toArray listed).contains i = true)
    (hQ : ∀ c a w, Q (.panic c) (a.put oi.dst v) w → Q (.panic c) a w) (hy : YieldsIf P l.toArray S oi v a) (hS : S w)
    (h : wpAnyH P md l.toArray Q S fuel (listed.setIfInBounds i true) (a.put oi.dst v) w) : wpAnyH P md l.toArray Q S (fuel + 1) listed a w :=
  wpAnyH_take (by simpa using hi) hs hf hr hQ hy hS h
theorem onlyL {i : Nat} {oi : Oper} {l : List Oper} {fuel : Nat} {listed : Array Bool} {a : Act} {w : World} (hi : l[i]? = some oi) (hr : Region.ready md l.toArray listed = [i])
    (h : ∀ K' : Act → World → Prop, Shut (∀ a w, S w → (S w → wpAnyH P md l.toArray Q S fuel (listed.setIfInBounds i true) a w) → K' a w) → if Region.wanted oi (yielded l.toArray a.tmps) = true then Oper.wp P oi a w K' Q else K' (a.put oi.dst undef) w) :
    wpAnyH P md l.toArray Q S (fuel + 1) listed a w :=
  wpAnyH_ready hr (by simp) (AllReadyH.cons (by simpa using hi) h AllReadyH.nil)
theorem doneL {l : List Oper} {fuel : Nat} {listed : Array Bool} {a : Act} {w : World} {ops : Array Oper} {t : List Oper} (hr : Region.ready md l.toArray listed = []) (h : wpList P ops Q t a w) :
    wpAnyH P md l.toArray (tailPost P ops t Q) S fuel listed a w := wpAnyH_done hr h fuel
theorem readyL {rs : List Nat} {l : List Oper} {fuel : Nat} {listed : Array Bool} {a : Act} {w : World} (hr : Region.ready md l.toArray listed = rs) (hne : rs ≠ [])
    (h : AllReadyH P md l.toArray Q S fuel listed a w rs) : wpAnyH P md l.toArray Q S (fuel + 1) listed a w := wpAnyH_ready hr hne h
theorem allNil {l : List Oper} {fuel : Nat} {listed : Array Bool} {a : Act} {w : World} : AllReadyH P md l.toArray Q S fuel listed a w [] := AllReadyH.nil
theorem consL {i : Nat} {oi : Oper} {rs : List Nat} {l : List Oper} {fuel : Nat} {listed : Array Bool} {a : Act} {w : World} (hi : l[i]? = some oi)
    (h : ∀ K' : Act → World → Prop, Shut (∀ a w, S w → (S w → wpAnyH P md l.toArray Q S fuel (listed.setIfInBounds i true) a w) → K' a w) → if Region.wanted oi (yielded l.toArray a.tmps) = true then Oper.wp P oi a w K' Q else K' (a.put oi.dst undef) w)
    (hs : AllReadyH P md l.toArray Q S fuel listed a w rs) : AllReadyH P md l.toArray Q S fuel listed a w (i :: rs) := AllReadyH.cons (by simpa using hi) h hs
end
end Go.Proofs.Ytlmaiblfgbobnaa

/- Codes: a code if it is valid. -/
namespace Go.Proofs.Ytlmaiblfgbobnaa
set_option linter.unusedVariables false
set_option linter.unusedSimpArgs false
open Go.RowKit

def zeroC : CodeD := ⟨[], [], 0, 0, 0, 0⟩
def ifC (x : CodeD) : CodeD := if codeB x then x else zeroC
theorem ifC_yes {x : CodeD} (h : codeB x = true) : ifC x = x := if_pos h
theorem ifC_no {x : CodeD} (h : codeB x = false) : ifC x = zeroC := by unfold ifC; rw [h]; rfl
theorem zeroC_own (w : World) (base : Nat) : OwnK w base (.agg #[.slice none 0 0, .slice none 0 0, .int .i64 0, .int .i64 0, .int .i64 0, .int .i64 0]) zeroC :=
  ⟨_, _, rfl, ⟨World.ownsRow_nil _ _ _ _, fun _ h => (by cases h)⟩, World.ownsRow_nil _ _ _ _, by rw [fpA_code]; simp [fp, Value.ownBlock]⟩
theorem OwnK.base {w : World} {base base' : Nat} {v : Value} {x : CodeD} (h : OwnK w base v x) (hb : base' ≤ base) : OwnK w base' v x := by
  obtain ⟨ev, lv, rfl, h1, h2, h3⟩ := h
  exact ⟨ev, lv, rfl, ⟨own_base h1.1 hb, h1.2⟩, own_base h2 hb, h3⟩
theorem OwnK.far {w w' : World} {base base' : Nat} {v : Value} {x : CodeD} {S : List Nat} (h : OwnK w base v x) (ho : Only S w w') (hS : ∀ b ∈ S, b < base ∨ w.heap.size ≤ b) (hb : base' ≤ base) : OwnK w' base' v x :=
  OwnK.base (h.only ho (fun b hb hs => by have := h.fps b hb; have := hS b hs; omega)) hb
theorem Box.zero6 {w : World} {b : Nat} {t : TypeId} (h : Box w b t #[.slice none 0 0, .slice none 0 0, .int .i64 0, .int .i64 0, .int .i64 0, .int .i64 0]) : True := trivial
set_option maxHeartbeats 4000000 in
theorem cdIf_any (v : Value) (x : CodeD) (w : World) (base : Nat) (h : OwnK w base v x) (hbase : base ≤ w.heap.size) :
    Calls Try.prog 53 #[v] w fun e w' => ∃ v', e = .returned (.tuple #[v', .bool (codeB x)]) ∧ OwnK w' base v' (ifC x) ∧ Kept w w' := by
  have HK := Lib.hid h
  obtain ⟨ev, lv, rfl, h1, h2, _⟩ := h
  obtain ⟨A, c, rfl, _⟩ := own_form h1.1
  obtain ⟨A2, c2, rfl, _⟩ := own_form h2
  clear h1 h2
  go_enter Try.func53, Try.ntmps53
  go_wp2_with fail
  have B0 := (Box.new w w.heap.size 26 #[.slice A x.elems.length c, .slice A2 x.limits.length c2, .int .i64 x.repeats, .int .i64 x.bonus, .int .i64 x.keeps, .int .i64 x.fall] rfl).alloc (.cells #[.slice none 0 0, .slice none 0 0, .int .i64 0, .int .i64 0, .int .i64 0, .int .i64 0] 26)
  have B1 := Box.new (w.alloc (.cells #[.slice A x.elems.length c, .slice A2 x.limits.length c2, .int .i64 x.repeats, .int .i64 x.bonus, .int .i64 x.keeps, .int .i64 x.fall] 26)) (w.heap.size + 1) 26 #[.slice none 0 0, .slice none 0 0, .int .i64 0, .int .i64 0, .int .i64 0, .int .i64 0] (by simp)
  have K0 : Kept w ((w.alloc (.cells #[.slice A x.elems.length c, .slice A2 x.limits.length c2, .int .i64 x.repeats, .int .i64 x.bonus, .int .i64 x.keeps, .int .i64 x.fall] 26)).alloc (.cells #[.slice none 0 0, .slice none 0 0, .int .i64 0, .int .i64 0, .int .i64 0, .int .i64 0] 26)) := ((Kept.refl w).alloc _).alloc _
  generalize (w.alloc (.cells #[.slice A x.elems.length c, .slice A2 x.limits.length c2, .int .i64 x.repeats, .int .i64 x.bonus, .int .i64 x.keeps, .int .i64 x.fall] 26)).alloc (.cells #[.slice none 0 0, .slice none 0 0, .int .i64 0, .int .i64 0, .int .i64 0, .int .i64 0] 26) = w0 at *
  refine (cdGood_any _ x _ (HK.out.kept K0).code).mono ?_
  rintro e w1 ⟨rfl, k1⟩
  replace B0 := B0.kept k1
  replace B1 := B1.kept k1
  have K1 := K0.trans k1
  have O1 := Lib.hid (HK.out.kept K1)
  clear K0 k1
  by_cases hb : codeB x = true
  · have HB := Lib.hid hb
    rw [hb]
    clear hb
    go_upto_region 3 with (fail)
    obtain ⟨x0, y0⟩ := B0.six
    obtain ⟨x1, y1⟩ := B1.six
    go_wp2_with fail
    clear x0 y0 x1 y1
    obtain ⟨w3, hw3, B3, Q3⟩ := set6 B1 (.slice A x.elems.length c) (.slice A2 x.limits.length c2) (.int .i64 x.repeats) (.int .i64 x.bonus) (.int .i64 x.keeps) (.int .i64 x.fall)
    rw [← hw3]
    clear hw3
    obtain ⟨cc, ff⟩ := B3.six
    refine bodyPost_ret (v := .tuple #[.agg #[.slice A x.elems.length c, .slice A2 x.limits.length c2, .int .i64 x.repeats, .int .i64 x.bonus, .int .i64 x.keeps, .int .i64 x.fall], .bool true]) (by simp [results, Try.results53, go_sem, cc, ff]) rfl ⟨_, by rw [HB.out], ?_, Q3.above K1 (by simp)⟩
    rw [ifC_yes HB.out]
    exact O1.out.only Q3 (fun b hb hs => by have := HK.out.fps b hb; simp at hs; omega)
  · simp only [Bool.not_eq_true] at hb
    have HB := Lib.hid hb
    rw [hb]
    clear hb
    go_upto_region 2 with (fail)
    obtain ⟨x0, y0⟩ := B0.six
    obtain ⟨x1, y1⟩ := B1.six
    go_wp2_with fail
    clear x0 y0 x1 y1
    obtain ⟨w3, hw3, B3, Q3⟩ := set6 B1 (.slice none 0 0) (.slice none 0 0) (.int .i64 0) (.int .i64 0) (.int .i64 0) (.int .i64 0)
    rw [← hw3]
    clear hw3
    obtain ⟨cc, ff⟩ := B3.six
    refine bodyPost_ret (v := .tuple #[.agg #[.slice none 0 0, .slice none 0 0, .int .i64 0, .int .i64 0, .int .i64 0, .int .i64 0], .bool false]) (by simp [results, Try.results53, go_sem, cc, ff]) rfl ⟨_, by rw [HB.out], ?_, Q3.above K1 (by simp)⟩
    rw [ifC_no HB.out]
    exact zeroC_own _ _
set_option maxHeartbeats 4000000 in
theorem asCode_any (v ev : Value) (x : CodeD) (es : List ElemD) (w : World) (base : Nat) (h : CodeAt w v x) (he : OwnE w base ev es) (hbase : base ≤ w.heap.size) (hm : x.limits.length ≤ 1048576) :
    Calls Try.prog 49 #[v, ev] w fun e w' => ∃ v', e = .returned (.tuple #[v', .bool (codeB { x with elems := es })]) ∧ OwnK w' base v' (ifC { x with elems := es }) ∧ Kept w w' := by
  obtain ⟨nv, lv, rfl, h1, h2⟩ := h
  obtain ⟨A, c, rfl, _⟩ := own_form he.1
  obtain ⟨A1, c1, rfl, _⟩ := h1.1.out
  obtain ⟨A2, c2, rfl, _⟩ := h2.out
  have HE := Lib.hid he
  have H2 := Lib.hid h2
  clear h1 h2 he
  go_enter Try.func49, Try.ntmps49
  go_wp2_with fail
  have B0 := (Box.new w w.heap.size 26 #[.slice A es.length c, .slice A2 x.limits.length c2, .int .i64 x.repeats, .int .i64 x.bonus, .int .i64 x.keeps, .int .i64 x.fall] rfl).alloc (.cells #[.slice none 0 0, .slice none 0 0, .int .i64 0, .int .i64 0, .int .i64 0, .int .i64 0] 26)
  have B1 := Box.new (w.alloc (.cells #[.slice A es.length c, .slice A2 x.limits.length c2, .int .i64 x.repeats, .int .i64 x.bonus, .int .i64 x.keeps, .int .i64 x.fall] 26)) (w.heap.size + 1) 26 #[.slice none 0 0, .slice none 0 0, .int .i64 0, .int .i64 0, .int .i64 0, .int .i64 0] (by simp)
  have K0 : Kept w ((w.alloc (.cells #[.slice A es.length c, .slice A2 x.limits.length c2, .int .i64 x.repeats, .int .i64 x.bonus, .int .i64 x.keeps, .int .i64 x.fall] 26)).alloc (.cells #[.slice none 0 0, .slice none 0 0, .int .i64 0, .int .i64 0, .int .i64 0, .int .i64 0] 26)) := ((Kept.refl w).alloc _).alloc _
  generalize (w.alloc (.cells #[.slice A es.length c, .slice A2 x.limits.length c2, .int .i64 x.repeats, .int .i64 x.bonus, .int .i64 x.keeps, .int .i64 x.fall] 26)).alloc (.cells #[.slice none 0 0, .slice none 0 0, .int .i64 0, .int .i64 0, .int .i64 0, .int .i64 0] 26) = w0 at *
  have hzw : w.heap.size + 1 < w0.heap.size := B1.lt
  refine (copyInts_any _ x.limits _ (H2.out.kept K0) hm).mono ?_
  rintro e w1 ⟨v1, rfl, o1, k1⟩
  obtain ⟨A3, c3, rfl, _⟩ := own_form o1
  replace B0 := B0.kept k1
  replace B1 := B1.kept k1
  have K1 := K0.trans k1
  have O1 := Lib.hid o1
  have OE := Lib.hid (HE.out.kept K1)
  have hz0 : w.heap.size + 1 < w1.heap.size := B1.lt
  have hz1 := k1.size
  clear K0 k1 o1
  obtain ⟨x0, y0⟩ := B0.six
  go_upto_region 3 with (fail)
  clear x0 y0
  obtain ⟨w2, hw2⟩ : ∃ w2, w2 = w1.setCell ⟨w.heap.size, 1, none⟩ (.slice A3 x.limits.length c3) := ⟨_, rfl⟩
  rw [← hw2]
  have Q2 : Only [w.heap.size] w1 w2 := by rw [hw2]; exact Only.setCell (Only.refl _ _) (by simp) _
  replace B0 : Box w2 w.heap.size 26 #[.slice A es.length c, .slice A3 x.limits.length c3, .int .i64 x.repeats, .int .i64 x.bonus, .int .i64 x.keeps, .int .i64 x.fall] := hw2 ▸ B0.set 1 _
  replace B1 := B1.only Q2 (by simp)
  have F1 := Lib.hid (own_fp HE.out.1)
  have F2 := Lib.hid (own_fp O1.out)
  have OK : OwnK w2 base (.agg #[.slice A es.length c, .slice A3 x.limits.length c3, .int .i64 x.repeats, .int .i64 x.bonus, .int .i64 x.keeps, .int .i64 x.fall]) { x with elems := es } := by
    refine ⟨_, _, rfl, OE.out.only Q2 (fun b hb hs => ?_), OwnI.base (O1.out.only Q2 (fun b hb hs => ?_)) (by omega), ?_⟩
    · have := F1.out b hb; simp at hs; omega
    · have := F2.out b hb; simp at hs; omega
    · rw [fpA_code]
      exact nodup_fp (m := w.heap.size) (fun y hy => (F1.out y hy).2) (fun y hy => by have := F2.out y hy; omega)
  have K2 : Kept w w2 := Q2.above K1 (by simp)
  have HK := Lib.hid OK
  have hz2 := Q2.size
  clear hw2 OE O1 F1 OK
  obtain ⟨x0, y0⟩ := B0.six
  go_wp2_with fail
  clear x0 y0
  refine (isCode_any _ { x with elems := es } _ HK.out.code).mono ?_
  rintro e w4 ⟨rfl, k4⟩
  replace B0 := B0.kept k4
  replace B1 := B1.kept k4
  have K4 := K2.trans k4
  have O4 := Lib.hid (HK.out.kept k4)
  clear k4
  have hz4 := K4.size
  have hne : ∀ b ∈ fpA (.agg #[.slice A es.length c, .slice A3 x.limits.length c3, .int .i64 x.repeats, .int .i64 x.bonus, .int .i64 x.keeps, .int .i64 x.fall]), b ≠ w.heap.size + 1 := by
    intro b hb e
    subst e
    rw [fpA_code] at hb
    rcases List.mem_append.1 hb with hb | hb
    · have := (own_fp HE.out.1 _ hb).2; omega
    · have := F2.out _ hb; omega
  have HNE := Lib.hid hne
  clear hne
  by_cases hb : codeB { x with elems := es } = true
  · have HB := Lib.hid hb
    rw [hb]
    clear hb
    go_upto_region 5 with (fail)
    obtain ⟨x0, y0⟩ := B0.six
    obtain ⟨x1, y1⟩ := B1.six
    go_wp2_with fail
    clear x0 y0 x1 y1
    obtain ⟨w3, hw3, B3, Q3⟩ := set6 B1 (.slice A es.length c) (.slice A3 x.limits.length c3) (.int .i64 x.repeats) (.int .i64 x.bonus) (.int .i64 x.keeps) (.int .i64 x.fall)
    rw [← hw3]
    clear hw3
    obtain ⟨cc, ff⟩ := B3.six
    refine bodyPost_ret (v := .tuple #[.agg #[.slice A es.length c, .slice A3 x.limits.length c3, .int .i64 x.repeats, .int .i64 x.bonus, .int .i64 x.keeps, .int .i64 x.fall], .bool true]) (by simp [results, Try.results49, go_sem, cc, ff]) rfl ⟨_, by rw [HB.out], ?_, Q3.above K4 (by simp)⟩
    rw [ifC_yes HB.out]
    exact O4.out.only Q3 (fun b hb hs => HNE.out b hb (by simpa using hs))
  · simp only [Bool.not_eq_true] at hb
    have HB := Lib.hid hb
    rw [hb]
    clear hb
    go_upto_region 4 with (fail)
    obtain ⟨x0, y0⟩ := B0.six
    obtain ⟨x1, y1⟩ := B1.six
    go_wp2_with fail
    clear x0 y0 x1 y1
    obtain ⟨w3, hw3, B3, Q3⟩ := set6 B1 (.slice none 0 0) (.slice none 0 0) (.int .i64 0) (.int .i64 0) (.int .i64 0) (.int .i64 0)
    rw [← hw3]
    clear hw3
    obtain ⟨cc, ff⟩ := B3.six
    refine bodyPost_ret (v := .tuple #[.agg #[.slice none 0 0, .slice none 0 0, .int .i64 0, .int .i64 0, .int .i64 0, .int .i64 0], .bool false]) (by simp [results, Try.results49, go_sem, cc, ff]) rfl ⟨_, by rw [HB.out], ?_, Q3.above K4 (by simp)⟩
    rw [ifC_no HB.out]
    exact zeroC_own _ _
theorem asCode_is (X : CodeD) (bb : Bool) (v ev : Value) (x : CodeD) (es : List ElemD) (w : World) (base : Nat) (hX : ifC { x with elems := es } = X) (hb : codeB { x with elems := es } = bb) (h : CodeAt w v x) (he : OwnE w base ev es) (hbase : base ≤ w.heap.size) (hm : x.limits.length ≤ 1048576) :
    Calls Try.prog 49 #[v, ev] w fun e w' => ∃ v', e = .returned (.tuple #[v', .bool bb]) ∧ OwnK w' base v' X ∧ Kept w w' := by
  subst hX hb
  exact asCode_any v ev x es w base h he hbase hm
theorem cdIf_is (X : CodeD) (bb : Bool) (v : Value) (x : CodeD) (w : World) (base : Nat) (hX : ifC x = X) (hb : codeB x = bb) (h : OwnK w base v x) (hbase : base ≤ w.heap.size) :
    Calls Try.prog 53 #[v] w fun e w' => ∃ v', e = .returned (.tuple #[v', .bool bb]) ∧ OwnK w' base v' X ∧ Kept w w' := by
  subst hX hb
  exact cdIf_any v x w base h hbase
end Go.Proofs.Ytlmaiblfgbobnaa

/- Codes: ScaleCode. -/
namespace Go.Proofs.Ytlmaiblfgbobnaa
set_option linter.unusedVariables false
set_option linter.unusedSimpArgs false
open Go.RowKit

def scaleE (p : Int) (y : ElemD) : ElemD := { y with base := max (y.base * p / 100) 1 }
def scaleC (x : CodeD) (p : Int) : CodeD := { x with elems := x.elems.map (scaleE p) }
def scOk (x : CodeD) (p : Int) : Bool := codeB x && inB p 1 200
def scB (x : CodeD) (p : Int) : Bool := scOk x p && codeB (scaleC x p)
def scV (x : CodeD) (p : Int) : CodeD := if scOk x p then ifC (scaleC x p) else zeroC
theorem scV_no {x : CodeD} {p : Int} (h : scOk x p = false) : scV x p = zeroC := by unfold scV; rw [h]; rfl
theorem scV_yes {x : CodeD} {p : Int} (h : scOk x p = true) : scV x p = ifC (scaleC x p) := if_pos h
theorem scB_no {x : CodeD} {p : Int} (h : scOk x p = false) : scB x p = false := by unfold scB; rw [h]; rfl
theorem scB_yes {x : CodeD} {p : Int} (h : scOk x p = true) : scB x p = codeB (scaleC x p) := by unfold scB; rw [h, Bool.true_and]
theorem sc_code {x : CodeD} {p : Int} (h : scOk x p = true) : codeB x = true := by unfold scOk at h; rw [Bool.and_eq_true] at h; exact h.1
theorem sc_in {x : CodeD} {p : Int} (h : scOk x p = true) : inB p 1 200 = true := by unfold scOk at h; rw [Bool.and_eq_true] at h; exact h.2
theorem ifC_len (x : CodeD) : (ifC x).elems.length ≤ 24 ∧ (ifC x).limits.length ≤ 5 := by
  by_cases h : codeB x = true
  · rw [ifC_yes h]
    have := codeB_heads h
    omega
  · simp only [Bool.not_eq_true] at h
    rw [ifC_no h]
    exact ⟨by simp [zeroC], by simp [zeroC]⟩
theorem scV_len (x : CodeD) (p : Int) : (scV x p).elems.length ≤ 24 ∧ (scV x p).limits.length ≤ 5 := by
  by_cases h : scOk x p = true
  · rw [scV_yes h]; exact ifC_len _
  · simp only [Bool.not_eq_true] at h
    rw [scV_no h]
    exact ⟨by simp [zeroC], by simp [zeroC]⟩
theorem elems_one {w : World} {g : Nat} {t : TypeId} (y : ElemD) (h : Box w g t #[.string y.name, .int .i64 y.family, .int .i64 y.level, .int .i64 y.base]) (hs : y.name.size ≤ maxLen) : Elems w (.slice (some ⟨g, 0, none⟩) 1 1) [y] := by
  refine ⟨⟨_, 1, rfl, Nat.le_refl _, by unfold maxLen; simp, (fun h => by cases h), fun _ => ⟨g, 0, rfl, h.lt, ?_⟩⟩, ?_⟩
  · intro j u hu
    rw [Nat.zero_add, h.cell j]
    simp only [List.flatMap_cons, List.flatMap_nil, List.append_nil, cells4] at hu
    rw [← hu]
    rw [← Array.getElem?_toList]
  · intro e he
    simp at he
    subst he
    exact hs
theorem OwnE.base {w : World} {base base' : Nat} {v : Value} {es : List ElemD} (h : OwnE w base v es) (hb : base' ≤ base) : OwnE w base' v es := ⟨own_base h.1 hb, h.2⟩
theorem mul_bds {a b A B : Int} (h1 : 0 ≤ a) (h2 : a ≤ A) (h3 : 0 ≤ b) (h4 : b ≤ B) : 0 ≤ a * b ∧ a * b ≤ A * B :=
  ⟨Int.mul_nonneg h1 h3, Int.mul_le_mul h2 h4 h3 (by omega)⟩
set_option maxRecDepth 100000 in
set_option maxHeartbeats 4000000 in
theorem scaleCode_any (v : Value) (x : CodeD) (p : Int) (w : World) (h : CodeAt w v x) :
    Calls Try.prog 13 #[v, .int .i64 p] w fun e w' => ∃ v', e = .returned (.tuple #[v', .bool (scB x p)]) ∧ OwnK w' w.heap.size v' (scV x p) ∧ Kept w w' := by
  have h0 := h
  obtain ⟨nv, mv, rfl, q1, q2⟩ := h
  obtain ⟨A, c, rfl, hnc, hcm, hl⟩ := q1.1.out
  obtain ⟨A2, c2, rfl, _, _, _⟩ := q2.out
  unfold maxLen at hcm
  have HL := Lib.hid hl
  have HS := Lib.hid q1.2
  have H0 := Lib.hid h0
  clear h0 q1 q2 hl
  go_enter Try.func13, Try.ntmps13
  go_wp2_with fail
  have B0 := (Box.new w w.heap.size 26 #[.slice A x.elems.length c, .slice A2 x.limits.length c2, .int .i64 x.repeats, .int .i64 x.bonus, .int .i64 x.keeps, .int .i64 x.fall] rfl).alloc (.cells #[.slice none 0 0, .slice none 0 0, .int .i64 0, .int .i64 0, .int .i64 0, .int .i64 0] 26)
  have B1 := Box.new (w.alloc (.cells #[.slice A x.elems.length c, .slice A2 x.limits.length c2, .int .i64 x.repeats, .int .i64 x.bonus, .int .i64 x.keeps, .int .i64 x.fall] 26)) (w.heap.size + 1) 26 #[.slice none 0 0, .slice none 0 0, .int .i64 0, .int .i64 0, .int .i64 0, .int .i64 0] (by simp)
  have K0 : Kept w ((w.alloc (.cells #[.slice A x.elems.length c, .slice A2 x.limits.length c2, .int .i64 x.repeats, .int .i64 x.bonus, .int .i64 x.keeps, .int .i64 x.fall] 26)).alloc (.cells #[.slice none 0 0, .slice none 0 0, .int .i64 0, .int .i64 0, .int .i64 0, .int .i64 0] 26)) := ((Kept.refl w).alloc _).alloc _
  generalize (w.alloc (.cells #[.slice A x.elems.length c, .slice A2 x.limits.length c2, .int .i64 x.repeats, .int .i64 x.bonus, .int .i64 x.keeps, .int .i64 x.fall] 26)).alloc (.cells #[.slice none 0 0, .slice none 0 0, .int .i64 0, .int .i64 0, .int .i64 0, .int .i64 0] 26) = w0 at *
  have hzw : w.heap.size + 1 < w0.heap.size := B1.lt
  refine (isCode_any _ x _ (H0.out.kept K0)).mono ?_
  rintro e w1 ⟨rfl, k1⟩
  replace B0 := B0.kept k1
  replace B1 := B1.kept k1
  have K1 := K0.trans k1
  have hz1 := k1.size
  clear K0 k1
  by_cases hb : scOk x p = true
  case neg =>
    simp only [Bool.not_eq_true] at hb
    have HB := Lib.hid hb
    by_cases hc : codeB x = true
    · rw [hc]
      unfold scOk at hb
      rw [hc, Bool.true_and] at hb
      go_upto_region 2 with (go_at_call 48; refine (within_any _ _ _ _).mono ?_; rintro e w' ⟨rfl, rfl⟩)
      obtain ⟨x1, y1⟩ := B1.six
      go_wp2_with fail
      clear x1 y1
      obtain ⟨w3, hw3, B3, Q3⟩ := set6 B1 (.slice none 0 0) (.slice none 0 0) (.int .i64 0) (.int .i64 0) (.int .i64 0) (.int .i64 0)
      rw [← hw3]
      clear hw3
      obtain ⟨cc, ff⟩ := B3.six
      exact bodyPost_ret (v := .tuple #[.agg #[.slice none 0 0, .slice none 0 0, .int .i64 0, .int .i64 0, .int .i64 0, .int .i64 0], .bool false]) (by simp [results, Try.results13, go_sem, cc, ff]) rfl ⟨_, by rw [scB_no HB.out], by rw [scV_no HB.out]; exact zeroC_own _ _, Q3.above K1 (by simp)⟩
    · simp only [Bool.not_eq_true] at hc
      rw [hc]
      clear hb
      go_upto_region 2 with (fail)
      obtain ⟨x1, y1⟩ := B1.six
      go_wp2_with fail
      clear x1 y1
      obtain ⟨w3, hw3, B3, Q3⟩ := set6 B1 (.slice none 0 0) (.slice none 0 0) (.int .i64 0) (.int .i64 0) (.int .i64 0) (.int .i64 0)
      rw [← hw3]
      clear hw3
      obtain ⟨cc, ff⟩ := B3.six
      exact bodyPost_ret (v := .tuple #[.agg #[.slice none 0 0, .slice none 0 0, .int .i64 0, .int .i64 0, .int .i64 0, .int .i64 0], .bool false]) (by simp [results, Try.results13, go_sem, cc, ff]) rfl ⟨_, by rw [scB_no HB.out], by rw [scV_no HB.out]; exact zeroC_own _ _, Q3.above K1 (by simp)⟩
  have hc : codeB x = true := sc_code hb
  have hd : inB p 1 200 = true := sc_in hb
  have hp := inB_true hd
  have hl24 := (codeB_heads hc).1.2
  have hl5 : x.limits.length ≤ 5 := Nat.le_of_eq (codeB_heads hc).2
  have HB := Lib.hid hb
  clear hb
  rw [hc]
  clear hc
  have hzb : w.heap.size < w1.heap.size := B0.lt
  obtain ⟨x0, y0⟩ := B0.six
  go_wp2_with (go_at_call 48; refine (within_any _ _ _ _).mono ?_; rintro e w' ⟨rfl, rfl⟩)
  clear x0 y0 hd
  go_loopw [6, 22] (fun q i wr => ∃ k : Nat, k ≤ x.elems.length ∧ i = .int .i64 k ∧ OwnE wr w1.heap.size q ((x.elems.take k).map (scaleE p)) ∧ Kept w1 wr) (fun _ i _ => x.elems.length - (intOf i).toNat)
  case atStart => exact ⟨0, Nat.zero_le _, rfl, ⟨own_made _ _ 4 (Nat.le_refl _) (Box.new _ _ _ _ rfl), (fun _ h => by cases h)⟩, (Kept.refl _).alloc _⟩
  case round =>
    obtain ⟨k, hk, rfl, ho, hkept⟩ := hrel
    have HO := Lib.hid ho
    have hsz := hkept.size
    clear ho
    by_cases hlt : k < x.elems.length
    · obtain ⟨b, o, y, rfl, hb', h2, q0, q1, q2, q3⟩ := elems_at (HL.out.kept (K1.trans hkept)) hlt
      have hys := HS.out y (List.mem_of_getElem? h2)
      obtain ⟨_, _, hy1, hy2⟩ := elemB_parts (codeB_elem (sc_code HB.out) h2)
      obtain ⟨m1, m2⟩ := mul_bds (a := y.base) (b := p) (A := 2000) (B := 200) (by omega) hy2 (by omega) hp.2
      replace m2 : y.base * p ≤ 400000 := m2
      have HT := Lib.hid (take_snoc h2)
      have hlt3 : ((x.elems.take k).map (scaleE p)).length ≤ x.elems.length := by rw [List.length_map, List.length_take]; omega
      clear h2
      by_cases hm : y.base * p / 100 < 1
      · have HE : Hid (scaleE p y = { y with base := 1 }) := by unfold scaleE; rw [show max (y.base * p / 100) 1 = 1 from by omega]; rfl
        go_wp2_with (at_builtin; refine wpList_append_E _ rfl _ _ rfl w1.heap.size _ ((x.elems.take k).map (scaleE p)) rfl ((HO.out.kept ((Kept.refl _).alloc _)).kept ((Kept.refl _).alloc _)) _ [{ y with base := 1 }] rfl (elems_one { y with base := 1 } (Box.new _ _ _ _ (by simp)) hys) (by simp; omega) (by simp; omega) ?_; intro v' w' ho' hg)
        have kg := ((hkept.alloc _).alloc _).grew ((HO.out.kept ((Kept.refl _).alloc _)).kept ((Kept.refl _).alloc _)).1 hg (Nat.le_refl _)
        have HO' := Lib.hid ho'
        clear ho' hg
        go_wp2_with fail
        go_roundw
        case rel => exact ⟨k + 1, by omega, by go_num, by rw [HT.out, List.map_append, List.map_cons, List.map_nil, HE.out]; exact HO'.out, kg⟩
        case measure => simp [intOf]; omega
      · have HE : Hid (scaleE p y = { y with base := y.base * p / 100 }) := by unfold scaleE; rw [show max (y.base * p / 100) 1 = y.base * p / 100 from by omega]; rfl
        go_wp2_with (at_builtin; refine wpList_append_E _ rfl _ _ rfl w1.heap.size _ ((x.elems.take k).map (scaleE p)) rfl ((HO.out.kept ((Kept.refl _).alloc _)).kept ((Kept.refl _).alloc _)) _ [{ y with base := y.base * p / 100 }] rfl (elems_one { y with base := y.base * p / 100 } (Box.new _ _ _ _ (by simp)) hys) (by simp; omega) (by simp; omega) ?_; intro v' w' ho' hg)
        have kg := ((hkept.alloc _).alloc _).grew ((HO.out.kept ((Kept.refl _).alloc _)).kept ((Kept.refl _).alloc _)).1 hg (Nat.le_refl _)
        have HO' := Lib.hid ho'
        clear ho' hg
        go_wp2_with fail
        go_roundw
        case rel => exact ⟨k + 1, by omega, by go_num, by rw [HT.out, List.map_append, List.map_cons, List.map_nil, HE.out]; exact HO'.out, kg⟩
        case measure => simp [intOf]; omega
    · obtain rfl : k = x.elems.length := by omega
      have K2 := K1.trans hkept
      replace B0 := B0.kept hkept
      replace B1 := B1.kept hkept
      have ho2 := HO.out
      rw [List.take_length] at ho2
      have HO2 := Lib.hid (ho2.base (base' := w1.heap.size) (Nat.le_refl _))
      clear ho2
      obtain ⟨x0, y0⟩ := B0.six
      go_wp2_with fail
      clear x0 y0
      obtain ⟨X, hX⟩ : ∃ X, ifC (scaleC x p) = X := ⟨_, rfl⟩
      obtain ⟨bb, hbb⟩ : ∃ bb, codeB (scaleC x p) = bb := ⟨_, rfl⟩
      have HX := Lib.hid hX
      have HBB := Lib.hid hbb
      clear hX hbb
      refine (asCode_is X bb _ _ x (x.elems.map (scaleE p)) _ w1.heap.size HX.out HBB.out (H0.out.kept K2) HO2.out hsz (by omega)).mono ?_
      rintro e w4 ⟨v4, rfl, o4, k4⟩
      replace B1 := B1.kept k4
      have K4 := K2.trans k4
      have HNE : Hid (∀ b ∈ fpA v4, b ≠ w.heap.size + 1) := fun b hb e => by have := o4.fps b hb; omega
      replace o4 := o4.base (base' := w.heap.size) (by omega)
      clear HO HO2
      have FR := Lib.hid (o4.fps)
      obtain ⟨na, ma, rfl, pa, qa, nda⟩ := o4
      obtain ⟨Aa, ca, rfl, _⟩ := own_form pa.1
      obtain ⟨Da, da, rfl, _⟩ := own_form qa
      have OR : Hid (OwnK w4 w.heap.size (.agg #[.slice Aa X.elems.length ca, .slice Da X.limits.length da, .int .i64 X.repeats, .int .i64 X.bonus, .int .i64 X.keeps, .int .i64 X.fall]) (X)) := ⟨_, _, rfl, pa, qa, nda⟩
      clear pa qa nda
      obtain ⟨x1, y1⟩ := B1.six
      go_wp2_with fail
      clear x1 y1
      obtain ⟨w9, hw9, B9, Q9⟩ := set6 B1 (.slice Aa X.elems.length ca) (.slice Da X.limits.length da) (.int .i64 X.repeats) (.int .i64 X.bonus) (.int .i64 X.keeps) (.int .i64 X.fall)
      rw [← hw9]
      clear hw9
      obtain ⟨cc, ff⟩ := B9.six
      refine bodyPost_ret (v := .tuple #[.agg #[.slice Aa X.elems.length ca, .slice Da X.limits.length da, .int .i64 X.repeats, .int .i64 X.bonus, .int .i64 X.keeps, .int .i64 X.fall], .bool bb]) (by simp [results, Try.results13, go_sem, cc, ff]) rfl ⟨_, by rw [scB_yes HB.out, HBB.out], ?_, Q9.above K4 (by simp)⟩
      rw [scV_yes HB.out, HX.out]
      exact OR.out.only Q9 (fun b hb hs => HNE.out b hb (by simpa using hs))
theorem flat_set3 : ∀ (l : List ElemD) (k : Nat) (y : ElemD) (b : Int), l[k]? = some y → (l.flatMap cells4).set (k * 4 + 3) (.int .i64 b) = (l.set k { y with base := b }).flatMap cells4
  | [], _, _, _, h => by simp at h
  | x :: l, 0, y, b, h => by
    simp at h
    subst h
    simp [cells4]
  | x :: l, k + 1, y, b, h => by
    simp only [List.getElem?_cons_succ] at h
    rw [List.flatMap_cons, List.set_cons_succ, List.flatMap_cons, List.set_append_right _ _ (by simp [cells4]; omega), ← flat_set3 l k y b h]
    congr 2
    simp [cells4]
    omega
def scTo (es : List ElemD) (p : Int) (k : Nat) : List ElemD := (es.take k).map (scaleE p) ++ es.drop k
theorem scTo_len (es : List ElemD) (p : Int) (k : Nat) : (scTo es p k).length = es.length := by
  unfold scTo
  rw [List.length_append, List.length_map, List.length_take, List.length_drop]
  omega
theorem scTo_get {es : List ElemD} {p : Int} {k : Nat} {y : ElemD} (h : es[k]? = some y) : (scTo es p k)[k]? = some y := by
  have hk := (List.getElem?_eq_some_iff.1 h).1
  unfold scTo
  rw [List.getElem?_append_right (by rw [List.length_map, List.length_take]; omega), List.length_map, List.length_take, List.getElem?_drop, ← h]
  congr 1
  omega
theorem scTo_succ {es : List ElemD} {p : Int} {k : Nat} {y : ElemD} (h : es[k]? = some y) : scTo es p (k + 1) = (scTo es p k).set k (scaleE p y) := by
  have hk := (List.getElem?_eq_some_iff.1 h).1
  unfold scTo
  rw [take_snoc h, List.map_append, List.set_append_right _ _ (by rw [List.length_map, List.length_take]; omega), List.length_map, List.length_take]
  rw [show k - min k es.length = 0 from by omega, List.drop_eq_getElem_cons hk, List.set_cons_zero, List.map_cons, List.map_nil, List.append_assoc]
  rfl
theorem scTo_zero (es : List ElemD) (p : Int) : scTo es p 0 = es := by simp [scTo]
theorem scTo_full (es : List ElemD) (p : Int) : scTo es p es.length = es.map (scaleE p) := by simp [scTo]
set_option maxRecDepth 100000 in
set_option maxHeartbeats 4000000 in
theorem specScaleCode_any (v : Value) (x : CodeD) (p : Int) (w : World) (h : CodeAt w v x) :
    Calls Try.prog 14 #[v, .int .i64 p] w fun e w' => ∃ v', e = .returned (.tuple #[v', .bool (scB x p)]) ∧ OwnK w' w.heap.size v' (scV x p) ∧ Kept w w' := by
  have h0 := h
  obtain ⟨nv, mv, rfl, q1, q2⟩ := h
  obtain ⟨A, c, rfl, hnc, hcm, hl⟩ := q1.1.out
  obtain ⟨A2, c2, rfl, _, _, _⟩ := q2.out
  unfold maxLen at hcm
  have HL := Lib.hid hl
  have HS := Lib.hid q1.2
  have H0 := Lib.hid h0
  clear h0 q1 q2 hl
  go_enter Try.func14, Try.ntmps14
  go_wp2_with fail
  have B0 := (Box.new w w.heap.size 26 #[.slice A x.elems.length c, .slice A2 x.limits.length c2, .int .i64 x.repeats, .int .i64 x.bonus, .int .i64 x.keeps, .int .i64 x.fall] rfl).alloc (.cells #[.slice none 0 0, .slice none 0 0, .int .i64 0, .int .i64 0, .int .i64 0, .int .i64 0] 26)
  have B1 := Box.new (w.alloc (.cells #[.slice A x.elems.length c, .slice A2 x.limits.length c2, .int .i64 x.repeats, .int .i64 x.bonus, .int .i64 x.keeps, .int .i64 x.fall] 26)) (w.heap.size + 1) 26 #[.slice none 0 0, .slice none 0 0, .int .i64 0, .int .i64 0, .int .i64 0, .int .i64 0] (by simp)
  have K0 : Kept w ((w.alloc (.cells #[.slice A x.elems.length c, .slice A2 x.limits.length c2, .int .i64 x.repeats, .int .i64 x.bonus, .int .i64 x.keeps, .int .i64 x.fall] 26)).alloc (.cells #[.slice none 0 0, .slice none 0 0, .int .i64 0, .int .i64 0, .int .i64 0, .int .i64 0] 26)) := ((Kept.refl w).alloc _).alloc _
  generalize (w.alloc (.cells #[.slice A x.elems.length c, .slice A2 x.limits.length c2, .int .i64 x.repeats, .int .i64 x.bonus, .int .i64 x.keeps, .int .i64 x.fall] 26)).alloc (.cells #[.slice none 0 0, .slice none 0 0, .int .i64 0, .int .i64 0, .int .i64 0, .int .i64 0] 26) = w0 at *
  have hzw : w.heap.size + 1 < w0.heap.size := B1.lt
  refine (cdGood_any _ x _ (H0.out.kept K0)).mono ?_
  rintro e w1 ⟨rfl, k1⟩
  replace B0 := B0.kept k1
  replace B1 := B1.kept k1
  have K1 := K0.trans k1
  have hz1 := k1.size
  clear K0 k1
  by_cases hb : scOk x p = true
  case neg =>
    simp only [Bool.not_eq_true] at hb
    have HB := Lib.hid hb
    by_cases hc : codeB x = true
    · rw [hc]
      unfold scOk at hb
      rw [hc, Bool.true_and] at hb
      go_upto_region 2 with (go_at_call 51; refine (l1In_any _ _ _ _).mono ?_; rintro e w' ⟨rfl, rfl⟩)
      obtain ⟨x1, y1⟩ := B1.six
      go_wp2_with fail
      clear x1 y1
      obtain ⟨w3, hw3, B3, Q3⟩ := set6 B1 (.slice none 0 0) (.slice none 0 0) (.int .i64 0) (.int .i64 0) (.int .i64 0) (.int .i64 0)
      rw [← hw3]
      clear hw3
      obtain ⟨cc, ff⟩ := B3.six
      exact bodyPost_ret (v := .tuple #[.agg #[.slice none 0 0, .slice none 0 0, .int .i64 0, .int .i64 0, .int .i64 0, .int .i64 0], .bool false]) (by simp [results, Try.results14, go_sem, cc, ff]) rfl ⟨_, by rw [scB_no HB.out], by rw [scV_no HB.out]; exact zeroC_own _ _, Q3.above K1 (by simp)⟩
    · simp only [Bool.not_eq_true] at hc
      rw [hc]
      clear hb
      go_upto_region 2 with (fail)
      obtain ⟨x1, y1⟩ := B1.six
      go_wp2_with fail
      clear x1 y1
      obtain ⟨w3, hw3, B3, Q3⟩ := set6 B1 (.slice none 0 0) (.slice none 0 0) (.int .i64 0) (.int .i64 0) (.int .i64 0) (.int .i64 0)
      rw [← hw3]
      clear hw3
      obtain ⟨cc, ff⟩ := B3.six
      exact bodyPost_ret (v := .tuple #[.agg #[.slice none 0 0, .slice none 0 0, .int .i64 0, .int .i64 0, .int .i64 0, .int .i64 0], .bool false]) (by simp [results, Try.results14, go_sem, cc, ff]) rfl ⟨_, by rw [scB_no HB.out], by rw [scV_no HB.out]; exact zeroC_own _ _, Q3.above K1 (by simp)⟩
  have hc : codeB x = true := sc_code hb
  have hd : inB p 1 200 = true := sc_in hb
  have hp := inB_true hd
  have hl24 := (codeB_heads hc).1.2
  have hl1 := (codeB_heads hc).1.1
  have hl5 : x.limits.length ≤ 5 := Nat.le_of_eq (codeB_heads hc).2
  have HB := Lib.hid hb
  clear hb
  rw [hc]
  clear hc
  have hzb : w.heap.size < w1.heap.size := B0.lt
  obtain ⟨x0, y0⟩ := B0.six
  go_wp2_with (first | (go_at_call 51; refine (l1In_any _ _ _ _).mono ?_; rintro e w' ⟨rfl, rfl⟩) | fail)
  clear x0 y0 hd
  refine (cdOwn_any _ x _ (H0.out.kept K1) (by omega) (by omega)).mono ?_
  rintro e w2 ⟨v2, rfl, o2, k2⟩
  have F2 := Lib.hid o2.fps
  obtain ⟨n2, m2, rfl, p2, q2, nd2⟩ := o2
  obtain ⟨A3, c3, rfl, _, _, hA3⟩ := own_form p2.1
  obtain ⟨A4, c4, rfl, _⟩ := own_form q2
  obtain ⟨g, rfl⟩ := hA3 (by omega)
  have P2 := Lib.hid p2
  have Q2 := Lib.hid q2
  have ND := Lib.hid nd2
  clear p2 q2 nd2
  replace B0 := B0.kept k2
  replace B1 := B1.kept k2
  have K2 := K1.trans k2
  have hz2 := k2.size
  have hzb2 : w.heap.size < w2.heap.size := B0.lt
  obtain ⟨x0, y0⟩ := B0.six
  go_wp2_with fail
  clear x0 y0
  obtain ⟨w3, hw3⟩ : ∃ w' : World, w' = w2.alloc (.cells #[.slice (some ⟨g, 0, none⟩) x.elems.length c3, .slice A4 x.limits.length c4, .int .i64 x.repeats, .int .i64 x.bonus, .int .i64 x.keeps, .int .i64 x.fall] 26) := ⟨_, rfl⟩
  rw [← hw3]
  have k3 : Kept w2 w3 := hw3 ▸ (Kept.refl w2).alloc _
  have B6 : Box w3 w2.heap.size 26 #[.slice (some ⟨g, 0, none⟩) x.elems.length c3, .slice A4 x.limits.length c4, .int .i64 x.repeats, .int .i64 x.bonus, .int .i64 x.keeps, .int .i64 x.fall] := hw3 ▸ Box.new w2 w2.heap.size 26 _ rfl
  clear hw3
  replace B0 := B0.kept k3
  replace B1 := B1.kept k3
  replace P2 := Lib.hid (P2.out.kept k3)
  replace Q2 := Lib.hid (Q2.out.kept k3)
  have K3 := K2.trans k3
  have hg : w1.heap.size ≤ g ∧ g < w2.heap.size := F2.out g (by rw [fpA_code]; simp [fp_some])
  go_loopw [23] (fun i wr => ∃ k : Nat, k ≤ x.elems.length ∧ i = .int .i64 k ∧ OwnE wr w1.heap.size (.slice (some ⟨g, 0, none⟩) x.elems.length c3) (scTo x.elems p k) ∧ Only [g] w3 wr) (fun i _ => x.elems.length - (intOf i).toNat)
  case atStart => exact ⟨0, Nat.zero_le _, rfl, by rw [scTo_zero]; exact P2.out, Only.refl _ _⟩
  case round =>
    obtain ⟨k, hk, rfl, ho, hon⟩ := hrel
    have hsz := hon.size
    have hsz3 := k3.size
    have HO := Lib.hid ho
    have B0r := B0.only hon (by simp; omega)
    have B1r := B1.only hon (by simp; omega)
    have B6r := B6.only hon (by simp; omega)
    have kw : Kept w1 wr := hon.above (k2.trans k3) (by simp; omega)
    clear ho
    by_cases hlt : k < x.elems.length
    · obtain ⟨b, o, y, eA, hb', h2, q0, q1, q2, q3⟩ := elems_at (HL.out.kept (K1.trans kw)) hlt
      subst eA
      have hys := HS.out y (List.mem_of_getElem? h2)
      obtain ⟨_, _, hy1, hy2⟩ := elemB_parts (codeB_elem (sc_code HB.out) h2)
      obtain ⟨m1, m2⟩ := mul_bds (a := y.base) (b := p) (A := 2000) (B := 200) (by omega) hy2 (by omega) hp.2
      replace m2 : y.base * p ≤ 400000 := m2
      have HT := Lib.hid (scTo_succ (p := p) h2)
      have HG := Lib.hid (scTo_get (p := p) h2)
      have hlt' : (k : Int) < (x.elems.length : Int) := by omega
      clear h2
      have hroww := HO.out.1
      rw [scTo_len] at hroww
      obtain ⟨u0, _, cu, fu⟩ := own_at hroww (j := k * 4 + 3) (by omega)
      have HR := Lib.hid (hroww.stored (k * 4 + 3) (.int .i64 (max 1 (y.base * p / 100)))).1
      clear hroww
      have KE : Kept wr (wr.alloc (.cells #[.string y.name, .int .i64 y.family, .int .i64 y.level, .int .i64 y.base] 43)) := (Kept.refl wr).alloc _
      go_wp2_with fail
      have B6a := B6r.kept KE
      have B8 : Box (wr.alloc (.cells #[.string y.name, .int .i64 y.family, .int .i64 y.level, .int .i64 y.base] 43)) wr.heap.size 43 #[.string y.name, .int .i64 y.family, .int .i64 y.level, .int .i64 y.base] := Box.new wr wr.heap.size _ _ rfl
      have cua := (KE.cell (p := ⟨g, k * 4 + 3, none⟩) (by simp; omega)).trans cu
      have fua : (wr.alloc (.cells #[.string y.name, .int .i64 y.family, .int .i64 y.level, .int .i64 y.base] 43)).frozen? ⟨g, k * 4 + 3, none⟩ = false := (Below.frozen KE (p := ⟨g, k * 4 + 3, none⟩) (by simp; omega)).trans fu
      have hga : g ≠ wr.heap.size := by omega
      have onE : Only [g] w3 (wr.alloc (.cells #[.string y.name, .int .i64 y.family, .int .i64 y.level, .int .i64 y.base] 43)) := hon.trans (KE.only _)
      have HRE := Lib.hid (show (wr.alloc (.cells #[.string y.name, .int .i64 y.family, .int .i64 y.level, .int .i64 y.base] 43)).ownsRow w1.heap.size 43 4 (.slice (some ⟨g, 0, none⟩) x.elems.length c3) x.elems.length ((scTo x.elems p k).flatMap cells4) from by have := (HO.out.kept KE).1; rw [scTo_len] at this; exact this)
      clear HR
      generalize wr.alloc (.cells #[.string y.name, .int .i64 y.family, .int .i64 y.level, .int .i64 y.base] 43) = wa at *
      have d6 : wa.drew.cell? ⟨w2.heap.size, 0, none⟩ = some (.slice (some ⟨g, 0, none⟩) x.elems.length c3) := B6a.cell 0
      have d8 : wa.drew.cell? ⟨wr.heap.size, 3, none⟩ = some (.int .i64 y.base) := B8.cell 3
      have du : wa.drew.cell? ⟨g, k * 4 + 3, none⟩ = some u0 := cua
      have df : wa.drew.frozen? ⟨g, k * 4 + 3, none⟩ = false := fua
      have hs6 : ∀ u, (wa.setCell ⟨g, k * 4 + 3, none⟩ u).drew.cell? ⟨w2.heap.size, 0, none⟩ = some (.slice (some ⟨g, 0, none⟩) x.elems.length c3) := fun u => (World.cell?_setCell_other wa ⟨g, k * 4 + 3, none⟩ ⟨w2.heap.size, 0, none⟩ u (by intro e; injection e; omega)).trans (B6a.cell 0)
      have hs8 : ∀ u, (wa.setCell ⟨g, k * 4 + 3, none⟩ u).drew.cell? ⟨wr.heap.size, 3, none⟩ = some (.int .i64 y.base) := fun u => (World.cell?_setCell_other wa ⟨g, k * 4 + 3, none⟩ ⟨wr.heap.size, 3, none⟩ u (by intro e; injection e; omega)).trans (B8.cell 3)
      have HS6 := Lib.hid hs6
      have HS8 := Lib.hid hs8
      clear hs6 hs8
      go_region_held3 (fun w' => w'.cell? ⟨w2.heap.size, 0, none⟩ = some (.slice (some ⟨g, 0, none⟩) x.elems.length c3) ∧ w'.cell? ⟨wr.heap.size, 3, none⟩ = some (.int .i64 y.base)) (first | (with_reducible exact ⟨d6, d8⟩) | (with_reducible exact ⟨HS6.out _, HS8.out _⟩)) (first | (go_at_call 46; refine (l1Most2_any _ _ _).mono ?_; rintro e w' ⟨rfl, rfl⟩))
      rename_i hheld
      clear hheld
      go_wp2_with fail
      go_roundw
      case rel =>
        refine ⟨k + 1, by omega, by go_num, ⟨?_, ?_⟩, ?_⟩
        · have := (HRE.out.stored (k * 4 + 3) (.int .i64 (max 1 (y.base * p / 100)))).1
          rw [flat_set3 _ _ _ _ HG.out] at this
          rw [scTo_len, HT.out]
          have e2 : scaleE p y = { y with base := max 1 (y.base * p / 100) } := by unfold scaleE; rw [show max (y.base * p / 100) 1 = max 1 (y.base * p / 100) from by omega]
          rw [e2]
          exact this
        · intro e he
          rw [HT.out] at he
          rcases List.mem_or_eq_of_mem_set he with he | he
          · exact HO.out.2 e he
          · rw [he]; exact hys
        · exact (onE.setCell (by simp) _).drewN 1
      case measure => simp [intOf]; omega
    · obtain rfl : k = x.elems.length := by omega
      have HOF : Hid (OwnE wr w1.heap.size (.slice (some ⟨g, 0, none⟩) x.elems.length c3) (x.elems.map (scaleE p))) := by
        have := HO.out
        rw [scTo_full] at this
        exact this
      have Q2r := Q2.out.only hon (fun b hb hs => by
        have h1 := ND.out
        rw [fpA_code] at h1
        have := (List.nodup_append.1 h1).2.2 g (by simp [fp_some]) b hb
        simp at hs
        omega)
      have HKK : Hid (OwnK wr w1.heap.size (.agg #[.slice (some ⟨g, 0, none⟩) x.elems.length c3, .slice A4 x.limits.length c4, .int .i64 x.repeats, .int .i64 x.bonus, .int .i64 x.keeps, .int .i64 x.fall]) (scaleC x p)) := ⟨_, _, rfl, HOF.out, Q2r, ND.out⟩
      have Kr := K1.trans kw
      have hzr := kw.size
      clear HO HOF Q2r hon Q2
      obtain ⟨x0, y0⟩ := B6r.six
      go_wp2_with fail
      clear x0 y0
      obtain ⟨X, hX⟩ : ∃ X, ifC (scaleC x p) = X := ⟨_, rfl⟩
      obtain ⟨bb, hbb⟩ : ∃ bb, codeB (scaleC x p) = bb := ⟨_, rfl⟩
      have HX := Lib.hid hX
      have HBB := Lib.hid hbb
      clear hX hbb
      refine (cdIf_is X bb _ (scaleC x p) _ w1.heap.size HX.out HBB.out HKK.out hzr).mono ?_
      rintro e w4 ⟨v4, rfl, o4, k4⟩
      replace B1 := B1r.kept k4
      have K4 := Kr.trans k4
      have HNE : Hid (∀ b ∈ fpA v4, b ≠ w.heap.size + 1) := fun b hb e => by have := o4.fps b hb; omega
      replace o4 := o4.base (base' := w.heap.size) (by omega)
      have FR := Lib.hid (o4.fps)
      obtain ⟨na, ma, rfl, pa, qa, nda⟩ := o4
      obtain ⟨Aa, ca, rfl, _⟩ := own_form pa.1
      obtain ⟨Da, da, rfl, _⟩ := own_form qa
      have OR : Hid (OwnK w4 w.heap.size (.agg #[.slice Aa X.elems.length ca, .slice Da X.limits.length da, .int .i64 X.repeats, .int .i64 X.bonus, .int .i64 X.keeps, .int .i64 X.fall]) (X)) := ⟨_, _, rfl, pa, qa, nda⟩
      clear pa qa nda
      obtain ⟨x1, y1⟩ := B1.six
      go_wp2_with fail
      clear x1 y1
      obtain ⟨w9, hw9, B9, Q9⟩ := set6 B1 (.slice Aa X.elems.length ca) (.slice Da X.limits.length da) (.int .i64 X.repeats) (.int .i64 X.bonus) (.int .i64 X.keeps) (.int .i64 X.fall)
      rw [← hw9]
      clear hw9
      obtain ⟨cc, ff⟩ := B9.six
      refine bodyPost_ret (v := .tuple #[.agg #[.slice Aa X.elems.length ca, .slice Da X.limits.length da, .int .i64 X.repeats, .int .i64 X.bonus, .int .i64 X.keeps, .int .i64 X.fall], .bool bb]) (by simp [results, Try.results14, go_sem, cc, ff]) rfl ⟨_, by rw [scB_yes HB.out, HBB.out], ?_, Q9.above K4 (by simp)⟩
      rw [scV_yes HB.out, HX.out]
      exact OR.out.only Q9 (fun b hb hs => HNE.out b hb (by simpa using hs))
end Go.Proofs.Ytlmaiblfgbobnaa
