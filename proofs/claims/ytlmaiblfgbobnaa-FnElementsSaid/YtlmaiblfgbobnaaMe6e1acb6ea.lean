/- Contracts of functions that the proof leans on. No condition. -/
import Derived.Test.YtlmaiblfgbobnaaM74147db144
import Derived.Deep.DeepCutAuto
/- Codes: LevelsOf. -/
namespace Go.Proofs.Ytlmaiblfgbobnaa
set_option linter.unusedVariables false
set_option linter.unusedSimpArgs false
open Go.RowKit

def lvls (es : List ElemD) (f : Int) : List Int := (es.filter fun y => decide (y.family = f)).map ElemD.level
theorem lvls_yes {es : List ElemD} {k : Nat} {y : ElemD} {f : Int} (h : es[k]? = some y) (hf : y.family = f) : lvls (es.take (k + 1)) f = lvls (es.take k) f ++ [y.level] := by
  unfold lvls
  rw [take_snoc h, List.filter_append, List.map_append]
  simp [hf]
theorem lvls_no {es : List ElemD} {k : Nat} {y : ElemD} {f : Int} (h : es[k]? = some y) (hf : ¬ y.family = f) : lvls (es.take (k + 1)) f = lvls (es.take k) f := by
  unfold lvls
  rw [take_snoc h, List.filter_append, List.map_append]
  simp [hf]
theorem lvls_len (es : List ElemD) (f : Int) (k : Nat) : (lvls (es.take k) f).length ≤ es.length := by
  unfold lvls
  rw [List.length_map]
  have := List.length_filter_le (fun y : ElemD => decide (y.family = f)) (es.take k)
  rw [List.length_take] at this
  omega
def lvV (x : CodeD) (f : Int) : List Int := if askedB x f then cns 5 (lvls x.elems f) else []
theorem lvV_len (x : CodeD) (f : Int) : (lvV x f).length ≤ 5 := by unfold lvV; split <;> simp [cns_length]
theorem lvV_no {x : CodeD} {f : Int} (h : askedB x f = false) : lvV x f = [] := by unfold lvV; rw [h]; rfl
theorem lvV_yes {x : CodeD} {f : Int} (h : askedB x f = true) : lvV x f = cns 5 (lvls x.elems f) := if_pos h
theorem asked_code {x : CodeD} {f : Int} (h : askedB x f = true) : codeB x = true := by unfold askedB at h; rw [Bool.and_eq_true] at h; exact h.1
theorem asked_fam {x : CodeD} {f : Int} (h : askedB x f = true) : inB f 0 4 = true := by unfold askedB at h; rw [Bool.and_eq_true] at h; exact h.2
theorem ret_vb {v : Value} {b b' : Bool} (h : b = b') : Ending.returned (.tuple #[v, .bool b]) = .returned (.tuple #[v, .bool b']) := by rw [h]
set_option maxHeartbeats 2000000 in
theorem specLevelsOf_any (v : Value) (x : CodeD) (f : Int) (w : World) (h : CodeAt w v x) :
    Calls Try.prog 9 #[v, .int .i64 f] w fun e w' => ∃ v', e = .returned (.tuple #[v', .bool (askedB x f)]) ∧ OwnI w' w.heap.size v' (lvV x f) ∧ Kept w w' := by
  have h0 := h
  obtain ⟨nv, mv, rfl, q1, q2⟩ := h
  obtain ⟨A, c, rfl, hnc, hcm, hl⟩ := q1.1.out
  obtain ⟨A2, c2, rfl, _, _, _⟩ := q2.out
  unfold maxLen at hcm
  have HL := Lib.hid hl
  have HS := Lib.hid q1.2
  have H0 := Lib.hid h0
  clear h0 q1 q2 hl
  have B0 := Box.new w w.heap.size 26 #[.slice A x.elems.length c, .slice A2 x.limits.length c2, .int .i64 x.repeats, .int .i64 x.bonus, .int .i64 x.keeps, .int .i64 x.fall] rfl
  have K0 : Kept w (w.alloc (.cells #[.slice A x.elems.length c, .slice A2 x.limits.length c2, .int .i64 x.repeats, .int .i64 x.bonus, .int .i64 x.keeps, .int .i64 x.fall] 26)) := (Kept.refl w).alloc _
  go_enter Try.func9, Try.ntmps9
  go_wp2_with fail
  refine (cdAsked_any _ x f _ (H0.out.kept K0)).mono ?_
  rintro e w1 ⟨rfl, k1⟩
  by_cases hb : askedB x f = true
  case neg =>
    simp only [Bool.not_eq_true] at hb
    rw [hb]
    go_wp2_with fail
    go_ret2
    exact ⟨_, ret_vb hb.symm, by rw [lvV_no hb]; exact World.ownsRow_nil _ _ _ _, K0.trans k1⟩
  rw [hb]
  obtain ⟨i0, hi, hz0, hz1, hz2⟩ := info_parts info_int
  have HB := Lib.hid hb
  have B1 := B0.kept k1
  have K1 := K0.trans k1
  clear B0 K0 k1 hb
  have hs1 := K1.size
  go_wp2_with (first | (at_make; refine wpList_make_full _ rfl _ _ 24 rfl w.heap.size 3 i0 _ 1 Try.underlying24 hi hz0 hz1 _ _ _ _ 5 rfl rfl rfl rfl (by rw [hz2]; omega) (by decide) hs1 ?_; intro w2 hown hgrow; have k2 : Kept w1 w2 := (Below.refl _ _).grown hgrow (Nat.le_refl _) (by intro k hk; cases hk); obtain ⟨x0, y0⟩ := (B1.kept k2).six; have H0' := Lib.hid hown; clear hown))
  have K2 := K1.trans k2
  have hown0 : w2.ownsRow w.heap.size 3 1 (.slice (some ⟨w1.heap.size, 0, none⟩) 5 5) 5 ((cns 5 []).map (Value.int .i64)) := by
    rw [show (cns 5 []).map (Value.int .i64) = (madeCells (Value.int .i64 0).cells (5 * 1)).toList from by kernel_rfl]
    exact H0'.out
  clear hgrow hi hz0 hz1 hz2 x0 y0 H0'
  have HW := Lib.hid hown0
  clear hown0
  go_loopw [17] (fun i wr => ∃ k : Nat, k ≤ x.elems.length ∧ i = .int .i64 k ∧ wr.ownsRow w.heap.size 3 1 (.slice (some ⟨w1.heap.size, 0, none⟩) 5 5) 5 ((cns 5 (lvls (x.elems.take k) f)).map (Value.int .i64)) ∧ Kept w1 wr) (fun i _ => x.elems.length - (intOf i).toNat)
  case atStart => exact ⟨0, Nat.zero_le _, rfl, by simpa [lvls] using HW.out, k2⟩
  case round =>
    obtain ⟨k, hk, rfl, ho, hkept⟩ := hrel
    by_cases hlt : k < x.elems.length
    · obtain ⟨b, o, y, rfl, hb', h2, q0, q1, q2, q3⟩ := elems_at (HL.out.kept (K1.trans hkept)) hlt
      have hyp := elemB_parts (codeB_elem (asked_code HB.out) h2)
      obtain ⟨_, ⟨hz0', hz3⟩, _⟩ := hyp
      have hl24 : x.elems.length ≤ 24 := (codeB_heads (asked_code HB.out)).1.2
      by_cases hf : y.family = f
      · have HN := Lib.hid (lvls_yes h2 hf)
        have hf' : (y.family == f) = true := by simp [hf]
        have HCS := Lib.hid (cns_snoc (m := 5) (lvls (x.elems.take k) f) hz0' (by omega))
        have hcg := cns_get (m := 5) (lvls (x.elems.take k) f) hz0' (by omega)
        obtain ⟨cb1, cb2⟩ := cn_bd (lvls (x.elems.take k) f) y.level
        have hl3 := lvls_len x.elems f k
        have hcell : wr.cell? ⟨w1.heap.size, y.level.toNat, none⟩ = some (.int .i64 (cn (lvls (x.elems.take k) f) y.level)) := by
          rw [ho.cellAt y.level.toNat (by omega), List.getElem?_map, hcg]
          rfl
        have hfr := ho.frozenAt y.level.toNat
        have HST := Lib.hid ((ho.stored y.level.toNat (.int .i64 (cn (lvls (x.elems.take k) f) y.level + 1))).1.alloc (.cells #[.string y.name, .int .i64 y.family, .int .i64 y.level, .int .i64 y.base] 43))
        have hzi : y.level < 5 := by omega
        have hszr : w1.heap.size < wr.heap.size := (ho.lt w1.heap.size rfl).2
        clear h2 hf hcg ho
        generalize hcd : cn (lvls (x.elems.take k) f) y.level = cd at *
        clear hcd
        go_wp2_with fail
        go_roundw
        case rel =>
          refine ⟨k + 1, by omega, by go_num, ?_, (Kept.setCell hkept (Nat.le_refl _) _).alloc _⟩
          have := HST.out
          rw [HN.out, HCS.out, List.map_set]
          exact this
        case measure => simp [intOf]; omega
      · have HN := Lib.hid (lvls_no h2 hf)
        have hf' : (y.family == f) = false := beq_eq_false_iff_ne.2 hf
        have HO := Lib.hid ho
        clear h2 hf ho
        go_wp2_with fail
        go_roundw
        case rel => exact ⟨k + 1, by omega, by go_num, by rw [HN.out]; exact HO.out.alloc _, hkept.alloc _⟩
        case measure => simp [intOf]; omega
    · obtain rfl : k = x.elems.length := by omega
      have HO := Lib.hid ho
      clear ho
      go_wp2_with fail
      go_ret2
      refine ⟨_, ret_vb HB.out.symm, ?_, K1.trans hkept⟩
      have := HO.out
      rw [List.take_length] at this
      rw [lvV_yes HB.out]
      unfold OwnI
      rw [cns_length]
      exact this
set_option maxHeartbeats 2000000 in
theorem levelsOf_any (v : Value) (x : CodeD) (f : Int) (w : World) (h : CodeAt w v x) :
    Calls Try.prog 8 #[v, .int .i64 f] w fun e w' => ∃ v', e = .returned (.tuple #[v', .bool (askedB x f)]) ∧ OwnI w' w.heap.size v' (lvV x f) ∧ Kept w w' := by
  have h0 := h
  obtain ⟨nv, mv, rfl, q1, q2⟩ := h
  obtain ⟨A, c, rfl, hnc, hcm, hl⟩ := q1.1.out
  obtain ⟨A2, c2, rfl, _, _, _⟩ := q2.out
  unfold maxLen at hcm
  have HL := Lib.hid hl
  have HS := Lib.hid q1.2
  have H0 := Lib.hid h0
  clear h0 q1 q2 hl
  have B0 := Box.new w w.heap.size 26 #[.slice A x.elems.length c, .slice A2 x.limits.length c2, .int .i64 x.repeats, .int .i64 x.bonus, .int .i64 x.keeps, .int .i64 x.fall] rfl
  have K0 : Kept w (w.alloc (.cells #[.slice A x.elems.length c, .slice A2 x.limits.length c2, .int .i64 x.repeats, .int .i64 x.bonus, .int .i64 x.keeps, .int .i64 x.fall] 26)) := (Kept.refl w).alloc _
  go_enter Try.func8, Try.ntmps8
  go_wp2_with fail
  refine (isCode_any _ x _ (H0.out.kept K0)).mono ?_
  rintro e w1 ⟨rfl, k1⟩
  by_cases hb : askedB x f = true
  case neg =>
    simp only [Bool.not_eq_true] at hb
    have HB := Lib.hid hb
    by_cases hc : codeB x = true
    · rw [hc]
      unfold askedB at hb
      rw [hc, Bool.true_and] at hb
      go_wp2_with (go_at_call 42; refine (isFamily_any _ _).mono ?_; rintro e w' ⟨rfl, rfl⟩)
      go_ret2
      exact ⟨_, ret_vb HB.out.symm, by rw [lvV_no HB.out]; exact World.ownsRow_nil _ _ _ _, K0.trans k1⟩
    · simp only [Bool.not_eq_true] at hc
      rw [hc]
      clear hb
      go_wp2_with fail
      go_ret2
      exact ⟨_, ret_vb HB.out.symm, by rw [lvV_no HB.out]; exact World.ownsRow_nil _ _ _ _, K0.trans k1⟩
  have hc : codeB x = true := asked_code hb
  have hd : inB f 0 4 = true := asked_fam hb
  rw [hc]
  clear hc
  obtain ⟨i0, hi, hz0, hz1, hz2⟩ := info_parts info_int
  have HB := Lib.hid hb
  have B1 := B0.kept k1
  have K1 := K0.trans k1
  clear B0 K0 k1 hb
  have hs1 := K1.size
  go_wp2_with (first | (go_at_call 42; refine (isFamily_any _ _).mono ?_; rintro e w' ⟨rfl, rfl⟩) | (at_make; refine wpList_make_full _ rfl _ _ 24 rfl w.heap.size 3 i0 _ 1 Try.underlying24 hi hz0 hz1 _ _ _ _ 5 rfl rfl rfl rfl (by rw [hz2]; omega) (by decide) hs1 ?_; intro w2 hown hgrow; have k2 : Kept w1 w2 := (Below.refl _ _).grown hgrow (Nat.le_refl _) (by intro k hk; cases hk); obtain ⟨x0, y0⟩ := (B1.kept k2).six; have H0' := Lib.hid hown; clear hown))
  have K2 := K1.trans k2
  have hown0 : w2.ownsRow w.heap.size 3 1 (.slice (some ⟨w1.heap.size, 0, none⟩) 5 5) 5 ((cns 5 []).map (Value.int .i64)) := by
    rw [show (cns 5 []).map (Value.int .i64) = (madeCells (Value.int .i64 0).cells (5 * 1)).toList from by kernel_rfl]
    exact H0'.out
  clear hgrow hi hz0 hz1 hz2 x0 y0 H0'
  have HW := Lib.hid hown0
  clear hown0
  go_loopw [21] (fun i wr => ∃ k : Nat, k ≤ x.elems.length ∧ i = .int .i64 k ∧ wr.ownsRow w.heap.size 3 1 (.slice (some ⟨w1.heap.size, 0, none⟩) 5 5) 5 ((cns 5 (lvls (x.elems.take k) f)).map (Value.int .i64)) ∧ Kept w1 wr) (fun i _ => x.elems.length - (intOf i).toNat)
  case atStart => exact ⟨0, Nat.zero_le _, rfl, by simpa [lvls] using HW.out, k2⟩
  case round =>
    obtain ⟨k, hk, rfl, ho, hkept⟩ := hrel
    by_cases hlt : k < x.elems.length
    · obtain ⟨b, o, y, rfl, hb', h2, q0, q1, q2, q3⟩ := elems_at (HL.out.kept (K1.trans hkept)) hlt
      have hyp := elemB_parts (codeB_elem (asked_code HB.out) h2)
      obtain ⟨_, ⟨hz0', hz3⟩, _⟩ := hyp
      have hl24 : x.elems.length ≤ 24 := (codeB_heads (asked_code HB.out)).1.2
      by_cases hf : y.family = f
      · have HN := Lib.hid (lvls_yes h2 hf)
        have hf' : (y.family == f) = true := by simp [hf]
        have HCS := Lib.hid (cns_snoc (m := 5) (lvls (x.elems.take k) f) hz0' (by omega))
        have hcg := cns_get (m := 5) (lvls (x.elems.take k) f) hz0' (by omega)
        obtain ⟨cb1, cb2⟩ := cn_bd (lvls (x.elems.take k) f) y.level
        have hl3 := lvls_len x.elems f k
        have hcell : wr.cell? ⟨w1.heap.size, y.level.toNat, none⟩ = some (.int .i64 (cn (lvls (x.elems.take k) f) y.level)) := by
          rw [ho.cellAt y.level.toNat (by omega), List.getElem?_map, hcg]
          rfl
        have hfr := ho.frozenAt y.level.toNat
        have HST := Lib.hid ((ho.stored y.level.toNat (.int .i64 (cn (lvls (x.elems.take k) f) y.level + 1))).1.alloc (.cells #[.string y.name, .int .i64 y.family, .int .i64 y.level, .int .i64 y.base] 43))
        have hzi : y.level < 5 := by omega
        have hszr : w1.heap.size < wr.heap.size := (ho.lt w1.heap.size rfl).2
        clear h2 hf hcg ho
        generalize hcd : cn (lvls (x.elems.take k) f) y.level = cd at *
        clear hcd
        go_wp2_with fail
        go_roundw
        case rel =>
          refine ⟨k + 1, by omega, by go_num, ?_, (Kept.setCell hkept (Nat.le_refl _) _).alloc _⟩
          have := HST.out
          rw [HN.out, HCS.out, List.map_set]
          exact this
        case measure => simp [intOf]; omega
      · have HN := Lib.hid (lvls_no h2 hf)
        have hf' : (y.family == f) = false := beq_eq_false_iff_ne.2 hf
        have HO := Lib.hid ho
        clear h2 hf ho
        go_wp2_with fail
        go_roundw
        case rel => exact ⟨k + 1, by omega, by go_num, by rw [HN.out]; exact HO.out.alloc _, hkept.alloc _⟩
        case measure => simp [intOf]; omega
    · obtain rfl : k = x.elems.length := by omega
      have HO := Lib.hid ho
      clear ho
      go_wp2_with fail
      go_ret2
      refine ⟨_, ret_vb HB.out.symm, ?_, K1.trans hkept⟩
      have := HO.out
      rw [List.take_length] at this
      rw [lvV_yes HB.out]
      unfold OwnI
      rw [cns_length]
      exact this
end Go.Proofs.Ytlmaiblfgbobnaa

/- append to rows of the call's own, in the words of the readings. -/
namespace Go.Proofs.Ytlmaiblfgbobnaa
set_option linter.unusedVariables false
set_option linter.unusedSimpArgs false
open Go.RowKit

theorem own_nil (w : World) (base : Nat) : OwnI w base (.slice none 0 0) [] := World.ownsRow_nil _ _ _ _
theorem OwnI.base {w : World} {base base' : Nat} {v : Value} {zs : List Int} (h : OwnI w base v zs) (hb : base' ≤ base) : OwnI w base' v zs := own_base h hb
/-- what was there when a0 stood is kept by an append to a row that lies above -/
theorem Kept.grew {a w w' : World} {base : Nat} {e : TypeId} {size : Nat} {v : Value} {n : Nat} {xs : List Value} (hk : Kept a w) (h : w.ownsRow base e size v n xs) (hg : w.grownBy w' v.ownBlock) (hb : a.heap.size ≤ base) : Kept a w' :=
  (only_of_grown hg).above hk (fun b hb' => Nat.le_trans hb (own_fp h b hb').1)
/-- a row built of no element -/
theorem own_made {w : World} {base : Nat} (g : Nat) (e : TypeId) (size : Nat) (hb : base ≤ g) (h : Box w g e #[]) : w.ownsRow base e size (.slice (some ⟨g, 0, none⟩) 0 0) 0 [] :=
  ⟨by simp, .inr ⟨g, 0, _, rfl, hb, h, Nat.le_refl _, Nat.zero_le _, by simp, by simp⟩⟩
/-- append(out, x), numbers -/
theorem wpList_append_int (w : World) {ops : Array Oper} {rest : List Oper} {o : Oper} {a : Act} {Q : Exit → Act → World → Prop} (hgd : o.guard = none) (s x : Operand)
    (ho : o.op = .call { callee := .builtin .append, args := #[s, x], argTypes := #[24, 24] })
    (base : Nat) (v : Value) (zs : List Int) (hs : a.eval s = v) (hown : OwnI w base v zs)
    (g : Nat) (z : Int) (hx : a.eval x = .slice (some ⟨g, 0, none⟩) 1 1) (hc : w.cell? ⟨g, 0, none⟩ = some (.int .i64 z))
    (hl : zs.length ≤ 16777216) (hbase : base ≤ w.heap.size)
    (h : ∀ v' w', OwnI w' base v' (zs ++ [z]) → w.grownBy w' v.ownBlock → wpList Try.prog ops Q rest (a.put o.dst v') w') : wpList Try.prog ops Q (o :: rest) a w := by
  obtain ⟨i0, hi, hz0, hz1, hz2⟩ := info_parts info_int
  refine wpList_append_own_at w hgd s x 24 ho base 3 i0 _ 1 8 Try.underlying24 hi hz0 hz1 hz2 rfl (by omega) v zs.length _ hs hown ⟨g, 0, none⟩ 1 1 [.int .i64 z] hx rfl ?_ ?_ (by unfold maxLen; omega) (by omega) hbase (fun v' w' q1 q2 _ _ => h v' w' ?_ q2)
  · intro j u hu
    rcases j with _ | j
    · simp at hu
      subst hu
      exact hc
    · simp at hu
  · intro u hu
    simp at hu
    subst hu
    rfl
  · unfold OwnI
    simpa using q1
end Go.Proofs.Ytlmaiblfgbobnaa

/- Codes: OfFamily. -/
namespace Go.Proofs.Ytlmaiblfgbobnaa
set_option linter.unusedVariables false
set_option linter.unusedSimpArgs false
open Go.RowKit

def famIs (es : List ElemD) (f : Int) (i : Nat) : Bool := match es[i]? with | some y => y.family == f | none => false
theorem famIs_at {es : List ElemD} {f : Int} {i : Nat} {y : ElemD} (h : es[i]? = some y) : famIs es f i = (y.family == f) := by unfold famIs; rw [h]
def ofF (es : List ElemD) (f : Int) (k : Nat) : List Int := ((List.range k).filter (famIs es f)).map fun (i : Nat) => (i : Int)
theorem ofF_yes {es : List ElemD} {f : Int} {k : Nat} (h : famIs es f k = true) : ofF es f (k + 1) = ofF es f k ++ [(k : Int)] := by
  unfold ofF
  rw [List.range_succ, List.filter_append, List.map_append]
  simp [h]
theorem ofF_no {es : List ElemD} {f : Int} {k : Nat} (h : famIs es f k = false) : ofF es f (k + 1) = ofF es f k := by
  unfold ofF
  rw [List.range_succ, List.filter_append, List.map_append]
  simp [h]
theorem ofF_len (es : List ElemD) (f : Int) (k : Nat) : (ofF es f k).length ≤ k := by
  unfold ofF
  rw [List.length_map]
  have := List.length_filter_le (famIs es f) (List.range k)
  rwa [List.length_range] at this
def ofV (x : CodeD) (f : Int) : List Int := if askedB x f then ofF x.elems f x.elems.length else []
theorem ofV_no {x : CodeD} {f : Int} (h : askedB x f = false) : ofV x f = [] := by unfold ofV; rw [h]; rfl
theorem ofV_yes {x : CodeD} {f : Int} (h : askedB x f = true) : ofV x f = ofF x.elems f x.elems.length := if_pos h
theorem ofV_len (x : CodeD) (f : Int) : (ofV x f).length ≤ x.elems.length := by
  unfold ofV
  split
  · exact ofF_len _ _ _
  · simp
set_option maxHeartbeats 2000000 in
theorem specOfFamily_any (v : Value) (x : CodeD) (f : Int) (w : World) (h : CodeAt w v x) :
    Calls Try.prog 7 #[v, .int .i64 f] w fun e w' => ∃ v', e = .returned (.tuple #[v', .bool (askedB x f)]) ∧ OwnI w' w.heap.size v' (ofV x f) ∧ Kept w w' := by
  have h0 := h
  obtain ⟨nv, mv, rfl, q1, q2⟩ := h
  obtain ⟨A, c, rfl, hnc, hcm, hl⟩ := q1.1.out
  obtain ⟨A2, c2, rfl, _, _, _⟩ := q2.out
  unfold maxLen at hcm
  have HL := Lib.hid hl
  have HS := Lib.hid q1.2
  have H0 := Lib.hid h0
  clear h0 q1 q2 hl
  have B0 := Box.new w w.heap.size 26 #[.slice A x.elems.length c, .slice A2 x.limits.length c2, .int .i64 x.repeats, .int .i64 x.bonus, .int .i64 x.keeps, .int .i64 x.fall] rfl
  have K0 : Kept w (w.alloc (.cells #[.slice A x.elems.length c, .slice A2 x.limits.length c2, .int .i64 x.repeats, .int .i64 x.bonus, .int .i64 x.keeps, .int .i64 x.fall] 26)) := (Kept.refl w).alloc _
  go_enter Try.func7, Try.ntmps7
  go_wp2_with fail
  refine (cdAsked_any _ x f _ (H0.out.kept K0)).mono ?_
  rintro e w1 ⟨rfl, k1⟩
  by_cases hb : askedB x f = true
  case neg =>
    simp only [Bool.not_eq_true] at hb
    rw [hb]
    go_wp2_with fail
    go_ret2
    exact ⟨_, ret_vb hb.symm, by rw [ofV_no hb]; exact own_nil _ _, K0.trans k1⟩
  rw [hb]
  have HB := Lib.hid hb
  have B1 := B0.kept k1
  have K1 := K0.trans k1
  clear B0 K0 k1 hb
  have hl24 : x.elems.length ≤ 24 := (codeB_heads (asked_code HB.out)).1.2
  obtain ⟨x0, y0⟩ := B1.six
  go_wp2_with fail
  clear x0 y0
  go_loopw [6, 16] (fun q i wr => ∃ k : Nat, k ≤ x.elems.length ∧ i = .int .i64 k ∧ OwnI wr w1.heap.size q (ofF x.elems f k) ∧ Kept w1 wr) (fun _ i _ => x.elems.length - (intOf i).toNat)
  case atStart => exact ⟨0, Nat.zero_le _, rfl, own_nil _ _, Kept.refl _⟩
  case round =>
    obtain ⟨k, hk, rfl, ho, hkept⟩ := hrel
    by_cases hlt : k < x.elems.length
    · obtain ⟨b, o, y, rfl, hb', h2, q0, q1, q2, q3⟩ := elems_at (HL.out.kept (K1.trans hkept)) hlt
      have HFI := Lib.hid (famIs_at (f := f) h2)
      have hlen := ofF_len x.elems f k
      have HO := Lib.hid ho
      have hsz := hkept.size
      clear h2 ho
      by_cases hf : (y.family == f) = true
      · have HN := Lib.hid (ofF_yes (HFI.out.trans hf))
        go_wp2_with (at_builtin; refine wpList_append_int _ rfl _ _ rfl w1.heap.size _ (ofF x.elems f k) rfl ((HO.out.kept ((Kept.refl _).alloc _)).kept ((Kept.refl _).alloc _)) _ (k : Int) rfl ((Box.new _ _ _ _ (by simp)).cell 0) (by omega) (by simp; omega) ?_; intro v' w' ho' hg)
        have kg := ((hkept.alloc (.cells #[.string y.name, .int .i64 y.family, .int .i64 y.level, .int .i64 y.base] 43)).alloc (.cells #[.int .i64 (k : Int)] 3)).grew ((HO.out.kept ((Kept.refl _).alloc _)).kept ((Kept.refl _).alloc _)) hg (Nat.le_refl _)
        have HO' := Lib.hid ho'
        clear ho' hg
        go_wp2_with fail
        go_roundw
        case rel => exact ⟨k + 1, by omega, by go_num, by rw [HN.out]; exact HO'.out, kg⟩
        case measure => simp [intOf]; omega
      · simp only [Bool.not_eq_true] at hf
        have HN := Lib.hid (ofF_no (HFI.out.trans hf))
        go_wp2_with fail
        go_roundw
        case rel => exact ⟨k + 1, by omega, by go_num, by rw [HN.out]; exact HO.out.kept ((Kept.refl _).alloc _), hkept.alloc _⟩
        case measure => simp [intOf]; omega
    · obtain rfl : k = x.elems.length := by omega
      have HO := Lib.hid ho
      clear ho
      go_wp2_with fail
      go_ret2
      exact ⟨_, ret_vb HB.out.symm, by rw [ofV_yes HB.out]; exact HO.out.base K1.size, K1.trans hkept⟩
set_option maxHeartbeats 1000000 in
theorem famAt_any (i : Nat) (x : CodeD) (f : Int) (A A2 : Option Addr) (c c2 : Nat) (g h : Nat) (w : World) (hE : Elems w (.slice A x.elems.length c) x.elems) (hi : i < x.elems.length) (hB : Box w g 26 #[.slice A x.elems.length c, .slice A2 x.limits.length c2, .int .i64 x.repeats, .int .i64 x.bonus, .int .i64 x.keeps, .int .i64 x.fall])
    (hc : Box w h 3 #[.int .i64 f]) :
    Calls Try.prog 44 #[.int .i64 (i : Int), .pointer (some ⟨g, 0, none⟩), .pointer (some ⟨h, 0, none⟩)] w fun e w' => e = .returned (.bool (famIs x.elems f i)) ∧ Kept w w' := by
  obtain ⟨x0, y0⟩ := hB.six
  have hc0 : w.cell? ⟨h, 0, none⟩ = some (.int .i64 f) := hc.cell 0
  obtain ⟨b, o, y, rfl, hb', h2, q0, q1, q2, q3⟩ := elems_at hE.1.addr hi
  have HF := Lib.hid (famIs_at (f := f) h2)
  have hi' : (i : Int) < (x.elems.length : Int) := by omega
  clear h2 hE hB hc y0
  go_enter Try.func44, Try.ntmps44
  go_wp2_with fail
  go_quiet (fail)
  go_wp2_with fail
  go_ret
  exact ⟨ret_bool HF.out.symm, (Kept.refl _).drewN _⟩
set_option maxHeartbeats 1000000 in
theorem indicesOf_any (x : CodeD) (f : Int) (A A2 : Option Addr) (c c2 : Nat) (g h : Nat) (w : World) (hE : Elems w (.slice A x.elems.length c) x.elems) (hl : x.elems.length ≤ 1048576) (hB : Box w g 26 #[.slice A x.elems.length c, .slice A2 x.limits.length c2, .int .i64 x.repeats, .int .i64 x.bonus, .int .i64 x.keeps, .int .i64 x.fall])
    (hc : Box w h 3 #[.int .i64 f]) :
    Calls Try.prog 43 #[.int .i64 (x.elems.length : Int), .func (.func 44) #[] #[.pointer (some ⟨g, 0, none⟩), .pointer (some ⟨h, 0, none⟩)]] w fun e w' => ∃ v', e = .returned v' ∧ OwnI w' w.heap.size v' (ofF x.elems f x.elems.length) ∧ Kept w w' := by
  have HE := Lib.hid hE
  have HB := Lib.hid hB
  have HC := Lib.hid hc
  clear hE hB hc
  go_enter Try.func43, Try.ntmps43
  go_wp2_with fail
  go_loopw [5, 9] (fun q i wr => ∃ k : Nat, k ≤ x.elems.length ∧ i = .int .i64 k ∧ OwnI wr w.heap.size q (ofF x.elems f k) ∧ Kept w wr) (fun _ i _ => x.elems.length - (intOf i).toNat)
  case atStart => exact ⟨0, Nat.zero_le _, rfl, own_made _ _ 1 (Nat.le_refl _) (Box.new _ _ _ _ rfl), (Kept.refl _).alloc _⟩
  case round =>
    obtain ⟨k, hk, rfl, ho, hkept⟩ := hrel
    by_cases hlt : k < x.elems.length
    · have hlen := ofF_len x.elems f k
      have HO := Lib.hid ho
      have hsz := hkept.size
      clear ho
      go_wp2_with fail
      refine (famAt_any k x f A A2 c c2 g h _ (HE.out.kept hkept) hlt (HB.out.kept hkept) (HC.out.kept hkept)).mono ?_
      rintro e w1 ⟨rfl, k1⟩
      have hsz1 := k1.size
      by_cases hf : famIs x.elems f k = true
      · have HN := Lib.hid (ofF_yes hf)
        rw [hf]
        clear hf
        go_wp2_with (at_builtin; refine wpList_append_int _ rfl _ _ rfl w.heap.size _ (ofF x.elems f k) rfl ((HO.out.kept k1).kept ((Kept.refl _).alloc _)) _ (k : Int) rfl ((Box.new _ _ _ _ rfl).cell 0) (by omega) (by simp; omega) ?_; intro v' w' ho' hg)
        have kg := ((hkept.trans k1).alloc (.cells #[.int .i64 (k : Int)] 3)).grew ((HO.out.kept k1).kept ((Kept.refl _).alloc _)) hg (Nat.le_refl _)
        have HO' := Lib.hid ho'
        clear ho' hg
        go_wp2_with fail
        go_roundw
        case rel => exact ⟨k + 1, by omega, by go_num, by rw [HN.out]; exact HO'.out, kg⟩
        case measure => simp [intOf]; omega
      · simp only [Bool.not_eq_true] at hf
        have HN := Lib.hid (ofF_no hf)
        rw [hf]
        clear hf
        go_wp2_with fail
        go_roundw
        case rel => exact ⟨k + 1, by omega, by go_num, by rw [HN.out]; exact HO.out.kept k1, hkept.trans k1⟩
        case measure => simp [intOf]; omega
    · obtain rfl : k = x.elems.length := by omega
      have HO := Lib.hid ho
      clear ho
      go_wp2_with fail
      go_ret
      exact ⟨_, rfl, HO.out, hkept⟩
set_option maxHeartbeats 2000000 in
theorem ofFamily_any (v : Value) (x : CodeD) (f : Int) (w : World) (h : CodeAt w v x) :
    Calls Try.prog 6 #[v, .int .i64 f] w fun e w' => ∃ v', e = .returned (.tuple #[v', .bool (askedB x f)]) ∧ OwnI w' w.heap.size v' (ofV x f) ∧ Kept w w' := by
  have h0 := h
  obtain ⟨nv, mv, rfl, q1, q2⟩ := h
  obtain ⟨A, c, rfl, hnc, hcm, hl⟩ := q1.1.out
  obtain ⟨A2, c2, rfl, _, _, _⟩ := q2.out
  unfold maxLen at hcm
  have HL := Lib.hid hl
  have HS := Lib.hid q1.2
  have H0 := Lib.hid h0
  have HE := Lib.hid q1
  clear h0 q1 q2 hl
  go_enter Try.func6, Try.ntmps6
  go_wp2_with fail
  have B0 := (Box.new w w.heap.size 26 #[.slice A x.elems.length c, .slice A2 x.limits.length c2, .int .i64 x.repeats, .int .i64 x.bonus, .int .i64 x.keeps, .int .i64 x.fall] rfl).alloc (.cells #[.int .i64 f] 3)
  have B9 := Box.new (w.alloc (.cells #[.slice A x.elems.length c, .slice A2 x.limits.length c2, .int .i64 x.repeats, .int .i64 x.bonus, .int .i64 x.keeps, .int .i64 x.fall] 26)) (w.heap.size + 1) 3 #[.int .i64 f] (by simp)
  have K0 : Kept w ((w.alloc (.cells #[.slice A x.elems.length c, .slice A2 x.limits.length c2, .int .i64 x.repeats, .int .i64 x.bonus, .int .i64 x.keeps, .int .i64 x.fall] 26)).alloc (.cells #[.int .i64 f] 3)) := ((Kept.refl w).alloc _).alloc _
  generalize (w.alloc (.cells #[.slice A x.elems.length c, .slice A2 x.limits.length c2, .int .i64 x.repeats, .int .i64 x.bonus, .int .i64 x.keeps, .int .i64 x.fall] 26)).alloc (.cells #[.int .i64 f] 3) = w0 at *
  refine (isCode_any _ x _ (H0.out.kept K0)).mono ?_
  rintro e w1 ⟨rfl, k1⟩
  replace B9 := B9.kept k1
  have hc9 : w1.cell? ⟨w.heap.size + 1, 0, none⟩ = some (.int .i64 f) := B9.cell 0
  by_cases hb : askedB x f = true
  case neg =>
    simp only [Bool.not_eq_true] at hb
    have HB := Lib.hid hb
    by_cases hc : codeB x = true
    · rw [hc]
      unfold askedB at hb
      rw [hc, Bool.true_and] at hb
      go_wp2_with (go_at_call 42; refine (isFamily_any _ _).mono ?_; rintro e w' ⟨rfl, rfl⟩)
      go_ret2
      exact ⟨_, ret_vb HB.out.symm, by rw [ofV_no HB.out]; exact own_nil _ _, K0.trans k1⟩
    · simp only [Bool.not_eq_true] at hc
      rw [hc]
      clear hb
      go_wp2_with fail
      go_ret2
      exact ⟨_, ret_vb HB.out.symm, by rw [ofV_no HB.out]; exact own_nil _ _, K0.trans k1⟩
  have hc : codeB x = true := asked_code hb
  have hd : inB f 0 4 = true := asked_fam hb
  rw [hc]
  clear hc
  have HB := Lib.hid hb
  have B1 := B0.kept k1
  have K1 := K0.trans k1
  clear B0 K0 k1 hb
  have hl24 : x.elems.length ≤ 24 := (codeB_heads (asked_code HB.out)).1.2
  obtain ⟨x0, y0⟩ := B1.six
  go_wp2_with (first | (go_at_call 42; refine (isFamily_any _ _).mono ?_; rintro e w' ⟨rfl, rfl⟩) | (go_at_call 43; refine (indicesOf_any x f A A2 c c2 _ _ _ (HE.out.kept K1) (by omega) B1 B9).mono ?_; rintro e w2 ⟨v2, rfl, o2, k2⟩; clear x0 y0 hc9; have O2 := Lib.hid o2; clear o2))
  go_ret2
  exact ⟨_, ret_vb HB.out.symm, by rw [ofV_yes HB.out]; exact O2.out.base K1.size, K1.trans k2⟩
end Go.Proofs.Ytlmaiblfgbobnaa

/- append(out, xs...) to rows of the call's own, in the words of the readings. -/
namespace Go.Proofs.Ytlmaiblfgbobnaa
set_option linter.unusedVariables false
set_option linter.unusedSimpArgs false
open Go.RowKit

theorem run_append_of_nil {P : Program} (w : World) (base : Nat) (t ty e : TypeId) (i : TypeInfo) (size : Nat) (ht : P.underlying t = some (.slice e)) (hi : P.info? e = some i)
    (v : Value) (n : Nat) (xs : List Value) (hown : w.ownsRow base e size v n xs) (c : Nat) : (Builtin.append_ #[t, t] ty #[v, .slice none 0 c]).run P w = .ok v w := by
  rcases hown.2 with ⟨rfl, rfl⟩ | ⟨g, cap, cur, rfl, _, _, hnc, _⟩
  · simp [Builtin.append_, run_underlying ht, sizeOf, typeInfo, hi, Builtin.lenOf, Builtin.firstCells]
  · simp [Builtin.append_, run_underlying ht, sizeOf, typeInfo, hi, Builtin.lenOf, Builtin.firstCells, hnc, storeCells]
theorem run_append_seq {P : Program} (w : World) (base : Nat) (t ty e : TypeId) (i : TypeInfo) (z : Value) (size bytes : Nat) (ht : P.underlying t = some (.slice e)) (hi : P.info? e = some i) (hz : i.zero = some z)
    (hsize : i.size = size) (hby : i.bytes = bytes) (hzs : z.cells.size = size) (hsz : 0 < size)
    (v : Value) (n : Nat) (xs : List Value) (hown : w.ownsRow base e size v n xs)
    (u : Value) (m : Nat) (news : List Value) (hr : Seq w u m news) (hl : news.length = m * size) (h1 : ∀ y ∈ news, y.oneCell' = true)
    (h63 : n + m ≤ maxLen) (hbytes : (n + m) * bytes ≤ 140737488355328) (hbase : base ≤ w.heap.size) :
    ∃ v' w', (Builtin.append_ #[t, t] ty #[v, u]).run P w = .ok v' w' ∧ w'.ownsRow base e size v' (n + m) (xs ++ news) ∧ w.grownBy w' v.ownBlock := by
  obtain ⟨A, c, rfl, hnc, hcm, hA, hc⟩ := hr
  rcases A with _ | ad
  · obtain rfl := hA rfl
    obtain rfl : m = 0 := by omega
    obtain rfl : news = [] := List.eq_nil_of_length_eq_zero (by simpa using hl)
    exact ⟨v, w, run_append_of_nil w base t ty e i size ht hi v n xs hown 0, by simpa using hown, World.grownBy.refl w _⟩
  · have hcells : ∀ j y, news[j]? = some y → w.cell? (ad.add j) = some y := by
      intro j y hy
      have hm : 0 < m := by
        rcases Nat.eq_zero_or_pos m with h0 | h0
        · subst h0
          have : news = [] := List.eq_nil_of_length_eq_zero (by simpa using hl)
          subst this
          simp at hy
        · exact h0
      obtain ⟨b, o', e1, hb, hcell⟩ := hc hm
      injection e1 with e1
      subst e1
      have := hcell j y hy
      rwa [show (⟨b, o', none⟩ : Addr).add j = ⟨b, o' + j, none⟩ from by unfold Addr.add; split <;> simp_all]
    obtain ⟨v', w', hrun, h2, h3, _, _⟩ := run_append_own_at (P := P) w base t ty e i z size bytes ht hi hz hsize hby hzs hsz v n xs hown ad m c news hl hcells h1 h63 hbytes hbase
    exact ⟨v', w', hrun, h2, h3⟩
theorem wp_append_seq {P : Program} (w : World) {o : Oper} {a : Act} {K : Act → World → Prop} {Q : Exit → Act → World → Prop} (s x : Operand) (t : TypeId)
    (ho : o.op = .call { callee := .builtin .append, args := #[s, x], argTypes := #[t, t] })
    (base : Nat) (e : TypeId) (i : TypeInfo) (z : Value) (size bytes : Nat) (ht : P.underlying t = some (.slice e)) (hi : P.info? e = some i) (hz : i.zero = some z)
    (hsize : i.size = size) (hby : i.bytes = bytes) (hzs : z.cells.size = size) (hsz : 0 < size)
    (v : Value) (n : Nat) (xs : List Value) (hs : a.eval s = v) (hown : w.ownsRow base e size v n xs)
    (u : Value) (m : Nat) (news : List Value) (hx : a.eval x = u) (hr : Seq w u m news) (hl : news.length = m * size) (h1 : ∀ y ∈ news, y.oneCell' = true)
    (h63 : n + m ≤ maxLen) (hbytes : (n + m) * bytes ≤ 140737488355328) (hbase : base ≤ w.heap.size)
    (h : ∀ v' w', w'.ownsRow base e size v' (n + m) (xs ++ news) → w.grownBy w' v.ownBlock → K (a.put o.dst v') w') : o.wp P a w K Q := by
  obtain ⟨v', w', hrun, h2, h3⟩ := run_append_seq (P := P) w base t o.type e i z size bytes ht hi hz hsize hby hzs hsz v n xs hown u m news hr hl h1 h63 hbytes hbase
  unfold Oper.wp execOp
  simp only [ho, resolve, invoke, builtin, Sem.run_bind, Sem.run_pure, Result.andThen_ok, List.map_toArray, List.map_cons, List.map_nil, hs, hx, hrun]
  exact h v' w' h2 h3

theorem wp_append_I (w : World) {o : Oper} {a : Act} {K : Act → World → Prop} {Q : Exit → Act → World → Prop} (s x : Operand)
    (ho : o.op = .call { callee := .builtin .append, args := #[s, x], argTypes := #[24, 24] })
    (base : Nat) (v : Value) (zs : List Int) (hs : a.eval s = v) (hown : OwnI w base v zs) (u : Value) (ys : List Int) (hx : a.eval x = u) (hr : Ints w u ys)
    (hl : zs.length + ys.length ≤ 16777216) (hbase : base ≤ w.heap.size)
    (h : ∀ v' w', OwnI w' base v' (zs ++ ys) → w.grownBy w' v.ownBlock → K (a.put o.dst v') w') : o.wp Try.prog a w K Q := by
  obtain ⟨i0, hi, hz0, hz1, hz2⟩ := info_parts info_int
  refine wp_append_seq w s x 24 ho base 3 i0 _ 1 8 Try.underlying24 hi hz0 hz1 hz2 rfl (by omega) v zs.length _ hs hown u ys.length _ hx hr (by simp) ?_ (by unfold maxLen; omega) (by omega) hbase (fun v' w' q1 q2 => h v' w' ?_ q2)
  · intro y hy
    obtain ⟨_, _, rfl⟩ := List.mem_map.1 hy; rfl
  · unfold OwnI; rw [List.length_append, List.map_append]; exact q1
theorem wpList_append_I (w : World) {ops : Array Oper} {rest : List Oper} {o : Oper} {a : Act} {Q : Exit → Act → World → Prop} (hgd : o.guard = none) (s x : Operand)
    (ho : o.op = .call { callee := .builtin .append, args := #[s, x], argTypes := #[24, 24] })
    (base : Nat) (v : Value) (zs : List Int) (hs : a.eval s = v) (hown : OwnI w base v zs) (u : Value) (ys : List Int) (hx : a.eval x = u) (hr : Ints w u ys)
    (hl : zs.length + ys.length ≤ 16777216) (hbase : base ≤ w.heap.size)
    (h : ∀ v' w', OwnI w' base v' (zs ++ ys) → w.grownBy w' v.ownBlock → wpList Try.prog ops Q rest (a.put o.dst v') w') : wpList Try.prog ops Q (o :: rest) a w :=
  wpList_plain hgd fun _ hK => wp_append_I w s x ho base v zs hs hown u ys hx hr hl hbase fun v' w' h2 h3 => hK _ _ (h v' w' h2 h3)
theorem step_append_I (w : World) {ops : Array Oper} {o : Oper} {a : Act} {K : Act → World → Prop} {Q : Exit → Act → World → Prop} {E : Prop} (hgd : o.guard = none) (s x : Operand)
    (ho : o.op = .call { callee := .builtin .append, args := #[s, x], argTypes := #[24, 24] })
    (base : Nat) (v : Value) (zs : List Int) (hs : a.eval s = v) (hown : OwnI w base v zs) (u : Value) (ys : List Int) (hx : a.eval x = u) (hr : Ints w u ys)
    (hl : zs.length + ys.length ≤ 16777216) (hbase : base ≤ w.heap.size)
    (h : ∀ v' w', OwnI w' base v' (zs ++ ys) → w.grownBy w' v.ownBlock → K (a.put o.dst v') w') :
    if Region.wanted o (yielded ops a.tmps) = true then Oper.wp Try.prog o a w K Q else E := by
  have hw : Region.wanted o (yielded ops a.tmps) = true := by simp [Region.wanted, hgd]
  rw [if_pos hw]
  exact wp_append_I w s x ho base v zs hs hown u ys hx hr hl hbase h
end Go.Proofs.Ytlmaiblfgbobnaa

/- append(out, xs...) to rows of the call's own, in the words of the readings. -/
namespace Go.Proofs.Ytlmaiblfgbobnaa
set_option linter.unusedVariables false
set_option linter.unusedSimpArgs false
open Go.RowKit

theorem wp_append_E (w : World) {o : Oper} {a : Act} {K : Act → World → Prop} {Q : Exit → Act → World → Prop} (s x : Operand)
    (ho : o.op = .call { callee := .builtin .append, args := #[s, x], argTypes := #[23, 23] })
    (base : Nat) (v : Value) (zs : List ElemD) (hs : a.eval s = v) (hown : OwnE w base v zs) (u : Value) (ys : List ElemD) (hx : a.eval x = u) (hr : Elems w u ys)
    (hl : zs.length + ys.length ≤ 16777216) (hbase : base ≤ w.heap.size)
    (h : ∀ v' w', OwnE w' base v' (zs ++ ys) → w.grownBy w' v.ownBlock → K (a.put o.dst v') w') : o.wp Try.prog a w K Q := by
  obtain ⟨i0, hi, hz0, hz1, hz2⟩ := info_parts info_elem
  refine wp_append_seq w s x 23 ho base 43 i0 _ 4 40 Try.underlying23 hi hz0 hz1 hz2 rfl (by omega) v zs.length _ hs hown.1 u ys.length _ hx hr.1 (by rw [flat_length cells4 4 (fun _ => rfl)]) ?_ (by unfold maxLen; omega) (by omega) hbase (fun v' w' q1 q2 => h v' w' ?_ q2)
  · intro y hy
    obtain ⟨e, _, he⟩ := List.mem_flatMap.1 hy; simp only [cells4, List.mem_cons, List.not_mem_nil, or_false] at he; rcases he with rfl | rfl | rfl | rfl <;> rfl
  · refine ⟨?_, ?_⟩
    · rw [List.length_append, List.flatMap_append]
      exact q1
    · intro e he
      rcases List.mem_append.1 he with he | he
      · exact hown.2 e he
      · exact hr.2 e he
theorem wpList_append_E (w : World) {ops : Array Oper} {rest : List Oper} {o : Oper} {a : Act} {Q : Exit → Act → World → Prop} (hgd : o.guard = none) (s x : Operand)
    (ho : o.op = .call { callee := .builtin .append, args := #[s, x], argTypes := #[23, 23] })
    (base : Nat) (v : Value) (zs : List ElemD) (hs : a.eval s = v) (hown : OwnE w base v zs) (u : Value) (ys : List ElemD) (hx : a.eval x = u) (hr : Elems w u ys)
    (hl : zs.length + ys.length ≤ 16777216) (hbase : base ≤ w.heap.size)
    (h : ∀ v' w', OwnE w' base v' (zs ++ ys) → w.grownBy w' v.ownBlock → wpList Try.prog ops Q rest (a.put o.dst v') w') : wpList Try.prog ops Q (o :: rest) a w :=
  wpList_plain hgd fun _ hK => wp_append_E w s x ho base v zs hs hown u ys hx hr hl hbase fun v' w' h2 h3 => hK _ _ (h v' w' h2 h3)
theorem step_append_E (w : World) {ops : Array Oper} {o : Oper} {a : Act} {K : Act → World → Prop} {Q : Exit → Act → World → Prop} {E : Prop} (hgd : o.guard = none) (s x : Operand)
    (ho : o.op = .call { callee := .builtin .append, args := #[s, x], argTypes := #[23, 23] })
    (base : Nat) (v : Value) (zs : List ElemD) (hs : a.eval s = v) (hown : OwnE w base v zs) (u : Value) (ys : List ElemD) (hx : a.eval x = u) (hr : Elems w u ys)
    (hl : zs.length + ys.length ≤ 16777216) (hbase : base ≤ w.heap.size)
    (h : ∀ v' w', OwnE w' base v' (zs ++ ys) → w.grownBy w' v.ownBlock → K (a.put o.dst v') w') :
    if Region.wanted o (yielded ops a.tmps) = true then Oper.wp Try.prog o a w K Q else E := by
  have hw : Region.wanted o (yielded ops a.tmps) = true := by simp [Region.wanted, hgd]
  rw [if_pos hw]
  exact wp_append_E w s x ho base v zs hs hown u ys hx hr hl hbase h
end Go.Proofs.Ytlmaiblfgbobnaa

/- Codes copied by the reference and by the program. -/
namespace Go.Proofs.Ytlmaiblfgbobnaa
set_option linter.unusedVariables false
set_option linter.unusedSimpArgs false
open Go.RowKit

theorem Box.far6 {w : World} {b g : Nat} {t : TypeId} {cs : Array Value} (h : Box w b t cs) (hne : b ≠ g) (u0 u1 u2 u3 u4 u5 : Value) :
    Box ((((((w.setCell ⟨g, 0, none⟩ u0).setCell ⟨g, 1, none⟩ u1).setCell ⟨g, 2, none⟩ u2).setCell ⟨g, 3, none⟩ u3).setCell ⟨g, 4, none⟩ u4).setCell ⟨g, 5, none⟩ u5) b t cs :=
  (((((h.far ⟨g, 0, none⟩ hne u0).far ⟨g, 1, none⟩ hne u1).far ⟨g, 2, none⟩ hne u2).far ⟨g, 3, none⟩ hne u3).far ⟨g, 4, none⟩ hne u4).far ⟨g, 5, none⟩ hne u5
theorem set6 {w : World} {g : Nat} {t : TypeId} {x0 x1 x2 x3 x4 x5 : Value} (h : Box w g t #[x0, x1, x2, x3, x4, x5]) (u0 u1 u2 u3 u4 u5 : Value) :
    ∃ w3, w3 = ((((((w.setCell ⟨g, 0, none⟩ u0).setCell ⟨g, 1, none⟩ u1).setCell ⟨g, 2, none⟩ u2).setCell ⟨g, 3, none⟩ u3).setCell ⟨g, 4, none⟩ u4).setCell ⟨g, 5, none⟩ u5) ∧ Box w3 g t #[u0, u1, u2, u3, u4, u5] ∧ Only [g] w w3 := by
  refine ⟨_, rfl, (((((h.set 0 u0).set 1 u1).set 2 u2).set 3 u3).set 4 u4).set 5 u5, ?_⟩
  repeat (refine Only.setCell ?_ (by simp) _)
  exact Only.refl _ _
theorem l1Own_any (v : Value) (zs : List Int) (w : World) (h : Ints w v zs) (hn : zs.length ≤ 1048576) :
    Calls Try.prog 82 #[v] w fun e w' => ∃ v', e = .returned v' ∧ OwnI w' w.heap.size v' zs ∧ Kept w w' := by
  have H := Lib.hid h
  clear h
  go_enter Try.func82, Try.ntmps82
  go_wp2_with (at_builtin; refine wpList_append_I _ rfl _ _ rfl w.heap.size _ [] rfl (own_made _ _ 1 (Nat.le_refl _) (Box.new _ _ _ _ rfl)) _ zs rfl (H.out.kept ((Kept.refl _).alloc _)) (by simp; omega) (by simp) ?_; intro v' w' ho' hg)
  have kg := ((Kept.refl w).alloc (.cells #[] 3)).grew (own_made (base := w.heap.size) _ _ 1 (Nat.le_refl _) (Box.new _ _ _ _ rfl)) hg (Nat.le_refl _)
  go_ret
  exact ⟨_, rfl, ho', kg⟩
theorem copyInts_any (v : Value) (zs : List Int) (w : World) (h : Ints w v zs) (hn : zs.length ≤ 1048576) :
    Calls Try.prog 79 #[v] w fun e w' => ∃ v', e = .returned v' ∧ OwnI w' w.heap.size v' zs ∧ Kept w w' := by
  have H := Lib.hid h
  clear h
  go_enter Try.func79, Try.ntmps79
  go_wp2_with (at_builtin; refine wpList_append_I _ rfl _ _ rfl w.heap.size _ [] rfl (own_made _ _ 1 (Nat.le_refl _) (Box.new _ _ _ _ rfl)) _ zs rfl (H.out.kept ((Kept.refl _).alloc _)) (by simp; omega) (by simp) ?_; intro v' w' ho' hg)
  have kg := ((Kept.refl w).alloc (.cells #[] 3)).grew (own_made (base := w.heap.size) _ _ 1 (Nat.le_refl _) (Box.new _ _ _ _ rfl)) hg (Nat.le_refl _)
  go_ret
  exact ⟨_, rfl, ho', kg⟩
set_option maxRecDepth 100000 in
set_option maxHeartbeats 4000000 in
theorem cdOwn_any (v : Value) (x : CodeD) (w : World) (h : CodeAt w v x) (hn : x.elems.length ≤ 1048576) (hm : x.limits.length ≤ 1048576) :
    Calls Try.prog 52 #[v] w fun e w' => ∃ v', e = .returned v' ∧ OwnK w' w.heap.size v' x ∧ Kept w w' := by
  obtain ⟨nv, mv, rfl, q1, q2⟩ := h
  obtain ⟨A, c, rfl, hnc, hcm, hl⟩ := q1.1.out
  obtain ⟨A2, c2, rfl, _, _, _⟩ := q2.out
  have H1 := Lib.hid q1
  have H2 := Lib.hid q2
  clear q1 q2 hl
  go_enter Try.func52, Try.ntmps52
  go_wp2_with fail
  have B0 := (Box.new w w.heap.size 26 #[.slice A x.elems.length c, .slice A2 x.limits.length c2, .int .i64 x.repeats, .int .i64 x.bonus, .int .i64 x.keeps, .int .i64 x.fall] rfl).alloc (.cells #[.slice none 0 0, .slice none 0 0, .int .i64 0, .int .i64 0, .int .i64 0, .int .i64 0] 26)
  have B1 := Box.new (w.alloc (.cells #[.slice A x.elems.length c, .slice A2 x.limits.length c2, .int .i64 x.repeats, .int .i64 x.bonus, .int .i64 x.keeps, .int .i64 x.fall] 26)) (w.heap.size + 1) 26 #[.slice none 0 0, .slice none 0 0, .int .i64 0, .int .i64 0, .int .i64 0, .int .i64 0] (by simp)
  have K0 : Kept w ((w.alloc (.cells #[.slice A x.elems.length c, .slice A2 x.limits.length c2, .int .i64 x.repeats, .int .i64 x.bonus, .int .i64 x.keeps, .int .i64 x.fall] 26)).alloc (.cells #[.slice none 0 0, .slice none 0 0, .int .i64 0, .int .i64 0, .int .i64 0, .int .i64 0] 26)) := ((Kept.refl w).alloc _).alloc _
  generalize (w.alloc (.cells #[.slice A x.elems.length c, .slice A2 x.limits.length c2, .int .i64 x.repeats, .int .i64 x.bonus, .int .i64 x.keeps, .int .i64 x.fall] 26)).alloc (.cells #[.slice none 0 0, .slice none 0 0, .int .i64 0, .int .i64 0, .int .i64 0, .int .i64 0] 26) = w0 at *
  replace B0 : Box w0.drew w.heap.size 26 _ := B0
  have hz0 : w.heap.size + 1 < w0.heap.size := B1.lt
  have B1d : Box w0.drew (w.heap.size + 1) 26 #[.slice none 0 0, .slice none 0 0, .int .i64 0, .int .i64 0, .int .i64 0, .int .i64 0] := B1
  have K0d : Kept w w0.drew := K0.drew
  have B0a : Box (w0.alloc (.cells #[] 43)).drew w.heap.size 26 #[.slice A x.elems.length c, .slice A2 x.limits.length c2, .int .i64 x.repeats, .int .i64 x.bonus, .int .i64 x.keeps, .int .i64 x.fall] := B0.alloc _
  clear B1
  go_region_held3 (fun w' => w'.cell? ⟨w.heap.size, 0, none⟩ = some (.slice A x.elems.length c) ∧ w'.cell? ⟨w.heap.size, 1, none⟩ = some (.slice A2 x.limits.length c2) ∧ w'.cell? ⟨w.heap.size, 2, none⟩ = some (.int .i64 x.repeats) ∧ w'.cell? ⟨w.heap.size, 3, none⟩ = some (.int .i64 x.bonus) ∧ w'.cell? ⟨w.heap.size, 4, none⟩ = some (.int .i64 x.keeps) ∧ w'.cell? ⟨w.heap.size, 5, none⟩ = some (.int .i64 x.fall)) (first | (with_reducible exact B0.six.1) | (with_reducible exact B0a.six.1) | (with_reducible exact (B0.kept (by assumption)).six.1) | (with_reducible exact (Box.far6 (B0.kept (by assumption)) (by omega) _ _ _ _ _ _).six.1))
    (first | (refine step_append_E _ rfl _ _ rfl w0.drew.heap.size _ [] rfl ⟨own_made _ _ 4 (Nat.le_refl _) (Box.new _ _ _ _ rfl), (fun _ h => by cases h)⟩ _ x.elems rfl (H1.out.kept (K0d.alloc _)) (by simp; omega) (by simp) ?_; intro v1 w1 o1 hg1; have k1 := ((Kept.refl w0.drew).alloc (.cells #[] 43)).grew (own_made (base := w0.drew.heap.size) _ _ 4 (Nat.le_refl _) (Box.new _ _ _ _ rfl)) hg1 (Nat.le_refl _); clear hg1; obtain ⟨A1, c1, rfl, _, _, _⟩ := own_form o1.1; have O1 := Lib.hid o1; clear o1) | (go_at_call 82; refine (l1Own_any _ x.limits _ (H2.out.kept (K0d.trans k1)) hm).mono ?_; rintro e w2 ⟨v2, rfl, o2, k2⟩; have k12 := k1.trans k2; obtain ⟨A3, c3, rfl, _, _, _⟩ := own_form o2; have O2 := Lib.hid o2; clear o2; obtain ⟨cc, ff⟩ := (B1d.kept k12).six))
  rename_i hheld
  clear hheld cc ff
  obtain ⟨w3, hw3, B3, Q3⟩ := set6 (B1d.kept k12) (.slice A1 x.elems.length c1) (.slice A3 x.limits.length c3) (.int .i64 x.repeats) (.int .i64 x.bonus) (.int .i64 x.keeps) (.int .i64 x.fall)
  rw [← hw3]
  clear hw3
  obtain ⟨cc, ff⟩ := B3.six
  go_wp2_with fail
  have hz1 := k1.size
  have hz2 := k2.size
  have hzd : w0.drew.heap.size = w0.heap.size := rfl
  refine bodyPost_ret (v := .agg #[.slice A1 x.elems.length c1, .slice A3 x.limits.length c3, .int .i64 x.repeats, .int .i64 x.bonus, .int .i64 x.keeps, .int .i64 x.fall]) (by simp [results, Try.results52, go_sem, cc, ff]) rfl ⟨_, rfl, ⟨_, _, rfl, ?_, ?_, ?_⟩, ?_⟩
  · exact OwnE.far (S := [w.heap.size + 1]) (O1.out.kept k2) Q3 (by simp; omega) (by omega)
  · exact OwnI.far (S := [w.heap.size + 1]) O2.out Q3 (by simp; omega) (by omega)
  · rw [fpA_code]
    exact nodup_fp (m := w1.heap.size) (fun y hy => (own_fp O1.out.1 y hy).2) (fun y hy => (own_fp O2.out y hy).1)
  · exact Q3.above (K0d.trans k12) (by simp)
end Go.Proofs.Ytlmaiblfgbobnaa

/- Codes: a code if it is valid. -/
namespace Go.Proofs.Ytlmaiblfgbobnaa
set_option linter.unusedVariables false
set_option linter.unusedSimpArgs false
open Go.RowKit

def zeroC : CodeD := ⟨[], [], 0, 0, 0, 0⟩
def ifC (x : CodeD) : CodeD := if codeB x then x else zeroC
theorem ifC_yes {x : CodeD} (h : codeB x = true) : ifC x = x := if_pos h
theorem ifC_no {x : CodeD} (h : codeB x = false) : ifC x = zeroC := by unfold ifC; rw [h]; rfl
theorem zeroC_own (w : World) (base : Nat) : OwnK w base (.agg #[.slice none 0 0, .slice none 0 0, .int .i64 0, .int .i64 0, .int .i64 0, .int .i64 0]) zeroC :=
  ⟨_, _, rfl, ⟨World.ownsRow_nil _ _ _ _, fun _ h => (by cases h)⟩, World.ownsRow_nil _ _ _ _, by rw [fpA_code]; simp [fp, Value.ownBlock]⟩
theorem OwnK.base {w : World} {base base' : Nat} {v : Value} {x : CodeD} (h : OwnK w base v x) (hb : base' ≤ base) : OwnK w base' v x := by
  obtain ⟨ev, lv, rfl, h1, h2, h3⟩ := h
  exact ⟨ev, lv, rfl, ⟨own_base h1.1 hb, h1.2⟩, own_base h2 hb, h3⟩
theorem OwnK.far {w w' : World} {base base' : Nat} {v : Value} {x : CodeD} {S : List Nat} (h : OwnK w base v x) (ho : Only S w w') (hS : ∀ b ∈ S, b < base ∨ w.heap.size ≤ b) (hb : base' ≤ base) : OwnK w' base' v x :=
  OwnK.base (h.only ho (fun b hb hs => by have := h.fps b hb; have := hS b hs; omega)) hb
theorem Box.zero6 {w : World} {b : Nat} {t : TypeId} (h : Box w b t #[.slice none 0 0, .slice none 0 0, .int .i64 0, .int .i64 0, .int .i64 0, .int .i64 0]) : True := trivial
set_option maxHeartbeats 4000000 in
theorem cdIf_any (v : Value) (x : CodeD) (w : World) (base : Nat) (h : OwnK w base v x) (hbase : base ≤ w.heap.size) :
    Calls Try.prog 53 #[v] w fun e w' => ∃ v', e = .returned (.tuple #[v', .bool (codeB x)]) ∧ OwnK w' base v' (ifC x) ∧ Kept w w' := by
  have HK := Lib.hid h
  obtain ⟨ev, lv, rfl, h1, h2, _⟩ := h
  obtain ⟨A, c, rfl, _⟩ := own_form h1.1
  obtain ⟨A2, c2, rfl, _⟩ := own_form h2
  clear h1 h2
  go_enter Try.func53, Try.ntmps53
  go_wp2_with fail
  have B0 := (Box.new w w.heap.size 26 #[.slice A x.elems.length c, .slice A2 x.limits.length c2, .int .i64 x.repeats, .int .i64 x.bonus, .int .i64 x.keeps, .int .i64 x.fall] rfl).alloc (.cells #[.slice none 0 0, .slice none 0 0, .int .i64 0, .int .i64 0, .int .i64 0, .int .i64 0] 26)
  have B1 := Box.new (w.alloc (.cells #[.slice A x.elems.length c, .slice A2 x.limits.length c2, .int .i64 x.repeats, .int .i64 x.bonus, .int .i64 x.keeps, .int .i64 x.fall] 26)) (w.heap.size + 1) 26 #[.slice none 0 0, .slice none 0 0, .int .i64 0, .int .i64 0, .int .i64 0, .int .i64 0] (by simp)
  have K0 : Kept w ((w.alloc (.cells #[.slice A x.elems.length c, .slice A2 x.limits.length c2, .int .i64 x.repeats, .int .i64 x.bonus, .int .i64 x.keeps, .int .i64 x.fall] 26)).alloc (.cells #[.slice none 0 0, .slice none 0 0, .int .i64 0, .int .i64 0, .int .i64 0, .int .i64 0] 26)) := ((Kept.refl w).alloc _).alloc _
  generalize (w.alloc (.cells #[.slice A x.elems.length c, .slice A2 x.limits.length c2, .int .i64 x.repeats, .int .i64 x.bonus, .int .i64 x.keeps, .int .i64 x.fall] 26)).alloc (.cells #[.slice none 0 0, .slice none 0 0, .int .i64 0, .int .i64 0, .int .i64 0, .int .i64 0] 26) = w0 at *
  refine (cdGood_any _ x _ (HK.out.kept K0).code).mono ?_
  rintro e w1 ⟨rfl, k1⟩
  replace B0 := B0.kept k1
  replace B1 := B1.kept k1
  have K1 := K0.trans k1
  have O1 := Lib.hid (HK.out.kept K1)
  clear K0 k1
  by_cases hb : codeB x = true
  · have HB := Lib.hid hb
    rw [hb]
    clear hb
    go_upto_region 3 with (fail)
    obtain ⟨x0, y0⟩ := B0.six
    obtain ⟨x1, y1⟩ := B1.six
    go_wp2_with fail
    clear x0 y0 x1 y1
    obtain ⟨w3, hw3, B3, Q3⟩ := set6 B1 (.slice A x.elems.length c) (.slice A2 x.limits.length c2) (.int .i64 x.repeats) (.int .i64 x.bonus) (.int .i64 x.keeps) (.int .i64 x.fall)
    rw [← hw3]
    clear hw3
    obtain ⟨cc, ff⟩ := B3.six
    refine bodyPost_ret (v := .tuple #[.agg #[.slice A x.elems.length c, .slice A2 x.limits.length c2, .int .i64 x.repeats, .int .i64 x.bonus, .int .i64 x.keeps, .int .i64 x.fall], .bool true]) (by simp [results, Try.results53, go_sem, cc, ff]) rfl ⟨_, by rw [HB.out], ?_, Q3.above K1 (by simp)⟩
    rw [ifC_yes HB.out]
    exact O1.out.only Q3 (fun b hb hs => by have := HK.out.fps b hb; simp at hs; omega)
  · simp only [Bool.not_eq_true] at hb
    have HB := Lib.hid hb
    rw [hb]
    clear hb
    go_upto_region 2 with (fail)
    obtain ⟨x0, y0⟩ := B0.six
    obtain ⟨x1, y1⟩ := B1.six
    go_wp2_with fail
    clear x0 y0 x1 y1
    obtain ⟨w3, hw3, B3, Q3⟩ := set6 B1 (.slice none 0 0) (.slice none 0 0) (.int .i64 0) (.int .i64 0) (.int .i64 0) (.int .i64 0)
    rw [← hw3]
    clear hw3
    obtain ⟨cc, ff⟩ := B3.six
    refine bodyPost_ret (v := .tuple #[.agg #[.slice none 0 0, .slice none 0 0, .int .i64 0, .int .i64 0, .int .i64 0, .int .i64 0], .bool false]) (by simp [results, Try.results53, go_sem, cc, ff]) rfl ⟨_, by rw [HB.out], ?_, Q3.above K1 (by simp)⟩
    rw [ifC_no HB.out]
    exact zeroC_own _ _
set_option maxHeartbeats 4000000 in
theorem asCode_any (v ev : Value) (x : CodeD) (es : List ElemD) (w : World) (base : Nat) (h : CodeAt w v x) (he : OwnE w base ev es) (hbase : base ≤ w.heap.size) (hm : x.limits.length ≤ 1048576) :
    Calls Try.prog 49 #[v, ev] w fun e w' => ∃ v', e = .returned (.tuple #[v', .bool (codeB { x with elems := es })]) ∧ OwnK w' base v' (ifC { x with elems := es }) ∧ Kept w w' := by
  obtain ⟨nv, lv, rfl, h1, h2⟩ := h
  obtain ⟨A, c, rfl, _⟩ := own_form he.1
  obtain ⟨A1, c1, rfl, _⟩ := h1.1.out
  obtain ⟨A2, c2, rfl, _⟩ := h2.out
  have HE := Lib.hid he
  have H2 := Lib.hid h2
  clear h1 h2 he
  go_enter Try.func49, Try.ntmps49
  go_wp2_with fail
  have B0 := (Box.new w w.heap.size 26 #[.slice A es.length c, .slice A2 x.limits.length c2, .int .i64 x.repeats, .int .i64 x.bonus, .int .i64 x.keeps, .int .i64 x.fall] rfl).alloc (.cells #[.slice none 0 0, .slice none 0 0, .int .i64 0, .int .i64 0, .int .i64 0, .int .i64 0] 26)
  have B1 := Box.new (w.alloc (.cells #[.slice A es.length c, .slice A2 x.limits.length c2, .int .i64 x.repeats, .int .i64 x.bonus, .int .i64 x.keeps, .int .i64 x.fall] 26)) (w.heap.size + 1) 26 #[.slice none 0 0, .slice none 0 0, .int .i64 0, .int .i64 0, .int .i64 0, .int .i64 0] (by simp)
  have K0 : Kept w ((w.alloc (.cells #[.slice A es.length c, .slice A2 x.limits.length c2, .int .i64 x.repeats, .int .i64 x.bonus, .int .i64 x.keeps, .int .i64 x.fall] 26)).alloc (.cells #[.slice none 0 0, .slice none 0 0, .int .i64 0, .int .i64 0, .int .i64 0, .int .i64 0] 26)) := ((Kept.refl w).alloc _).alloc _
  generalize (w.alloc (.cells #[.slice A es.length c, .slice A2 x.limits.length c2, .int .i64 x.repeats, .int .i64 x.bonus, .int .i64 x.keeps, .int .i64 x.fall] 26)).alloc (.cells #[.slice none 0 0, .slice none 0 0, .int .i64 0, .int .i64 0, .int .i64 0, .int .i64 0] 26) = w0 at *
  have hzw : w.heap.size + 1 < w0.heap.size := B1.lt
  refine (copyInts_any _ x.limits _ (H2.out.kept K0) hm).mono ?_
  rintro e w1 ⟨v1, rfl, o1, k1⟩
  obtain ⟨A3, c3, rfl, _⟩ := own_form o1
  replace B0 := B0.kept k1
  replace B1 := B1.kept k1
  have K1 := K0.trans k1
  have O1 := Lib.hid o1
  have OE := Lib.hid (HE.out.kept K1)
  have hz0 : w.heap.size + 1 < w1.heap.size := B1.lt
  have hz1 := k1.size
  clear K0 k1 o1
  obtain ⟨x0, y0⟩ := B0.six
  go_upto_region 3 with (fail)
  clear x0 y0
  obtain ⟨w2, hw2⟩ : ∃ w2, w2 = w1.setCell ⟨w.heap.size, 1, none⟩ (.slice A3 x.limits.length c3) := ⟨_, rfl⟩
  rw [← hw2]
  have Q2 : Only [w.heap.size] w1 w2 := by rw [hw2]; exact Only.setCell (Only.refl _ _) (by simp) _
  replace B0 : Box w2 w.heap.size 26 #[.slice A es.length c, .slice A3 x.limits.length c3, .int .i64 x.repeats, .int .i64 x.bonus, .int .i64 x.keeps, .int .i64 x.fall] := hw2 ▸ B0.set 1 _
  replace B1 := B1.only Q2 (by simp)
  have F1 := Lib.hid (own_fp HE.out.1)
  have F2 := Lib.hid (own_fp O1.out)
  have OK : OwnK w2 base (.agg #[.slice A es.length c, .slice A3 x.limits.length c3, .int .i64 x.repeats, .int .i64 x.bonus, .int .i64 x.keeps, .int .i64 x.fall]) { x with elems := es } := by
    refine ⟨_, _, rfl, OE.out.only Q2 (fun b hb hs => ?_), OwnI.base (O1.out.only Q2 (fun b hb hs => ?_)) (by omega), ?_⟩
    · have := F1.out b hb; simp at hs; omega
    · have := F2.out b hb; simp at hs; omega
    · rw [fpA_code]
      exact nodup_fp (m := w.heap.size) (fun y hy => (F1.out y hy).2) (fun y hy => by have := F2.out y hy; omega)
  have K2 : Kept w w2 := Q2.above K1 (by simp)
  have HK := Lib.hid OK
  have hz2 := Q2.size
  clear hw2 OE O1 F1 OK
  obtain ⟨x0, y0⟩ := B0.six
  go_wp2_with fail
  clear x0 y0
  refine (isCode_any _ { x with elems := es } _ HK.out.code).mono ?_
  rintro e w4 ⟨rfl, k4⟩
  replace B0 := B0.kept k4
  replace B1 := B1.kept k4
  have K4 := K2.trans k4
  have O4 := Lib.hid (HK.out.kept k4)
  clear k4
  have hz4 := K4.size
  have hne : ∀ b ∈ fpA (.agg #[.slice A es.length c, .slice A3 x.limits.length c3, .int .i64 x.repeats, .int .i64 x.bonus, .int .i64 x.keeps, .int .i64 x.fall]), b ≠ w.heap.size + 1 := by
    intro b hb e
    subst e
    rw [fpA_code] at hb
    rcases List.mem_append.1 hb with hb | hb
    · have := (own_fp HE.out.1 _ hb).2; omega
    · have := F2.out _ hb; omega
  have HNE := Lib.hid hne
  clear hne
  by_cases hb : codeB { x with elems := es } = true
  · have HB := Lib.hid hb
    rw [hb]
    clear hb
    go_upto_region 5 with (fail)
    obtain ⟨x0, y0⟩ := B0.six
    obtain ⟨x1, y1⟩ := B1.six
    go_wp2_with fail
    clear x0 y0 x1 y1
    obtain ⟨w3, hw3, B3, Q3⟩ := set6 B1 (.slice A es.length c) (.slice A3 x.limits.length c3) (.int .i64 x.repeats) (.int .i64 x.bonus) (.int .i64 x.keeps) (.int .i64 x.fall)
    rw [← hw3]
    clear hw3
    obtain ⟨cc, ff⟩ := B3.six
    refine bodyPost_ret (v := .tuple #[.agg #[.slice A es.length c, .slice A3 x.limits.length c3, .int .i64 x.repeats, .int .i64 x.bonus, .int .i64 x.keeps, .int .i64 x.fall], .bool true]) (by simp [results, Try.results49, go_sem, cc, ff]) rfl ⟨_, by rw [HB.out], ?_, Q3.above K4 (by simp)⟩
    rw [ifC_yes HB.out]
    exact O4.out.only Q3 (fun b hb hs => HNE.out b hb (by simpa using hs))
  · simp only [Bool.not_eq_true] at hb
    have HB := Lib.hid hb
    rw [hb]
    clear hb
    go_upto_region 4 with (fail)
    obtain ⟨x0, y0⟩ := B0.six
    obtain ⟨x1, y1⟩ := B1.six
    go_wp2_with fail
    clear x0 y0 x1 y1
    obtain ⟨w3, hw3, B3, Q3⟩ := set6 B1 (.slice none 0 0) (.slice none 0 0) (.int .i64 0) (.int .i64 0) (.int .i64 0) (.int .i64 0)
    rw [← hw3]
    clear hw3
    obtain ⟨cc, ff⟩ := B3.six
    refine bodyPost_ret (v := .tuple #[.agg #[.slice none 0 0, .slice none 0 0, .int .i64 0, .int .i64 0, .int .i64 0, .int .i64 0], .bool false]) (by simp [results, Try.results49, go_sem, cc, ff]) rfl ⟨_, by rw [HB.out], ?_, Q3.above K4 (by simp)⟩
    rw [ifC_no HB.out]
    exact zeroC_own _ _
theorem asCode_is (X : CodeD) (bb : Bool) (v ev : Value) (x : CodeD) (es : List ElemD) (w : World) (base : Nat) (hX : ifC { x with elems := es } = X) (hb : codeB { x with elems := es } = bb) (h : CodeAt w v x) (he : OwnE w base ev es) (hbase : base ≤ w.heap.size) (hm : x.limits.length ≤ 1048576) :
    Calls Try.prog 49 #[v, ev] w fun e w' => ∃ v', e = .returned (.tuple #[v', .bool bb]) ∧ OwnK w' base v' X ∧ Kept w w' := by
  subst hX hb
  exact asCode_any v ev x es w base h he hbase hm
theorem cdIf_is (X : CodeD) (bb : Bool) (v : Value) (x : CodeD) (w : World) (base : Nat) (hX : ifC x = X) (hb : codeB x = bb) (h : OwnK w base v x) (hbase : base ≤ w.heap.size) :
    Calls Try.prog 53 #[v] w fun e w' => ∃ v', e = .returned (.tuple #[v', .bool bb]) ∧ OwnK w' base v' X ∧ Kept w w' := by
  subst hX hb
  exact cdIf_any v x w base h hbase
end Go.Proofs.Ytlmaiblfgbobnaa
