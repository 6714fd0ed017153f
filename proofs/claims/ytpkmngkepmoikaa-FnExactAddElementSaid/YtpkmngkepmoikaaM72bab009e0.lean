/- Contracts of functions that the proof leans on. No condition. -/
import Derived.Test.YtpkmngkepmoikaaM87da8f4b87
import Derived.Deep.DeepCutAuto
import Derived.StillTailTactics
import Derived.Deep.RegionHeld3
import Derived.Laws.IdiomCopy
import Derived.Laws.Externs
import Derived.Lib.Overlaps
import Derived.Lib.AppendZerosOnto
import Derived.Lib.SliceRun
import Derived.Deep.RegionLaw
/- append(out, xs...) to rows of the call's own, in the words of the readings. -/
namespace Go.Proofs.Ytpkmngkepmoikaa
set_option linter.unusedVariables false
set_option linter.unusedSimpArgs false
open Go.RowKit

theorem run_append_of_nil {P : Program} (w : World) (base : Nat) (t ty e : TypeId) (i : TypeInfo) (size : Nat) (ht : P.underlying t = some (.slice e)) (hi : P.info? e = some i)
    (v : Value) (n : Nat) (xs : List Value) (hown : w.ownsRow base e size v n xs) (c : Nat) : (Builtin.append_ #[t, t] ty #[v, .slice none 0 c]).run P w = .ok v w := by
  rcases hown.2 with ⟨rfl, rfl⟩ | ⟨g, cap, cur, rfl, _, _, hnc, _⟩
  · simp [Builtin.append_, run_underlying ht, sizeOf, typeInfo, hi, Builtin.lenOf, Builtin.firstCells]
  · simp [Builtin.append_, run_underlying ht, sizeOf, typeInfo, hi, Builtin.lenOf, Builtin.firstCells, hnc, storeCells]
theorem run_append_seq {P : Program} (w : World) (base : Nat) (t ty e : TypeId) (i : TypeInfo) (z : Value) (size bytes : Nat) (ht : P.underlying t = some (.slice e)) (hi : P.info? e = some i) (hz : i.zero = some z)
    (hsize : i.size = size) (hby : i.bytes = bytes) (hzs : z.cells.size = size) (hsz : 0 < size)
    (v : Value) (n : Nat) (xs : List Value) (hown : w.ownsRow base e size v n xs)
    (u : Value) (m : Nat) (news : List Value) (hr : Seq w u m news) (hl : news.length = m * size) (h1 : ∀ y ∈ news, y.oneCell' = true)
    (h63 : n + m ≤ maxLen) (hbytes : (n + m) * bytes ≤ 140737488355328) (hbase : base ≤ w.heap.size) :
    ∃ v' w', (Builtin.append_ #[t, t] ty #[v, u]).run P w = .ok v' w' ∧ w'.ownsRow base e size v' (n + m) (xs ++ news) ∧ w.grownBy w' v.ownBlock := by
  obtain ⟨A, c, rfl, hnc, hcm, hA, hc⟩ := hr
  rcases A with _ | ad
  · obtain rfl := hA rfl
    obtain rfl : m = 0 := by omega
    obtain rfl : news = [] := List.eq_nil_of_length_eq_zero (by simpa using hl)
    exact ⟨v, w, run_append_of_nil w base t ty e i size ht hi v n xs hown 0, by simpa using hown, World.grownBy.refl w _⟩
  · have hcells : ∀ j y, news[j]? = some y → w.cell? (ad.add j) = some y := by
      intro j y hy
      have hm : 0 < m := by
        rcases Nat.eq_zero_or_pos m with h0 | h0
        · subst h0
          have : news = [] := List.eq_nil_of_length_eq_zero (by simpa using hl)
          subst this
          simp at hy
        · exact h0
      obtain ⟨b, o', e1, hb, hcell⟩ := hc hm
      injection e1 with e1
      subst e1
      have := hcell j y hy
      rwa [show (⟨b, o', none⟩ : Addr).add j = ⟨b, o' + j, none⟩ from by unfold Addr.add; split <;> simp_all]
    obtain ⟨v', w', hrun, h2, h3, _, _⟩ := run_append_own_at (P := P) w base t ty e i z size bytes ht hi hz hsize hby hzs hsz v n xs hown ad m c news hl hcells h1 h63 hbytes hbase
    exact ⟨v', w', hrun, h2, h3⟩
theorem wp_append_seq {P : Program} (w : World) {o : Oper} {a : Act} {K : Act → World → Prop} {Q : Exit → Act → World → Prop} (s x : Operand) (t : TypeId)
    (ho : o.op = .call { callee := .builtin .append, args := #[s, x], argTypes := #[t, t] })
    (base : Nat) (e : TypeId) (i : TypeInfo) (z : Value) (size bytes : Nat) (ht : P.underlying t = some (.slice e)) (hi : P.info? e = some i) (hz : i.zero = some z)
    (hsize : i.size = size) (hby : i.bytes = bytes) (hzs : z.cells.size = size) (hsz : 0 < size)
    (v : Value) (n : Nat) (xs : List Value) (hs : a.eval s = v) (hown : w.ownsRow base e size v n xs)
    (u : Value) (m : Nat) (news : List Value) (hx : a.eval x = u) (hr : Seq w u m news) (hl : news.length = m * size) (h1 : ∀ y ∈ news, y.oneCell' = true)
    (h63 : n + m ≤ maxLen) (hbytes : (n + m) * bytes ≤ 140737488355328) (hbase : base ≤ w.heap.size)
    (h : ∀ v' w', w'.ownsRow base e size v' (n + m) (xs ++ news) → w.grownBy w' v.ownBlock → K (a.put o.dst v') w') : o.wp P a w K Q := by
  obtain ⟨v', w', hrun, h2, h3⟩ := run_append_seq (P := P) w base t o.type e i z size bytes ht hi hz hsize hby hzs hsz v n xs hown u m news hr hl h1 h63 hbytes hbase
  unfold Oper.wp execOp
  simp only [ho, resolve, invoke, builtin, Sem.run_bind, Sem.run_pure, Result.andThen_ok, List.map_toArray, List.map_cons, List.map_nil, hs, hx, hrun]
  exact h v' w' h2 h3

theorem wp_append_I (w : World) {o : Oper} {a : Act} {K : Act → World → Prop} {Q : Exit → Act → World → Prop} (s x : Operand)
    (ho : o.op = .call { callee := .builtin .append, args := #[s, x], argTypes := #[23, 23] })
    (base : Nat) (v : Value) (zs : List Int) (hs : a.eval s = v) (hown : OwnI w base v zs) (u : Value) (ys : List Int) (hx : a.eval x = u) (hr : Ints w u ys)
    (hl : zs.length + ys.length ≤ 16777216) (hbase : base ≤ w.heap.size)
    (h : ∀ v' w', OwnI w' base v' (zs ++ ys) → w.grownBy w' v.ownBlock → K (a.put o.dst v') w') : o.wp Try.prog a w K Q := by
  obtain ⟨i0, hi, hz0, hz1, hz2⟩ := info_parts info_int
  refine wp_append_seq w s x 23 ho base 3 i0 _ 1 8 Try.underlying23 hi hz0 hz1 hz2 rfl (by omega) v zs.length _ hs hown u ys.length _ hx hr (by simp) ?_ (by unfold maxLen; omega) (by omega) hbase (fun v' w' q1 q2 => h v' w' ?_ q2)
  · intro y hy
    obtain ⟨_, _, rfl⟩ := List.mem_map.1 hy; rfl
  · unfold OwnI; rw [List.length_append, List.map_append]; exact q1
theorem wpList_append_I (w : World) {ops : Array Oper} {rest : List Oper} {o : Oper} {a : Act} {Q : Exit → Act → World → Prop} (hgd : o.guard = none) (s x : Operand)
    (ho : o.op = .call { callee := .builtin .append, args := #[s, x], argTypes := #[23, 23] })
    (base : Nat) (v : Value) (zs : List Int) (hs : a.eval s = v) (hown : OwnI w base v zs) (u : Value) (ys : List Int) (hx : a.eval x = u) (hr : Ints w u ys)
    (hl : zs.length + ys.length ≤ 16777216) (hbase : base ≤ w.heap.size)
    (h : ∀ v' w', OwnI w' base v' (zs ++ ys) → w.grownBy w' v.ownBlock → wpList Try.prog ops Q rest (a.put o.dst v') w') : wpList Try.prog ops Q (o :: rest) a w :=
  wpList_plain hgd fun _ hK => wp_append_I w s x ho base v zs hs hown u ys hx hr hl hbase fun v' w' h2 h3 => hK _ _ (h v' w' h2 h3)
theorem step_append_I (w : World) {ops : Array Oper} {o : Oper} {a : Act} {K : Act → World → Prop} {Q : Exit → Act → World → Prop} {E : Prop} (hgd : o.guard = none) (s x : Operand)
    (ho : o.op = .call { callee := .builtin .append, args := #[s, x], argTypes := #[23, 23] })
    (base : Nat) (v : Value) (zs : List Int) (hs : a.eval s = v) (hown : OwnI w base v zs) (u : Value) (ys : List Int) (hx : a.eval x = u) (hr : Ints w u ys)
    (hl : zs.length + ys.length ≤ 16777216) (hbase : base ≤ w.heap.size)
    (h : ∀ v' w', OwnI w' base v' (zs ++ ys) → w.grownBy w' v.ownBlock → K (a.put o.dst v') w') :
    if Region.wanted o (yielded ops a.tmps) = true then Oper.wp Try.prog o a w K Q else E := by
  have hw : Region.wanted o (yielded ops a.tmps) = true := by simp [Region.wanted, hgd]
  rw [if_pos hw]
  exact wp_append_I w s x ho base v zs hs hown u ys hx hr hl hbase h
end Go.Proofs.Ytpkmngkepmoikaa

/- append(out, xs...) to rows of the call's own, in the words of the readings. -/
namespace Go.Proofs.Ytpkmngkepmoikaa
set_option linter.unusedVariables false
set_option linter.unusedSimpArgs false
open Go.RowKit

theorem wp_append_E (w : World) {o : Oper} {a : Act} {K : Act → World → Prop} {Q : Exit → Act → World → Prop} (s x : Operand)
    (ho : o.op = .call { callee := .builtin .append, args := #[s, x], argTypes := #[30, 30] })
    (base : Nat) (v : Value) (zs : List ElemD) (hs : a.eval s = v) (hown : OwnE w base v zs) (u : Value) (ys : List ElemD) (hx : a.eval x = u) (hr : Elems w u ys)
    (hl : zs.length + ys.length ≤ 16777216) (hbase : base ≤ w.heap.size)
    (h : ∀ v' w', OwnE w' base v' (zs ++ ys) → w.grownBy w' v.ownBlock → K (a.put o.dst v') w') : o.wp Try.prog a w K Q := by
  obtain ⟨i0, hi, hz0, hz1, hz2⟩ := info_parts info_elem
  refine wp_append_seq w s x 30 ho base 36 i0 _ 4 40 Try.underlying30 hi hz0 hz1 hz2 rfl (by omega) v zs.length _ hs hown.1 u ys.length _ hx hr.1 (by rw [flat_length cells4 4 (fun _ => rfl)]) ?_ (by unfold maxLen; omega) (by omega) hbase (fun v' w' q1 q2 => h v' w' ?_ q2)
  · intro y hy
    obtain ⟨e, _, he⟩ := List.mem_flatMap.1 hy; simp only [cells4, List.mem_cons, List.not_mem_nil, or_false] at he; rcases he with rfl | rfl | rfl | rfl <;> rfl
  · refine ⟨?_, ?_⟩
    · rw [List.length_append, List.flatMap_append]
      exact q1
    · intro e he
      rcases List.mem_append.1 he with he | he
      · exact hown.2 e he
      · exact hr.2 e he
theorem wpList_append_E (w : World) {ops : Array Oper} {rest : List Oper} {o : Oper} {a : Act} {Q : Exit → Act → World → Prop} (hgd : o.guard = none) (s x : Operand)
    (ho : o.op = .call { callee := .builtin .append, args := #[s, x], argTypes := #[30, 30] })
    (base : Nat) (v : Value) (zs : List ElemD) (hs : a.eval s = v) (hown : OwnE w base v zs) (u : Value) (ys : List ElemD) (hx : a.eval x = u) (hr : Elems w u ys)
    (hl : zs.length + ys.length ≤ 16777216) (hbase : base ≤ w.heap.size)
    (h : ∀ v' w', OwnE w' base v' (zs ++ ys) → w.grownBy w' v.ownBlock → wpList Try.prog ops Q rest (a.put o.dst v') w') : wpList Try.prog ops Q (o :: rest) a w :=
  wpList_plain hgd fun _ hK => wp_append_E w s x ho base v zs hs hown u ys hx hr hl hbase fun v' w' h2 h3 => hK _ _ (h v' w' h2 h3)
theorem step_append_E (w : World) {ops : Array Oper} {o : Oper} {a : Act} {K : Act → World → Prop} {Q : Exit → Act → World → Prop} {E : Prop} (hgd : o.guard = none) (s x : Operand)
    (ho : o.op = .call { callee := .builtin .append, args := #[s, x], argTypes := #[30, 30] })
    (base : Nat) (v : Value) (zs : List ElemD) (hs : a.eval s = v) (hown : OwnE w base v zs) (u : Value) (ys : List ElemD) (hx : a.eval x = u) (hr : Elems w u ys)
    (hl : zs.length + ys.length ≤ 16777216) (hbase : base ≤ w.heap.size)
    (h : ∀ v' w', OwnE w' base v' (zs ++ ys) → w.grownBy w' v.ownBlock → K (a.put o.dst v') w') :
    if Region.wanted o (yielded ops a.tmps) = true then Oper.wp Try.prog o a w K Q else E := by
  have hw : Region.wanted o (yielded ops a.tmps) = true := by simp [Region.wanted, hgd]
  rw [if_pos hw]
  exact wp_append_E w s x ho base v zs hs hown u ys hx hr hl hbase h
end Go.Proofs.Ytpkmngkepmoikaa

/- Codes copied by the reference and by the program. -/
namespace Go.Proofs.Ytpkmngkepmoikaa
set_option linter.unusedVariables false
set_option linter.unusedSimpArgs false
open Go.RowKit

theorem Box.far6 {w : World} {b g : Nat} {t : TypeId} {cs : Array Value} (h : Box w b t cs) (hne : b ≠ g) (u0 u1 u2 u3 u4 u5 : Value) :
    Box ((((((w.setCell ⟨g, 0, none⟩ u0).setCell ⟨g, 1, none⟩ u1).setCell ⟨g, 2, none⟩ u2).setCell ⟨g, 3, none⟩ u3).setCell ⟨g, 4, none⟩ u4).setCell ⟨g, 5, none⟩ u5) b t cs :=
  (((((h.far ⟨g, 0, none⟩ hne u0).far ⟨g, 1, none⟩ hne u1).far ⟨g, 2, none⟩ hne u2).far ⟨g, 3, none⟩ hne u3).far ⟨g, 4, none⟩ hne u4).far ⟨g, 5, none⟩ hne u5
theorem set6 {w : World} {g : Nat} {t : TypeId} {x0 x1 x2 x3 x4 x5 : Value} (h : Box w g t #[x0, x1, x2, x3, x4, x5]) (u0 u1 u2 u3 u4 u5 : Value) :
    ∃ w3, w3 = ((((((w.setCell ⟨g, 0, none⟩ u0).setCell ⟨g, 1, none⟩ u1).setCell ⟨g, 2, none⟩ u2).setCell ⟨g, 3, none⟩ u3).setCell ⟨g, 4, none⟩ u4).setCell ⟨g, 5, none⟩ u5) ∧ Box w3 g t #[u0, u1, u2, u3, u4, u5] ∧ Only [g] w w3 := by
  refine ⟨_, rfl, (((((h.set 0 u0).set 1 u1).set 2 u2).set 3 u3).set 4 u4).set 5 u5, ?_⟩
  repeat (refine Only.setCell ?_ (by simp) _)
  exact Only.refl _ _
theorem l1Own_any (v : Value) (zs : List Int) (w : World) (h : Ints w v zs) (hn : zs.length ≤ 1048576) :
    Calls Try.prog 68 #[v] w fun e w' => ∃ v', e = .returned v' ∧ OwnI w' w.heap.size v' zs ∧ Kept w w' := by
  have H := Lib.hid h
  clear h
  go_enter Try.func68, Try.ntmps68
  go_wp2_with (at_builtin; refine wpList_append_I _ rfl _ _ rfl w.heap.size _ [] rfl (own_made _ _ 1 (Nat.le_refl _) (Box.new _ _ _ _ rfl)) _ zs rfl (H.out.kept ((Kept.refl _).alloc _)) (by simp; omega) (by simp) ?_; intro v' w' ho' hg)
  have kg := ((Kept.refl w).alloc (.cells #[] 3)).grew (own_made (base := w.heap.size) _ _ 1 (Nat.le_refl _) (Box.new _ _ _ _ rfl)) hg (Nat.le_refl _)
  go_ret
  exact ⟨_, rfl, ho', kg⟩
theorem copyInts_any (v : Value) (zs : List Int) (w : World) (h : Ints w v zs) (hn : zs.length ≤ 1048576) :
    Calls Try.prog 48 #[v] w fun e w' => ∃ v', e = .returned v' ∧ OwnI w' w.heap.size v' zs ∧ Kept w w' := by
  have H := Lib.hid h
  clear h
  go_enter Try.func48, Try.ntmps48
  go_wp2_with (at_builtin; refine wpList_append_I _ rfl _ _ rfl w.heap.size _ [] rfl (own_made _ _ 1 (Nat.le_refl _) (Box.new _ _ _ _ rfl)) _ zs rfl (H.out.kept ((Kept.refl _).alloc _)) (by simp; omega) (by simp) ?_; intro v' w' ho' hg)
  have kg := ((Kept.refl w).alloc (.cells #[] 3)).grew (own_made (base := w.heap.size) _ _ 1 (Nat.le_refl _) (Box.new _ _ _ _ rfl)) hg (Nat.le_refl _)
  go_ret
  exact ⟨_, rfl, ho', kg⟩
set_option maxRecDepth 100000 in
set_option maxHeartbeats 4000000 in
theorem cdOwn_any (v : Value) (x : CodeD) (w : World) (h : CodeAt w v x) (hn : x.elems.length ≤ 1048576) (hm : x.limits.length ≤ 1048576) :
    Calls Try.prog 36 #[v] w fun e w' => ∃ v', e = .returned v' ∧ OwnK w' w.heap.size v' x ∧ Kept w w' := by
  obtain ⟨nv, mv, rfl, q1, q2⟩ := h
  obtain ⟨A, c, rfl, hnc, hcm, hl⟩ := q1.1.out
  obtain ⟨A2, c2, rfl, _, _, _⟩ := q2.out
  have H1 := Lib.hid q1
  have H2 := Lib.hid q2
  clear q1 q2 hl
  go_enter Try.func36, Try.ntmps36
  go_wp2_with fail
  have B0 := (Box.new w w.heap.size 32 #[.slice A x.elems.length c, .slice A2 x.limits.length c2, .int .i64 x.repeats, .int .i64 x.bonus, .int .i64 x.keeps, .int .i64 x.fall] rfl).alloc (.cells #[.slice none 0 0, .slice none 0 0, .int .i64 0, .int .i64 0, .int .i64 0, .int .i64 0] 32)
  have B1 := Box.new (w.alloc (.cells #[.slice A x.elems.length c, .slice A2 x.limits.length c2, .int .i64 x.repeats, .int .i64 x.bonus, .int .i64 x.keeps, .int .i64 x.fall] 32)) (w.heap.size + 1) 32 #[.slice none 0 0, .slice none 0 0, .int .i64 0, .int .i64 0, .int .i64 0, .int .i64 0] (by simp)
  have K0 : Kept w ((w.alloc (.cells #[.slice A x.elems.length c, .slice A2 x.limits.length c2, .int .i64 x.repeats, .int .i64 x.bonus, .int .i64 x.keeps, .int .i64 x.fall] 32)).alloc (.cells #[.slice none 0 0, .slice none 0 0, .int .i64 0, .int .i64 0, .int .i64 0, .int .i64 0] 32)) := ((Kept.refl w).alloc _).alloc _
  generalize (w.alloc (.cells #[.slice A x.elems.length c, .slice A2 x.limits.length c2, .int .i64 x.repeats, .int .i64 x.bonus, .int .i64 x.keeps, .int .i64 x.fall] 32)).alloc (.cells #[.slice none 0 0, .slice none 0 0, .int .i64 0, .int .i64 0, .int .i64 0, .int .i64 0] 32) = w0 at *
  replace B0 : Box w0.drew w.heap.size 32 _ := B0
  have hz0 : w.heap.size + 1 < w0.heap.size := B1.lt
  have B1d : Box w0.drew (w.heap.size + 1) 32 #[.slice none 0 0, .slice none 0 0, .int .i64 0, .int .i64 0, .int .i64 0, .int .i64 0] := B1
  have K0d : Kept w w0.drew := K0.drew
  have B0a : Box (w0.alloc (.cells #[] 36)).drew w.heap.size 32 #[.slice A x.elems.length c, .slice A2 x.limits.length c2, .int .i64 x.repeats, .int .i64 x.bonus, .int .i64 x.keeps, .int .i64 x.fall] := B0.alloc _
  clear B1
  go_region_held3 (fun w' => w'.cell? ⟨w.heap.size, 0, none⟩ = some (.slice A x.elems.length c) ∧ w'.cell? ⟨w.heap.size, 1, none⟩ = some (.slice A2 x.limits.length c2) ∧ w'.cell? ⟨w.heap.size, 2, none⟩ = some (.int .i64 x.repeats) ∧ w'.cell? ⟨w.heap.size, 3, none⟩ = some (.int .i64 x.bonus) ∧ w'.cell? ⟨w.heap.size, 4, none⟩ = some (.int .i64 x.keeps) ∧ w'.cell? ⟨w.heap.size, 5, none⟩ = some (.int .i64 x.fall)) (first | (with_reducible exact B0.six.1) | (with_reducible exact B0a.six.1) | (with_reducible exact (B0.kept (by assumption)).six.1) | (with_reducible exact (Box.far6 (B0.kept (by assumption)) (by omega) _ _ _ _ _ _).six.1))
    (first | (refine step_append_E _ rfl _ _ rfl w0.drew.heap.size _ [] rfl ⟨own_made _ _ 4 (Nat.le_refl _) (Box.new _ _ _ _ rfl), (fun _ h => by cases h)⟩ _ x.elems rfl (H1.out.kept (K0d.alloc _)) (by simp; omega) (by simp) ?_; intro v1 w1 o1 hg1; have k1 := ((Kept.refl w0.drew).alloc (.cells #[] 36)).grew (own_made (base := w0.drew.heap.size) _ _ 4 (Nat.le_refl _) (Box.new _ _ _ _ rfl)) hg1 (Nat.le_refl _); clear hg1; obtain ⟨A1, c1, rfl, _, _, _⟩ := own_form o1.1; have O1 := Lib.hid o1; clear o1) | (go_at_call 68; refine (l1Own_any _ x.limits _ (H2.out.kept (K0d.trans k1)) hm).mono ?_; rintro e w2 ⟨v2, rfl, o2, k2⟩; have k12 := k1.trans k2; obtain ⟨A3, c3, rfl, _, _, _⟩ := own_form o2; have O2 := Lib.hid o2; clear o2; obtain ⟨cc, ff⟩ := (B1d.kept k12).six))
  rename_i hheld
  clear hheld cc ff
  obtain ⟨w3, hw3, B3, Q3⟩ := set6 (B1d.kept k12) (.slice A1 x.elems.length c1) (.slice A3 x.limits.length c3) (.int .i64 x.repeats) (.int .i64 x.bonus) (.int .i64 x.keeps) (.int .i64 x.fall)
  rw [← hw3]
  clear hw3
  obtain ⟨cc, ff⟩ := B3.six
  go_wp2_with fail
  have hz1 := k1.size
  have hz2 := k2.size
  have hzd : w0.drew.heap.size = w0.heap.size := rfl
  refine bodyPost_ret (v := .agg #[.slice A1 x.elems.length c1, .slice A3 x.limits.length c3, .int .i64 x.repeats, .int .i64 x.bonus, .int .i64 x.keeps, .int .i64 x.fall]) (by simp [results, Try.results36, go_sem, cc, ff]) rfl ⟨_, rfl, ⟨_, _, rfl, ?_, ?_, ?_⟩, ?_⟩
  · exact OwnE.far (S := [w.heap.size + 1]) (O1.out.kept k2) Q3 (by simp; omega) (by omega)
  · exact OwnI.far (S := [w.heap.size + 1]) O2.out Q3 (by simp; omega) (by omega)
  · rw [fpA_code]
    exact nodup_fp (m := w1.heap.size) (fun y hy => (own_fp O1.out.1 y hy).2) (fun y hy => (own_fp O2.out y hy).1)
  · exact Q3.above (K0d.trans k12) (by simp)
end Go.Proofs.Ytpkmngkepmoikaa

/- Codes: a code if it is valid. -/
namespace Go.Proofs.Ytpkmngkepmoikaa
set_option linter.unusedVariables false
set_option linter.unusedSimpArgs false
open Go.RowKit

def zeroC : CodeD := ⟨[], [], 0, 0, 0, 0⟩
def ifC (x : CodeD) : CodeD := if codeB x then x else zeroC
theorem ifC_yes {x : CodeD} (h : codeB x = true) : ifC x = x := if_pos h
theorem ifC_no {x : CodeD} (h : codeB x = false) : ifC x = zeroC := by unfold ifC; rw [h]; rfl
theorem zeroC_own (w : World) (base : Nat) : OwnK w base (.agg #[.slice none 0 0, .slice none 0 0, .int .i64 0, .int .i64 0, .int .i64 0, .int .i64 0]) zeroC :=
  ⟨_, _, rfl, ⟨World.ownsRow_nil _ _ _ _, fun _ h => (by cases h)⟩, World.ownsRow_nil _ _ _ _, by rw [fpA_code]; simp [fp, Value.ownBlock]⟩
theorem OwnK.base {w : World} {base base' : Nat} {v : Value} {x : CodeD} (h : OwnK w base v x) (hb : base' ≤ base) : OwnK w base' v x := by
  obtain ⟨ev, lv, rfl, h1, h2, h3⟩ := h
  exact ⟨ev, lv, rfl, ⟨own_base h1.1 hb, h1.2⟩, own_base h2 hb, h3⟩
theorem OwnK.far {w w' : World} {base base' : Nat} {v : Value} {x : CodeD} {S : List Nat} (h : OwnK w base v x) (ho : Only S w w') (hS : ∀ b ∈ S, b < base ∨ w.heap.size ≤ b) (hb : base' ≤ base) : OwnK w' base' v x :=
  OwnK.base (h.only ho (fun b hb hs => by have := h.fps b hb; have := hS b hs; omega)) hb
theorem Box.zero6 {w : World} {b : Nat} {t : TypeId} (h : Box w b t #[.slice none 0 0, .slice none 0 0, .int .i64 0, .int .i64 0, .int .i64 0, .int .i64 0]) : True := trivial
set_option maxHeartbeats 4000000 in
theorem cdIf_any (v : Value) (x : CodeD) (w : World) (base : Nat) (h : OwnK w base v x) (hbase : base ≤ w.heap.size) :
    Calls Try.prog 37 #[v] w fun e w' => ∃ v', e = .returned (.tuple #[v', .bool (codeB x)]) ∧ OwnK w' base v' (ifC x) ∧ Kept w w' := by
  have HK := Lib.hid h
  obtain ⟨ev, lv, rfl, h1, h2, _⟩ := h
  obtain ⟨A, c, rfl, _⟩ := own_form h1.1
  obtain ⟨A2, c2, rfl, _⟩ := own_form h2
  clear h1 h2
  go_enter Try.func37, Try.ntmps37
  go_wp2_with fail
  have B0 := (Box.new w w.heap.size 32 #[.slice A x.elems.length c, .slice A2 x.limits.length c2, .int .i64 x.repeats, .int .i64 x.bonus, .int .i64 x.keeps, .int .i64 x.fall] rfl).alloc (.cells #[.slice none 0 0, .slice none 0 0, .int .i64 0, .int .i64 0, .int .i64 0, .int .i64 0] 32)
  have B1 := Box.new (w.alloc (.cells #[.slice A x.elems.length c, .slice A2 x.limits.length c2, .int .i64 x.repeats, .int .i64 x.bonus, .int .i64 x.keeps, .int .i64 x.fall] 32)) (w.heap.size + 1) 32 #[.slice none 0 0, .slice none 0 0, .int .i64 0, .int .i64 0, .int .i64 0, .int .i64 0] (by simp)
  have K0 : Kept w ((w.alloc (.cells #[.slice A x.elems.length c, .slice A2 x.limits.length c2, .int .i64 x.repeats, .int .i64 x.bonus, .int .i64 x.keeps, .int .i64 x.fall] 32)).alloc (.cells #[.slice none 0 0, .slice none 0 0, .int .i64 0, .int .i64 0, .int .i64 0, .int .i64 0] 32)) := ((Kept.refl w).alloc _).alloc _
  generalize (w.alloc (.cells #[.slice A x.elems.length c, .slice A2 x.limits.length c2, .int .i64 x.repeats, .int .i64 x.bonus, .int .i64 x.keeps, .int .i64 x.fall] 32)).alloc (.cells #[.slice none 0 0, .slice none 0 0, .int .i64 0, .int .i64 0, .int .i64 0, .int .i64 0] 32) = w0 at *
  refine (cdGood_any _ x _ (HK.out.kept K0).code).mono ?_
  rintro e w1 ⟨rfl, k1⟩
  replace B0 := B0.kept k1
  replace B1 := B1.kept k1
  have K1 := K0.trans k1
  have O1 := Lib.hid (HK.out.kept K1)
  clear K0 k1
  by_cases hb : codeB x = true
  · have HB := Lib.hid hb
    rw [hb]
    clear hb
    go_upto_region 3 with (fail)
    obtain ⟨x0, y0⟩ := B0.six
    obtain ⟨x1, y1⟩ := B1.six
    go_wp2_with fail
    clear x0 y0 x1 y1
    obtain ⟨w3, hw3, B3, Q3⟩ := set6 B1 (.slice A x.elems.length c) (.slice A2 x.limits.length c2) (.int .i64 x.repeats) (.int .i64 x.bonus) (.int .i64 x.keeps) (.int .i64 x.fall)
    rw [← hw3]
    clear hw3
    obtain ⟨cc, ff⟩ := B3.six
    refine bodyPost_ret (v := .tuple #[.agg #[.slice A x.elems.length c, .slice A2 x.limits.length c2, .int .i64 x.repeats, .int .i64 x.bonus, .int .i64 x.keeps, .int .i64 x.fall], .bool true]) (by simp [results, Try.results37, go_sem, cc, ff]) rfl ⟨_, by rw [HB.out], ?_, Q3.above K1 (by simp)⟩
    rw [ifC_yes HB.out]
    exact O1.out.only Q3 (fun b hb hs => by have := HK.out.fps b hb; simp at hs; omega)
  · simp only [Bool.not_eq_true] at hb
    have HB := Lib.hid hb
    rw [hb]
    clear hb
    go_upto_region 2 with (fail)
    obtain ⟨x0, y0⟩ := B0.six
    obtain ⟨x1, y1⟩ := B1.six
    go_wp2_with fail
    clear x0 y0 x1 y1
    obtain ⟨w3, hw3, B3, Q3⟩ := set6 B1 (.slice none 0 0) (.slice none 0 0) (.int .i64 0) (.int .i64 0) (.int .i64 0) (.int .i64 0)
    rw [← hw3]
    clear hw3
    obtain ⟨cc, ff⟩ := B3.six
    refine bodyPost_ret (v := .tuple #[.agg #[.slice none 0 0, .slice none 0 0, .int .i64 0, .int .i64 0, .int .i64 0, .int .i64 0], .bool false]) (by simp [results, Try.results37, go_sem, cc, ff]) rfl ⟨_, by rw [HB.out], ?_, Q3.above K1 (by simp)⟩
    rw [ifC_no HB.out]
    exact zeroC_own _ _
set_option maxHeartbeats 4000000 in
theorem asCode_any (v ev : Value) (x : CodeD) (es : List ElemD) (w : World) (base : Nat) (h : CodeAt w v x) (he : OwnE w base ev es) (hbase : base ≤ w.heap.size) (hm : x.limits.length ≤ 1048576) :
    Calls Try.prog 40 #[v, ev] w fun e w' => ∃ v', e = .returned (.tuple #[v', .bool (codeB { x with elems := es })]) ∧ OwnK w' base v' (ifC { x with elems := es }) ∧ Kept w w' := by
  obtain ⟨nv, lv, rfl, h1, h2⟩ := h
  obtain ⟨A, c, rfl, _⟩ := own_form he.1
  obtain ⟨A1, c1, rfl, _⟩ := h1.1.out
  obtain ⟨A2, c2, rfl, _⟩ := h2.out
  have HE := Lib.hid he
  have H2 := Lib.hid h2
  clear h1 h2 he
  go_enter Try.func40, Try.ntmps40
  go_wp2_with fail
  have B0 := (Box.new w w.heap.size 32 #[.slice A es.length c, .slice A2 x.limits.length c2, .int .i64 x.repeats, .int .i64 x.bonus, .int .i64 x.keeps, .int .i64 x.fall] rfl).alloc (.cells #[.slice none 0 0, .slice none 0 0, .int .i64 0, .int .i64 0, .int .i64 0, .int .i64 0] 32)
  have B1 := Box.new (w.alloc (.cells #[.slice A es.length c, .slice A2 x.limits.length c2, .int .i64 x.repeats, .int .i64 x.bonus, .int .i64 x.keeps, .int .i64 x.fall] 32)) (w.heap.size + 1) 32 #[.slice none 0 0, .slice none 0 0, .int .i64 0, .int .i64 0, .int .i64 0, .int .i64 0] (by simp)
  have K0 : Kept w ((w.alloc (.cells #[.slice A es.length c, .slice A2 x.limits.length c2, .int .i64 x.repeats, .int .i64 x.bonus, .int .i64 x.keeps, .int .i64 x.fall] 32)).alloc (.cells #[.slice none 0 0, .slice none 0 0, .int .i64 0, .int .i64 0, .int .i64 0, .int .i64 0] 32)) := ((Kept.refl w).alloc _).alloc _
  generalize (w.alloc (.cells #[.slice A es.length c, .slice A2 x.limits.length c2, .int .i64 x.repeats, .int .i64 x.bonus, .int .i64 x.keeps, .int .i64 x.fall] 32)).alloc (.cells #[.slice none 0 0, .slice none 0 0, .int .i64 0, .int .i64 0, .int .i64 0, .int .i64 0] 32) = w0 at *
  have hzw : w.heap.size + 1 < w0.heap.size := B1.lt
  refine (copyInts_any _ x.limits _ (H2.out.kept K0) hm).mono ?_
  rintro e w1 ⟨v1, rfl, o1, k1⟩
  obtain ⟨A3, c3, rfl, _⟩ := own_form o1
  replace B0 := B0.kept k1
  replace B1 := B1.kept k1
  have K1 := K0.trans k1
  have O1 := Lib.hid o1
  have OE := Lib.hid (HE.out.kept K1)
  have hz0 : w.heap.size + 1 < w1.heap.size := B1.lt
  have hz1 := k1.size
  clear K0 k1 o1
  obtain ⟨x0, y0⟩ := B0.six
  go_upto_region 3 with (fail)
  clear x0 y0
  obtain ⟨w2, hw2⟩ : ∃ w2, w2 = w1.setCell ⟨w.heap.size, 1, none⟩ (.slice A3 x.limits.length c3) := ⟨_, rfl⟩
  rw [← hw2]
  have Q2 : Only [w.heap.size] w1 w2 := by rw [hw2]; exact Only.setCell (Only.refl _ _) (by simp) _
  replace B0 : Box w2 w.heap.size 32 #[.slice A es.length c, .slice A3 x.limits.length c3, .int .i64 x.repeats, .int .i64 x.bonus, .int .i64 x.keeps, .int .i64 x.fall] := hw2 ▸ B0.set 1 _
  replace B1 := B1.only Q2 (by simp)
  have F1 := Lib.hid (own_fp HE.out.1)
  have F2 := Lib.hid (own_fp O1.out)
  have OK : OwnK w2 base (.agg #[.slice A es.length c, .slice A3 x.limits.length c3, .int .i64 x.repeats, .int .i64 x.bonus, .int .i64 x.keeps, .int .i64 x.fall]) { x with elems := es } := by
    refine ⟨_, _, rfl, OE.out.only Q2 (fun b hb hs => ?_), OwnI.base (O1.out.only Q2 (fun b hb hs => ?_)) (by omega), ?_⟩
    · have := F1.out b hb; simp at hs; omega
    · have := F2.out b hb; simp at hs; omega
    · rw [fpA_code]
      exact nodup_fp (m := w.heap.size) (fun y hy => (F1.out y hy).2) (fun y hy => by have := F2.out y hy; omega)
  have K2 : Kept w w2 := Q2.above K1 (by simp)
  have HK := Lib.hid OK
  have hz2 := Q2.size
  clear hw2 OE O1 F1 OK
  obtain ⟨x0, y0⟩ := B0.six
  go_wp2_with fail
  clear x0 y0
  refine (isCode_any _ { x with elems := es } _ HK.out.code).mono ?_
  rintro e w4 ⟨rfl, k4⟩
  replace B0 := B0.kept k4
  replace B1 := B1.kept k4
  have K4 := K2.trans k4
  have O4 := Lib.hid (HK.out.kept k4)
  clear k4
  have hz4 := K4.size
  have hne : ∀ b ∈ fpA (.agg #[.slice A es.length c, .slice A3 x.limits.length c3, .int .i64 x.repeats, .int .i64 x.bonus, .int .i64 x.keeps, .int .i64 x.fall]), b ≠ w.heap.size + 1 := by
    intro b hb e
    subst e
    rw [fpA_code] at hb
    rcases List.mem_append.1 hb with hb | hb
    · have := (own_fp HE.out.1 _ hb).2; omega
    · have := F2.out _ hb; omega
  have HNE := Lib.hid hne
  clear hne
  by_cases hb : codeB { x with elems := es } = true
  · have HB := Lib.hid hb
    rw [hb]
    clear hb
    go_upto_region 5 with (fail)
    obtain ⟨x0, y0⟩ := B0.six
    obtain ⟨x1, y1⟩ := B1.six
    go_wp2_with fail
    clear x0 y0 x1 y1
    obtain ⟨w3, hw3, B3, Q3⟩ := set6 B1 (.slice A es.length c) (.slice A3 x.limits.length c3) (.int .i64 x.repeats) (.int .i64 x.bonus) (.int .i64 x.keeps) (.int .i64 x.fall)
    rw [← hw3]
    clear hw3
    obtain ⟨cc, ff⟩ := B3.six
    refine bodyPost_ret (v := .tuple #[.agg #[.slice A es.length c, .slice A3 x.limits.length c3, .int .i64 x.repeats, .int .i64 x.bonus, .int .i64 x.keeps, .int .i64 x.fall], .bool true]) (by simp [results, Try.results40, go_sem, cc, ff]) rfl ⟨_, by rw [HB.out], ?_, Q3.above K4 (by simp)⟩
    rw [ifC_yes HB.out]
    exact O4.out.only Q3 (fun b hb hs => HNE.out b hb (by simpa using hs))
  · simp only [Bool.not_eq_true] at hb
    have HB := Lib.hid hb
    rw [hb]
    clear hb
    go_upto_region 4 with (fail)
    obtain ⟨x0, y0⟩ := B0.six
    obtain ⟨x1, y1⟩ := B1.six
    go_wp2_with fail
    clear x0 y0 x1 y1
    obtain ⟨w3, hw3, B3, Q3⟩ := set6 B1 (.slice none 0 0) (.slice none 0 0) (.int .i64 0) (.int .i64 0) (.int .i64 0) (.int .i64 0)
    rw [← hw3]
    clear hw3
    obtain ⟨cc, ff⟩ := B3.six
    refine bodyPost_ret (v := .tuple #[.agg #[.slice none 0 0, .slice none 0 0, .int .i64 0, .int .i64 0, .int .i64 0, .int .i64 0], .bool false]) (by simp [results, Try.results40, go_sem, cc, ff]) rfl ⟨_, by rw [HB.out], ?_, Q3.above K4 (by simp)⟩
    rw [ifC_no HB.out]
    exact zeroC_own _ _
theorem asCode_is (X : CodeD) (bb : Bool) (v ev : Value) (x : CodeD) (es : List ElemD) (w : World) (base : Nat) (hX : ifC { x with elems := es } = X) (hb : codeB { x with elems := es } = bb) (h : CodeAt w v x) (he : OwnE w base ev es) (hbase : base ≤ w.heap.size) (hm : x.limits.length ≤ 1048576) :
    Calls Try.prog 40 #[v, ev] w fun e w' => ∃ v', e = .returned (.tuple #[v', .bool bb]) ∧ OwnK w' base v' X ∧ Kept w w' := by
  subst hX hb
  exact asCode_any v ev x es w base h he hbase hm
theorem cdIf_is (X : CodeD) (bb : Bool) (v : Value) (x : CodeD) (w : World) (base : Nat) (hX : ifC x = X) (hb : codeB x = bb) (h : OwnK w base v x) (hbase : base ≤ w.heap.size) :
    Calls Try.prog 37 #[v] w fun e w' => ∃ v', e = .returned (.tuple #[v', .bool bb]) ∧ OwnK w' base v' X ∧ Kept w w' := by
  subst hX hb
  exact cdIf_any v x w base h hbase
end Go.Proofs.Ytpkmngkepmoikaa

/- The texts that the laws write as marks. -/
namespace Go.Proofs.Ytpkmngkepmoikaa
set_option linter.unusedVariables false
set_option linter.unusedSimpArgs false
open Go.RowKit

def dgc (q : Nat) : UInt8 := UInt8.ofNat (48 + q % 10)
theorem dgc_toNat (q : Nat) : (dgc q).toNat = 48 + q % 10 := by
  unfold dgc
  rw [UInt8.toNat_ofNat']
  omega
def digF : Nat → Nat → List UInt8 → List UInt8
  | 0, _, out => out
  | f + 1, q, out => if q = 0 then out else digF f (q / 10) (dgc q :: out)
def mt (k : Int) : ByteArray := ⟨(109 :: digF 20 k.toNat []).toArray⟩
theorem digF_zero (f : Nat) (out : List UInt8) : digF f 0 out = out := by cases f <;> simp [digF]
theorem ba_cons (c : UInt8) (l : List UInt8) : (⟨#[c]⟩ : ByteArray) ++ ⟨l.toArray⟩ = ⟨(c :: l).toArray⟩ := by
  apply ByteArray.ext
  simp
theorem conv_one (w : World) (c : UInt8) (n : Int) (hn : n = c.toNat) :
    (convert 98 9 (.slice (some ⟨w.heap.size, 0, none⟩) 1 1)).run Try.prog (w.alloc (.cells #[.int .u8 n] 5)) = .ok (.string ⟨#[c]⟩) (w.alloc (.cells #[.int .u8 n] 5)) := by
  subst hn
  exact run_convert_bytes_back (P := Try.prog) (w.alloc (.cells #[.int .u8 (c.toNat : Int)] 5)) 98 9 5 ⟨w.heap.size, 0, none⟩ 1 [c] Try.underlying98 Try.underlying5 Try.underlying9 (fun j hj => by
    obtain rfl : j = 0 := by simpa using hj
    simp [Addr.add])
set_option maxHeartbeats 1000000 in
theorem markText_any (k : Int) (w : World) (h0 : 1 ≤ k) (h1 : k ≤ 1099511627776) :
    Calls Try.prog 76 #[.int .i64 k] w fun e w' => e = .returned (.string (mt k)) ∧ Kept w w' := by
  go_enter Try.func76, Try.ntmps76
  go_wp2_with fail
  go_loopw [0, 3] (fun q o wr => ∃ (f q' : Nat) (out : List UInt8), q = .int .i64 q' ∧ o = .string ⟨out.toArray⟩ ∧ q' < 10 ^ f ∧ q' ≤ 1099511627776 ∧ out.length + f ≤ 20 ∧ digF f q' out = digF 20 k.toNat [] ∧ Kept w wr) (fun q _ _ => (intOf q).toNat)
  case atStart => exact ⟨20, k.toNat, [], by congr 1; omega, rfl, by omega, by omega, by simp, rfl, Kept.refl _⟩
  case round =>
    obtain ⟨f, q', out, rfl, rfl, hq, hq2, hf, hd, hkept⟩ := hrel
    have HD := Lib.hid hd
    clear hd
    by_cases hpos : 0 < q'
    · have hcv := conv_one wr (dgc q') (48 + (q' : Int) % 10) (by rw [dgc_toNat]; omega)
      have HQ := Lib.hid hq
      clear hq
      go_wp2_with fail
      go_roundw
      case rel =>
        cases f with
        | zero =>
          have := HQ.out
          simp at this
          omega
        | succ f =>
          refine ⟨f, q' / 10, dgc q' :: out, by go_num, by rw [ba_cons], ?_, by omega, by simp; omega, ?_, hkept.alloc _⟩
          · have := HQ.out
            rw [Nat.pow_succ] at this
            omega
          · rw [← HD.out, digF, if_neg (by omega)]
      case measure => simp [intOf]; omega
    · obtain rfl : q' = 0 := by omega
      go_wp2_with fail
      go_ret
      refine ⟨?_, hkept⟩
      have := HD.out
      rw [digF_zero] at this
      unfold mt
      rw [← this, ← ba_cons]
      rfl
theorem digF_length (f q : Nat) (out : List UInt8) : (digF f q out).length ≤ out.length + f := by
  induction f generalizing q out with
  | zero => simp [digF]
  | succ f ih =>
    rw [digF]
    split
    · omega
    · have := ih (q / 10) (dgc q :: out)
      simp at this
      omega
theorem mt_size (k : Int) : (mt k).size ≤ maxLen := by
  have := digF_length 20 k.toNat []
  have h : (mt k).size = (digF 20 k.toNat []).length + 1 := by
    show (109 :: digF 20 k.toNat []).toArray.size = _
    simp
  rw [h]
  unfold maxLen
  simp at this
  omega
def marksS (k : Int) (n : Nat) : List ByteArray := (List.range n).map fun (i : Nat) => mt (k + (i : Int))
theorem marksS_length (k : Int) (n : Nat) : (marksS k n).length = n := by simp [marksS]
theorem marksS_get {k : Int} {n i : Nat} (h : i < n) : (marksS k n)[i]? = some (mt (k + i)) := by simp [marksS, h]
theorem marksS_size (k : Int) (n : Nat) : ∀ z ∈ marksS k n, z.size ≤ maxLen := by
  intro z hz
  unfold marksS at hz
  obtain ⟨i, _, rfl⟩ := List.mem_map.1 hz
  exact mt_size _
end Go.Proofs.Ytpkmngkepmoikaa

/- The marks that the laws write: elements, codes. -/
namespace Go.Proofs.Ytpkmngkepmoikaa
set_option linter.unusedVariables false
set_option linter.unusedSimpArgs false
open Go.RowKit

def markE (k : Int) : ElemD := ⟨mt k, k + 1, k + 2, k + 3⟩
def marksE (k : Int) (n : Nat) : List ElemD := (List.range n).map fun (i : Nat) => markE (k + 4 * (i : Int))
theorem marksE_length (k : Int) (n : Nat) : (marksE k n).length = n := by simp [marksE]
theorem marksE_get {k : Int} {n i : Nat} (h : i < n) : (marksE k n)[i]? = some (markE (k + 4 * i)) := by simp [marksE, h]
theorem marksE_size (k : Int) (n : Nat) : ∀ e ∈ marksE k n, e.name.size ≤ maxLen := by
  intro z hz
  unfold marksE at hz
  obtain ⟨i, _, rfl⟩ := List.mem_map.1 hz
  exact mt_size _
set_option maxHeartbeats 2000000 in
theorem markElementS_any (v : Value) (es : List ElemD) (k : Int) (w : World) (base : Nat) (h : OwnE w base v es) (hk : 1 ≤ k) (hk2 : k ≤ 274877906944) (hn : es.length ≤ 1048576) :
    Calls Try.prog 43 #[v, .int .i64 k] w fun e w' => e = .returned (.int .i64 (k + 4 * es.length)) ∧ OwnE w' base v (marksE k es.length) ∧ Only (fp v) w w' := by
  obtain ⟨A, c, rfl, hnc, hcm, hA⟩ := own_form h.1
  unfold maxLen at hcm
  have HA := Lib.hid hA
  have HI := Lib.hid h.1
  clear h hA
  go_enter Try.func43, Try.ntmps43
  go_wp2_with fail
  go_loopw [1, 5] (fun q i wr => ∃ (j : Nat) (xs : List Value), j ≤ es.length ∧ i = .int .i64 j ∧ q = .int .i64 (k + 4 * j) ∧ wr.ownsRow base 36 4 (.slice A es.length c) es.length xs ∧ xs.take (j * 4) = ((marksE k es.length).take j).flatMap cells4 ∧ Only (fp (.slice A es.length c)) w wr) (fun _ i _ => es.length - (intOf i).toNat)
  case atStart => exact ⟨0, _, Nat.zero_le _, rfl, by simp, HI.out, by simp, Only.refl _ _⟩
  case round =>
    obtain ⟨j, xs, hj, rfl, rfl, ho, ht, hon⟩ := hrel
    have hlen : xs.length = es.length * 4 := ho.1
    by_cases hlt : j < es.length
    · obtain ⟨g, rfl⟩ := HA.out (by omega)
      have HT := Lib.hid ht
      have HO := Lib.hid hlen
      have HN := Lib.hid hon
      have HR := Lib.hid ho
      clear ht hlen ho hon
      go_wp2_with fail
      refine (markText_any _ _ (by omega) (by omega)).mono ?_
      rintro e w1 ⟨rfl, k1⟩
      have ho1 := own_kept HR.out k1
      obtain ⟨u0, _, x0, y0⟩ := own_at ho1 (j := j * 4) (by omega)
      obtain ⟨u1, _, x1, y1⟩ := own_at ho1 (j := j * 4 + 1) (by omega)
      obtain ⟨u2', _, x2, y2⟩ := own_at ho1 (j := j * 4 + 2) (by omega)
      obtain ⟨u3', _, x3, y3⟩ := own_at ho1 (j := j * 4 + 3) (by omega)
      have HO1 := Lib.hid ho1
      clear ho1
      go_wp2_with fail
      go_roundw
      case rel =>
        refine ⟨j + 1, _, by omega, by go_num, by go_num, ((((HO1.out.stored (j * 4) _).1.stored (j * 4 + 1) _).1.stored (j * 4 + 2) _).1.stored (j * 4 + 3) _).1, ?_, ?_⟩
        · rw [set4_take HO.out hlt HT.out, take_snoc (marksE_get hlt)]
          simp [cells4, markE]
          try omega
        · repeat (refine Only.setCell ?_ (by simp [fp_some]) _)
          exact HN.out.trans (k1.only _)
      case measure => simp [intOf]; omega
    · obtain rfl : j = es.length := by omega
      have hx : xs = (marksE k es.length).flatMap cells4 := by rw [List.take_of_length_le (by omega), List.take_of_length_le (by rw [marksE_length]; exact Nat.le_refl _)] at ht; exact ht
      have HX := Lib.hid hx
      have HR := Lib.hid ho
      have HN := Lib.hid hon
      clear hx ht ho hon hlen
      go_wp2_with fail
      go_ret
      refine ⟨rfl, ⟨?_, marksE_size _ _⟩, HN.out⟩
      rw [marksE_length, ← HX.out]
      exact HR.out
set_option maxHeartbeats 2000000 in
theorem heldElementS_any (v : Value) (k : Int) (n : Nat) (w : World) (h : Elems w v (marksE k n)) (hk : 1 ≤ k) (hk2 : k ≤ 274877906944) (hn : n ≤ 1048576) :
    Calls Try.prog 44 #[v, .int .i64 k] w fun e w' => e = .returned (.int .i64 (k + 4 * n)) ∧ Kept w w' := by
  obtain ⟨A, c, rfl, hnc, hcm, hA⟩ := h.1.out
  unfold maxLen at hcm
  have HA := Lib.hid hA
  have hN : (marksE k n).length = n := marksE_length k n
  rw [hN] at hnc ⊢
  have HL := Lib.hid hN
  clear h hA hN
  go_enter Try.func44, Try.ntmps44
  go_wp2_with fail
  go_loopw [1, 5] (fun q i wr => ∃ j : Nat, j ≤ n ∧ i = .int .i64 j ∧ q = .int .i64 (k + 4 * j) ∧ Kept w wr) (fun _ i _ => n - (intOf i).toNat)
  case atStart => exact ⟨0, Nat.zero_le _, rfl, by simp, Kept.refl _⟩
  case round =>
    obtain ⟨j, hj, rfl, rfl, hkept⟩ := hrel
    by_cases hlt : j < n
    · obtain ⟨b, o, y, rfl, hb, h2, q0, q1, q2, q3⟩ := elems_at (HA.out.kept hkept.drew) (k := j) (by rw [HL.out]; exact hlt)
      rw [marksE_get hlt] at h2
      injection h2 with h2
      subst h2
      have hlt' : (j : Int) < (n : Int) := by omega
      go_wp2_with fail
      have y0 := After.cell q0 hb
      have hne : (!(mt (k + 4 * (j : Int))).toList == (mt (k + 4 * (j : Int))).toList) = false := by simp
      have HQ := Lib.hid (show _ ∧ _ ∧ _ from ⟨q1, q2, q3⟩)
      clear q0 q1 q2 q3
      unfold markE at y0
      dsimp only at y0
      refine region_after (by kernel_rfl) (by kernel_rfl) ?_
      repeat (go_big_quiet_step ((go_at_call 76; exact after_of (markText_any _ _ (by omega) (by omega)))))
      refine wpQuiet_nil ?_
      intro wq hw'
      obtain ⟨⟨_, kq⟩, hw''⟩ := hw'
      subst hw''
      try dsimp only
      obtain ⟨q1, q2, q3⟩ := HQ.out
      have z1 := (kq.cell hb).trans q1
      have z2 := (kq.cell hb).trans q2
      have z3 := (kq.cell hb).trans q3
      unfold markE at z1 z2 z3
      dsimp only at z1 z2 z3
      have n1 : (k + 4 * (j : Int) + 1 != k + 4 * (j : Int) + 1) = false := by simp
      have n2 : (k + 4 * (j : Int) + 2 != k + 4 * (j : Int) + 2) = false := by simp
      have n3 : (k + 4 * (j : Int) + 3 != k + 4 * (j : Int) + 3) = false := by simp
      clear q1 q2 q3
      go_wp2_with fail
      go_roundw
      case rel => exact ⟨j + 1, by omega, by go_num, by go_num, hkept.drew.trans kq⟩
      case measure => simp [intOf]; omega
    · obtain rfl : j = n := by omega
      go_wp2_with fail
      go_ret
      exact ⟨rfl, hkept⟩
def markK (k : Int) (x : CodeD) : CodeD := { x with elems := marksE k x.elems.length, limits := marksI (k + 4 * x.elems.length) x.limits.length }
def nextC (k : Int) (x : CodeD) : Int := k + 4 * x.elems.length + x.limits.length
theorem OwnK.nodup {w : World} {base : Nat} {v : Value} {x : CodeD} (h : OwnK w base v x) : (fpA v).Nodup := by
  obtain ⟨_, _, _, _, _, h⟩ := h
  exact h
set_option maxHeartbeats 1000000 in
theorem markCode_any (v : Value) (x : CodeD) (k : Int) (w : World) (base : Nat) (h : OwnK w base v x) (hk : 1 ≤ k) (hk2 : k ≤ 137438953472) (hn : x.elems.length ≤ 1048576) (hm : x.limits.length ≤ 1048576) :
    Calls Try.prog 15 #[v, .int .i64 k] w fun e w' => e = .returned (.int .i64 (nextC k x)) ∧ OwnK w' base v (markK k x) ∧ Only (fpA v) w w' := by
  obtain ⟨nv, mv, rfl, o1, o2, nd⟩ := h
  obtain ⟨A, c, rfl, _, _, _⟩ := own_form o1.1
  obtain ⟨A2, c2, rfl, _, _, _⟩ := own_form o2
  have ND := Lib.hid nd
  rw [fpA_code] at nd
  have HD := Lib.hid (List.nodup_append.1 nd).2.2
  have O1 := Lib.hid o1
  have O2 := Lib.hid o2
  have B0 := Box.new w w.heap.size 32 #[.slice A x.elems.length c, .slice A2 x.limits.length c2, .int .i64 x.repeats, .int .i64 x.bonus, .int .i64 x.keeps, .int .i64 x.fall] rfl
  have K0 : Kept w (w.alloc (.cells #[.slice A x.elems.length c, .slice A2 x.limits.length c2, .int .i64 x.repeats, .int .i64 x.bonus, .int .i64 x.keeps, .int .i64 x.fall] 32)) := (Kept.refl w).alloc _
  have F1 := Lib.hid (own_fp o1.1)
  have F2 := Lib.hid (own_fp o2)
  clear nd o1 o2
  go_enter Try.func15, Try.ntmps15
  go_wp2_with fail
  refine (markElementS_any _ x.elems _ _ base (O1.out.kept K0) hk (by omega) hn).mono ?_
  rintro e w1 ⟨rfl, o1, on1⟩
  have B1 := B0.only on1 (fun hb => by have := F1.out _ hb; omega)
  obtain ⟨x0, y0⟩ := B1.six
  go_wp2_with fail
  clear x0 y0
  refine (markIntS_any _ x.limits _ _ base ((O2.out.kept K0).only on1 (fun b hb hb' => HD.out b hb' b hb rfl)) (by omega) (by omega) hm).mono ?_
  rintro e w2 ⟨rfl, o2, on2⟩
  go_wp2_with fail
  go_ret
  refine ⟨ret_int (by unfold nextC; rfl), ⟨_, _, rfl, ?_, ?_, ND.out⟩, ?_⟩
  · exact o1.only on2 (fun b hb hb' => HD.out b hb b hb' rfl)
  · exact o2
  · rw [fpA_code]
    exact (K0.only _).trans ((on1.mono (fun b hb => List.mem_append_left _ hb)).trans (on2.mono (fun b hb => List.mem_append_right _ hb)))
set_option maxHeartbeats 1000000 in
theorem heldCode_any (v : Value) (x : CodeD) (k : Int) (w : World) (h : CodeAt w v (markK k x)) (hk : 1 ≤ k) (hk2 : k ≤ 137438953472) (hn : x.elems.length ≤ 1048576) (hm : x.limits.length ≤ 1048576) :
    Calls Try.prog 16 #[v, .int .i64 k] w fun e w' => e = .returned (.int .i64 (nextC k x)) ∧ Kept w w' := by
  obtain ⟨nv, mv, rfl, q1, q2⟩ := h
  obtain ⟨A, c, rfl, _, _, _⟩ := q1.1.out
  obtain ⟨A2, c2, rfl, _, _, _⟩ := q2.out
  have H1 := Lib.hid q1
  have H2 := Lib.hid q2
  clear q1 q2
  unfold markK
  dsimp only
  have K0 : Kept w (w.alloc (.cells #[.slice A (marksE k x.elems.length).length c, .slice A2 (marksI (k + 4 * x.elems.length) x.limits.length).length c2, .int .i64 x.repeats, .int .i64 x.bonus, .int .i64 x.keeps, .int .i64 x.fall] 32)) := (Kept.refl w).alloc _
  have B0 := Box.new w w.heap.size 32 #[.slice A (marksE k x.elems.length).length c, .slice A2 (marksI (k + 4 * x.elems.length) x.limits.length).length c2, .int .i64 x.repeats, .int .i64 x.bonus, .int .i64 x.keeps, .int .i64 x.fall] rfl
  go_enter Try.func16, Try.ntmps16
  go_wp2_with fail
  refine (heldElementS_any _ k x.elems.length _ (H1.out.kept K0) hk (by omega) hn).mono ?_
  rintro e w1 ⟨rfl, k1⟩
  obtain ⟨x0, y0⟩ := (B0.kept k1).six
  have K1 := K0.trans k1
  go_wp2_with fail
  clear x0 y0
  refine (heldIntS_any _ _ x.limits.length _ (H2.out.kept K1) (by omega) (by omega) hm).mono ?_
  rintro e w2 ⟨rfl, k2⟩
  subst k2
  go_wp2_with fail
  go_ret
  exact ⟨ret_int (by unfold nextC; rfl), K1⟩
end Go.Proofs.Ytpkmngkepmoikaa

/- Codes: ScaleCode. -/
namespace Go.Proofs.Ytpkmngkepmoikaa
set_option linter.unusedVariables false
set_option linter.unusedSimpArgs false
open Go.RowKit

def scaleE (p : Int) (y : ElemD) : ElemD := { y with base := max (y.base * p / 100) 1 }
def scaleC (x : CodeD) (p : Int) : CodeD := { x with elems := x.elems.map (scaleE p) }
def scOk (x : CodeD) (p : Int) : Bool := codeB x && inB p 1 200
def scB (x : CodeD) (p : Int) : Bool := scOk x p && codeB (scaleC x p)
def scV (x : CodeD) (p : Int) : CodeD := if scOk x p then ifC (scaleC x p) else zeroC
theorem scV_no {x : CodeD} {p : Int} (h : scOk x p = false) : scV x p = zeroC := by unfold scV; rw [h]; rfl
theorem scV_yes {x : CodeD} {p : Int} (h : scOk x p = true) : scV x p = ifC (scaleC x p) := if_pos h
theorem scB_no {x : CodeD} {p : Int} (h : scOk x p = false) : scB x p = false := by unfold scB; rw [h]; rfl
theorem scB_yes {x : CodeD} {p : Int} (h : scOk x p = true) : scB x p = codeB (scaleC x p) := by unfold scB; rw [h, Bool.true_and]
theorem sc_code {x : CodeD} {p : Int} (h : scOk x p = true) : codeB x = true := by unfold scOk at h; rw [Bool.and_eq_true] at h; exact h.1
theorem sc_in {x : CodeD} {p : Int} (h : scOk x p = true) : inB p 1 200 = true := by unfold scOk at h; rw [Bool.and_eq_true] at h; exact h.2
theorem ifC_len (x : CodeD) : (ifC x).elems.length ≤ 24 ∧ (ifC x).limits.length ≤ 5 := by
  by_cases h : codeB x = true
  · rw [ifC_yes h]
    have := codeB_heads h
    omega
  · simp only [Bool.not_eq_true] at h
    rw [ifC_no h]
    exact ⟨by simp [zeroC], by simp [zeroC]⟩
theorem scV_len (x : CodeD) (p : Int) : (scV x p).elems.length ≤ 24 ∧ (scV x p).limits.length ≤ 5 := by
  by_cases h : scOk x p = true
  · rw [scV_yes h]; exact ifC_len _
  · simp only [Bool.not_eq_true] at h
    rw [scV_no h]
    exact ⟨by simp [zeroC], by simp [zeroC]⟩
theorem elems_one {w : World} {g : Nat} {t : TypeId} (y : ElemD) (h : Box w g t #[.string y.name, .int .i64 y.family, .int .i64 y.level, .int .i64 y.base]) (hs : y.name.size ≤ maxLen) : Elems w (.slice (some ⟨g, 0, none⟩) 1 1) [y] := by
  refine ⟨⟨_, 1, rfl, Nat.le_refl _, by unfold maxLen; simp, (fun h => by cases h), fun _ => ⟨g, 0, rfl, h.lt, ?_⟩⟩, ?_⟩
  · intro j u hu
    rw [Nat.zero_add, h.cell j]
    simp only [List.flatMap_cons, List.flatMap_nil, List.append_nil, cells4] at hu
    rw [← hu]
    rw [← Array.getElem?_toList]
  · intro e he
    simp at he
    subst he
    exact hs
theorem OwnE.base {w : World} {base base' : Nat} {v : Value} {es : List ElemD} (h : OwnE w base v es) (hb : base' ≤ base) : OwnE w base' v es := ⟨own_base h.1 hb, h.2⟩
theorem mul_bds {a b A B : Int} (h1 : 0 ≤ a) (h2 : a ≤ A) (h3 : 0 ≤ b) (h4 : b ≤ B) : 0 ≤ a * b ∧ a * b ≤ A * B :=
  ⟨Int.mul_nonneg h1 h3, Int.mul_le_mul h2 h4 h3 (by omega)⟩
theorem flat_set3 : ∀ (l : List ElemD) (k : Nat) (y : ElemD) (b : Int), l[k]? = some y → (l.flatMap cells4).set (k * 4 + 3) (.int .i64 b) = (l.set k { y with base := b }).flatMap cells4
  | [], _, _, _, h => by simp at h
  | x :: l, 0, y, b, h => by
    simp at h
    subst h
    simp [cells4]
  | x :: l, k + 1, y, b, h => by
    simp only [List.getElem?_cons_succ] at h
    rw [List.flatMap_cons, List.set_cons_succ, List.flatMap_cons, List.set_append_right _ _ (by simp [cells4]; omega), ← flat_set3 l k y b h]
    congr 2
    simp [cells4]
    omega
def scTo (es : List ElemD) (p : Int) (k : Nat) : List ElemD := (es.take k).map (scaleE p) ++ es.drop k
theorem scTo_len (es : List ElemD) (p : Int) (k : Nat) : (scTo es p k).length = es.length := by
  unfold scTo
  rw [List.length_append, List.length_map, List.length_take, List.length_drop]
  omega
theorem scTo_get {es : List ElemD} {p : Int} {k : Nat} {y : ElemD} (h : es[k]? = some y) : (scTo es p k)[k]? = some y := by
  have hk := (List.getElem?_eq_some_iff.1 h).1
  unfold scTo
  rw [List.getElem?_append_right (by rw [List.length_map, List.length_take]; omega), List.length_map, List.length_take, List.getElem?_drop, ← h]
  congr 1
  omega
theorem scTo_succ {es : List ElemD} {p : Int} {k : Nat} {y : ElemD} (h : es[k]? = some y) : scTo es p (k + 1) = (scTo es p k).set k (scaleE p y) := by
  have hk := (List.getElem?_eq_some_iff.1 h).1
  unfold scTo
  rw [take_snoc h, List.map_append, List.set_append_right _ _ (by rw [List.length_map, List.length_take]; omega), List.length_map, List.length_take]
  rw [show k - min k es.length = 0 from by omega, List.drop_eq_getElem_cons hk, List.set_cons_zero, List.map_cons, List.map_nil, List.append_assoc]
  rfl
theorem scTo_zero (es : List ElemD) (p : Int) : scTo es p 0 = es := by simp [scTo]
theorem scTo_full (es : List ElemD) (p : Int) : scTo es p es.length = es.map (scaleE p) := by simp [scTo]
end Go.Proofs.Ytpkmngkepmoikaa

/- Rows of elements of several cells: what copy, clear and the library's Delete and Insert do to a block that is known whole. -/
namespace Go.Proofs.Ytpkmngkepmoikaa
set_option linter.unusedVariables false
set_option linter.unusedSimpArgs false
open Go.RowKit

/-- cells written one after the other -/
def sets : Array Value → Nat → List Value → Array Value
  | cs, _, [] => cs
  | cs, o, v :: r => sets (cs.setIfInBounds o v) (o + 1) r
theorem Box.sets {b : Nat} {t : TypeId} : ∀ (vs : List Value) (o : Nat) (w : World) (cs : Array Value), Box w b t cs → Box (w.setCells b o vs) b t (sets cs o vs)
  | [], _, _, _, h => h
  | v :: r, o, w, cs, h => Box.sets r (o + 1) _ _ (h.set o v)
theorem only_sets (b : Nat) : ∀ (vs : List Value) (o : Nat) (w : World), Only [b] w (w.setCells b o vs)
  | [], _, w => Only.refl _ w
  | v :: r, o, w => (Only.setCell (Only.refl [b] w) (p := ⟨b, o, none⟩) (by simp) v).trans (only_sets b r (o + 1) _)
theorem sets_size : ∀ (vs : List Value) (o : Nat) (cs : Array Value), (sets cs o vs).size = cs.size
  | [], _, _ => rfl
  | v :: r, o, cs => by rw [sets, sets_size r]; simp
theorem sets_toList : ∀ (vs : List Value) (o : Nat) (cs : Array Value), o + vs.length ≤ cs.size → (sets cs o vs).toList = cs.toList.take o ++ vs ++ cs.toList.drop (o + vs.length)
  | [], o, cs, h => by simp [sets]
  | v :: r, o, cs, h => by
    have hlt : o < cs.toList.length := by simp at h ⊢; omega
    rw [sets, sets_toList r (o + 1) _ (by simp at h ⊢; omega)]
    simp only [Array.toList_setIfInBounds]
    rw [List.take_set, List.take_succ_eq_append_getElem hlt, List.set_append_right _ _ (by rw [List.length_take]; omega), List.length_take_of_le (by omega), Nat.sub_self]
    rw [List.drop_set_of_lt (by omega)]
    simp only [List.set_cons_zero, List.append_assoc, List.cons_append, List.nil_append, List.length_cons]
    rw [show o + 1 + r.length = o + (r.length + 1) from by omega]
theorem sets_take {cs : Array Value} {o m : Nat} {vs : List Value} (h : o + vs.length ≤ cs.size) (hm : m ≤ o) : (sets cs o vs).toList.take m = cs.toList.take m := by
  have hl : cs.toList.length = cs.size := by simp
  rw [sets_toList _ _ _ h, List.append_assoc, List.take_append_of_le_length (by rw [List.length_take]; omega), List.take_take, Nat.min_eq_left hm]
theorem sets_full {cs : Array Value} {o m : Nat} {vs : List Value} (h : o + vs.length ≤ cs.size) (hm : m = o + vs.length) : (sets cs o vs).toList.take m = cs.toList.take o ++ vs := by
  have hl : cs.toList.length = cs.size := by simp
  rw [sets_toList _ _ _ h, List.take_left' (by rw [List.length_append, List.length_take]; omega)]
theorem sets_drop {cs : Array Value} {o : Nat} {vs : List Value} (h : o + vs.length ≤ cs.size) : (sets cs o vs).toList.drop o = vs ++ cs.toList.drop (o + vs.length) := by
  have hl : cs.toList.length = cs.size := by simp
  rw [sets_toList _ _ _ h, List.append_assoc, List.drop_left' (by rw [List.length_take]; omega)]
theorem only_drew_sets (b : Nat) (vs : List Value) (o : Nat) (w : World) : Only [b] w (w.drew.setCells b o vs) := (Only.drewN (Only.refl [b] w) 1).trans (only_sets b vs o w.drew)
theorem own_box {w : World} {base : Nat} {e : TypeId} {size n cap g : Nat} {xs : List Value} (h : w.ownsRow base e size (.slice (some ⟨g, 0, none⟩) n cap) n xs) :
    ∃ cur, Box w g e cur ∧ n ≤ cap ∧ cap ≤ maxLen ∧ cur.size = cap * size ∧ cur.toList.take (n * size) = xs := by
  rcases h.2 with ⟨h, _⟩ | ⟨g', cap', cur, e1, _, hb, h1, h2, h3, h4⟩
  · cases h
  · injection e1 with e1 e2 e3
    injection e1 with e1
    injection e1 with e1
    subst e1 e3
    exact ⟨cur, hb, h1, h2, h3, h4⟩
theorem own_of_box {w : World} {base : Nat} {e : TypeId} {size n cap g : Nat} {xs : List Value} {cur : Array Value} (hb : Box w g e cur) (hg : base ≤ g) (h1 : n ≤ cap) (h2 : cap ≤ maxLen) (h3 : cur.size = cap * size) (h4 : cur.toList.take (n * size) = xs) :
    w.ownsRow base e size (.slice (some ⟨g, 0, none⟩) n cap) n xs := by
  refine ⟨?_, .inr ⟨g, cap, cur, rfl, hg, hb, h1, h2, h3, h4⟩⟩
  rw [← h4, List.length_take]
  have : cur.toList.length = cap * size := by simpa using h3
  rw [this, Nat.min_eq_left (Nat.mul_le_mul_right _ h1)]
theorem Box.some {w : World} {b : Nat} {t : TypeId} {cs : Array Value} (h : Box w b t cs) {j : Nat} (hj : j < cs.size) : (w.cell? ⟨b, j, none⟩).isSome = true := by
  rw [h.cell j, Array.getElem?_eq_getElem hj]
  rfl
theorem Box.at_ {w : World} {b : Nat} {t : TypeId} {cs : Array Value} (h : Box w b t cs) {j : Nat} {v : Value} (hj : cs.toList[j]? = Option.some v) : w.cell? ⟨b, j, none⟩ = Option.some v := by
  rw [h.cell j, ← Array.getElem?_toList]
  exact hj
theorem add_lit (b o j : Nat) : (⟨b, o, none⟩ : Addr).add j = ⟨b, o + j, none⟩ := by unfold Addr.add; split <;> simp_all

/-- copy(d, s), elements of several cells -/
theorem run_copyN {P : Program} (w : World) (dT sT ty elem : TypeId) (size : Nat) (b o dLen dCap : Nat) (a : Addr) (sLen sCap m : Nat) (cs : List Value)
    (hu : P.underlying dT = some (.slice elem)) (hs : (P.info? elem).map (·.size) = some size) (hm : Nat.min sLen dLen = m) (hn : cs.length = m * size)
    (hsrc : ∀ j v, cs[j]? = some v → w.cell? (a.add j) = some v) (hc : ∀ j, j < cs.length → (w.cell? ⟨b, o + j, none⟩).isSome = true) (hf : ∀ j, j < cs.length → w.frozen? ⟨b, o + j, none⟩ = false) (h1 : ∀ v ∈ cs, v.oneCell' = true) :
    (Builtin.copy_ #[dT, sT] ty #[.slice (some ⟨b, o, none⟩) dLen dCap, .slice (some a) sLen sCap]).run P w = .ok (goInt m) (w.setCells b o cs) := by
  have hl := run_loadCells_list (P := P) w a cs hsrc
  have hst := run_storeCells_cells (P := P) b o cs 0 w (by simpa using hc) (by simpa using hf) h1
  cases hq : P.info? elem with
  | none => simp [hq] at hs
  | some i =>
    have hi : i.size = size := by simpa [hq] using hs
    simp [Builtin.copy_, run_underlying hu, Builtin.lenOf, Builtin.firstCells, sizeOf, typeInfo, hq, hi, hm, ← hn, hl, hst]
theorem wp_copy_run {P : Program} (w : World) {o : Oper} {a : Act} {K : Act → World → Prop} {Q : Exit → Act → World → Prop} (d s : Operand) (t t' : TypeId)
    (ho : o.op = .call { callee := .builtin .copy, args := #[d, s], argTypes := #[t, t'] }) (v u : Value) (hd : a.eval d = v) (hs : a.eval s = u) {v' : Value} {w' : World}
    (hr : (Builtin.copy_ #[t, t'] o.type #[v, u]).run P w = .ok v' w') (h : K (a.put o.dst v') w') : o.wp P a w K Q := by
  unfold Oper.wp execOp
  simp only [ho, resolve, invoke, builtin, Sem.run_bind, Sem.run_pure, Result.andThen_ok, List.map_toArray, List.map_cons, List.map_nil, hd, hs, hr]
  exact h
theorem wpList_copy_run {P : Program} (w : World) {ops : Array Oper} {rest : List Oper} {o : Oper} {a : Act} {Q : Exit → Act → World → Prop} (hgd : o.guard = none) (d s : Operand) (t t' : TypeId)
    (ho : o.op = .call { callee := .builtin .copy, args := #[d, s], argTypes := #[t, t'] }) (v u : Value) (hd : a.eval d = v) (hs : a.eval s = u) {v' : Value} {w' : World}
    (hr : (Builtin.copy_ #[t, t'] o.type #[v, u]).run P w = .ok v' w') (h : wpList P ops Q rest (a.put o.dst v') w') : wpList P ops Q (o :: rest) a w :=
  wpList_plain hgd fun _ hK => wp_copy_run w d s t t' ho v u hd hs hr (hK _ _ h)
theorem step_copy_run {P : Program} {ops : Array Oper} {o : Oper} {a : Act} {w : World} {K : Act → World → Prop} {Q : Exit → Act → World → Prop} {E : Prop}
    (hg : o.guard = none) (d x : Operand) (dT sT : TypeId) (hop : o.op = Op.call { callee := Callee.builtin Builtin.copy, args := #[d, x], argTypes := #[dT, sT] })
    (v u : Value) (hd : a.eval d = v) (hx : a.eval x = u) {v' : Value} {w' : World} (hr : (Builtin.copy_ #[dT, sT] o.type #[v, u]).run P w = .ok v' w') (hK : K (a.put o.dst v') w') :
    if Region.wanted o (yielded ops a.tmps) = true then Oper.wp P o a w K Q else E := by
  have hw : Region.wanted o (yielded ops a.tmps) = true := by simp [Region.wanted, hg]
  rw [if_pos hw]
  exact wp_copy_run w d x dT sT hop v u hd hx hr hK
/-- clear(s), one element of several cells -/
theorem run_clear1 {P : Program} (w : World) (t e ty : TypeId) (z : Value) (ht : P.underlying t = some (.slice e)) (hv : ∀ w, (zeroValue e).run P w = .ok z w) (b o c : Nat) (hz : (Builtin.zeroCells z.cells 1).toList = z.cells.toList) (h1 : ∀ v ∈ z.cells.toList, v.oneCell' = true)
    (hc : ∀ j, j < z.cells.toList.length → (w.cell? ⟨b, o + j, none⟩).isSome = true) (hf : ∀ j, j < z.cells.toList.length → w.frozen? ⟨b, o + j, none⟩ = false) :
    (Builtin.clear_ #[t] ty #[.slice (some ⟨b, o, none⟩) 1 c]).run P w = .ok (.tuple #[]) (w.setCells b o z.cells.toList) := by
  have hst := run_storeCells_cells (P := P) b o z.cells.toList 0 w (by simpa using hc) (by simpa using hf) h1
  simp only [Nat.add_zero] at hst
  simp [Builtin.clear_, run_underlying ht, hv, hz, hst]
end Go.Proofs.Ytpkmngkepmoikaa
