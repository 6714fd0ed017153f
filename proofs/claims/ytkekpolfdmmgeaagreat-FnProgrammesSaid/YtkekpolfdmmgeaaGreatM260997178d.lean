/- Contracts of functions that the proof leans on. No condition. -/
import Derived.Test.YtkekpolfdmmgeaaGreatMf84b0f1e81
import Derived.IntWalk
/- append(out, xs...) to rows of the call's own, in the words of the readings. -/
namespace Go.Proofs.YtkekpolfdmmgeaaGreat
set_option linter.unusedVariables false
set_option linter.unusedSimpArgs false
open Go.RowKit

theorem run_append_of_nil {P : Program} (w : World) (base : Nat) (t ty e : TypeId) (i : TypeInfo) (size : Nat) (ht : P.underlying t = some (.slice e)) (hi : P.info? e = some i)
    (v : Value) (n : Nat) (xs : List Value) (hown : w.ownsRow base e size v n xs) (c : Nat) : (Builtin.append_ #[t, t] ty #[v, .slice none 0 c]).run P w = .ok v w := by
  rcases hown.2 with ⟨rfl, rfl⟩ | ⟨g, cap, cur, rfl, _, _, hnc, _⟩
  · simp [Builtin.append_, run_underlying ht, sizeOf, typeInfo, hi, Builtin.lenOf, Builtin.firstCells]
  · simp [Builtin.append_, run_underlying ht, sizeOf, typeInfo, hi, Builtin.lenOf, Builtin.firstCells, hnc, storeCells]
theorem run_append_seq {P : Program} (w : World) (base : Nat) (t ty e : TypeId) (i : TypeInfo) (z : Value) (size bytes : Nat) (ht : P.underlying t = some (.slice e)) (hi : P.info? e = some i) (hz : i.zero = some z)
    (hsize : i.size = size) (hby : i.bytes = bytes) (hzs : z.cells.size = size) (hsz : 0 < size)
    (v : Value) (n : Nat) (xs : List Value) (hown : w.ownsRow base e size v n xs)
    (u : Value) (m : Nat) (news : List Value) (hr : Seq w u m news) (hl : news.length = m * size) (h1 : ∀ y ∈ news, y.oneCell' = true)
    (h63 : n + m ≤ maxLen) (hbytes : (n + m) * bytes ≤ 140737488355328) (hbase : base ≤ w.heap.size) :
    ∃ v' w', (Builtin.append_ #[t, t] ty #[v, u]).run P w = .ok v' w' ∧ w'.ownsRow base e size v' (n + m) (xs ++ news) ∧ w.grownBy w' v.ownBlock := by
  obtain ⟨A, c, rfl, hnc, hcm, hA, hc⟩ := hr
  rcases A with _ | ad
  · obtain rfl := hA rfl
    obtain rfl : m = 0 := by omega
    obtain rfl : news = [] := List.eq_nil_of_length_eq_zero (by simpa using hl)
    exact ⟨v, w, run_append_of_nil w base t ty e i size ht hi v n xs hown 0, by simpa using hown, World.grownBy.refl w _⟩
  · have hcells : ∀ j y, news[j]? = some y → w.cell? (ad.add j) = some y := by
      intro j y hy
      have hm : 0 < m := by
        rcases Nat.eq_zero_or_pos m with h0 | h0
        · subst h0
          have : news = [] := List.eq_nil_of_length_eq_zero (by simpa using hl)
          subst this
          simp at hy
        · exact h0
      obtain ⟨b, o', e1, hb, hcell⟩ := hc hm
      injection e1 with e1
      subst e1
      have := hcell j y hy
      rwa [show (⟨b, o', none⟩ : Addr).add j = ⟨b, o' + j, none⟩ from by unfold Addr.add; split <;> simp_all]
    obtain ⟨v', w', hrun, h2, h3, _, _⟩ := run_append_own_at (P := P) w base t ty e i z size bytes ht hi hz hsize hby hzs hsz v n xs hown ad m c news hl hcells h1 h63 hbytes hbase
    exact ⟨v', w', hrun, h2, h3⟩
theorem wp_append_seq {P : Program} (w : World) {o : Oper} {a : Act} {K : Act → World → Prop} {Q : Exit → Act → World → Prop} (s x : Operand) (t : TypeId)
    (ho : o.op = .call { callee := .builtin .append, args := #[s, x], argTypes := #[t, t] })
    (base : Nat) (e : TypeId) (i : TypeInfo) (z : Value) (size bytes : Nat) (ht : P.underlying t = some (.slice e)) (hi : P.info? e = some i) (hz : i.zero = some z)
    (hsize : i.size = size) (hby : i.bytes = bytes) (hzs : z.cells.size = size) (hsz : 0 < size)
    (v : Value) (n : Nat) (xs : List Value) (hs : a.eval s = v) (hown : w.ownsRow base e size v n xs)
    (u : Value) (m : Nat) (news : List Value) (hx : a.eval x = u) (hr : Seq w u m news) (hl : news.length = m * size) (h1 : ∀ y ∈ news, y.oneCell' = true)
    (h63 : n + m ≤ maxLen) (hbytes : (n + m) * bytes ≤ 140737488355328) (hbase : base ≤ w.heap.size)
    (h : ∀ v' w', w'.ownsRow base e size v' (n + m) (xs ++ news) → w.grownBy w' v.ownBlock → K (a.put o.dst v') w') : o.wp P a w K Q := by
  obtain ⟨v', w', hrun, h2, h3⟩ := run_append_seq (P := P) w base t o.type e i z size bytes ht hi hz hsize hby hzs hsz v n xs hown u m news hr hl h1 h63 hbytes hbase
  unfold Oper.wp execOp
  simp only [ho, resolve, invoke, builtin, Sem.run_bind, Sem.run_pure, Result.andThen_ok, List.map_toArray, List.map_cons, List.map_nil, hs, hx, hrun]
  exact h v' w' h2 h3

theorem wp_append_I (w : World) {o : Oper} {a : Act} {K : Act → World → Prop} {Q : Exit → Act → World → Prop} (s x : Operand)
    (ho : o.op = .call { callee := .builtin .append, args := #[s, x], argTypes := #[24, 24] })
    (base : Nat) (v : Value) (zs : List Int) (hs : a.eval s = v) (hown : OwnI w base v zs) (u : Value) (ys : List Int) (hx : a.eval x = u) (hr : Ints w u ys)
    (hl : zs.length + ys.length ≤ 16777216) (hbase : base ≤ w.heap.size)
    (h : ∀ v' w', OwnI w' base v' (zs ++ ys) → w.grownBy w' v.ownBlock → K (a.put o.dst v') w') : o.wp Tryz.prog a w K Q := by
  obtain ⟨i0, hi, hz0, hz1, hz2⟩ := info_parts info_int
  refine wp_append_seq w s x 24 ho base 3 i0 _ 1 8 Tryz.underlying24 hi hz0 hz1 hz2 rfl (by omega) v zs.length _ hs hown u ys.length _ hx hr (by simp) ?_ (by unfold maxLen; omega) (by omega) hbase (fun v' w' q1 q2 => h v' w' ?_ q2)
  · intro y hy
    obtain ⟨_, _, rfl⟩ := List.mem_map.1 hy; rfl
  · unfold OwnI; rw [List.length_append, List.map_append]; exact q1
theorem wpList_append_I (w : World) {ops : Array Oper} {rest : List Oper} {o : Oper} {a : Act} {Q : Exit → Act → World → Prop} (hgd : o.guard = none) (s x : Operand)
    (ho : o.op = .call { callee := .builtin .append, args := #[s, x], argTypes := #[24, 24] })
    (base : Nat) (v : Value) (zs : List Int) (hs : a.eval s = v) (hown : OwnI w base v zs) (u : Value) (ys : List Int) (hx : a.eval x = u) (hr : Ints w u ys)
    (hl : zs.length + ys.length ≤ 16777216) (hbase : base ≤ w.heap.size)
    (h : ∀ v' w', OwnI w' base v' (zs ++ ys) → w.grownBy w' v.ownBlock → wpList Tryz.prog ops Q rest (a.put o.dst v') w') : wpList Tryz.prog ops Q (o :: rest) a w :=
  wpList_plain hgd fun _ hK => wp_append_I w s x ho base v zs hs hown u ys hx hr hl hbase fun v' w' h2 h3 => hK _ _ (h v' w' h2 h3)
theorem step_append_I (w : World) {ops : Array Oper} {o : Oper} {a : Act} {K : Act → World → Prop} {Q : Exit → Act → World → Prop} {E : Prop} (hgd : o.guard = none) (s x : Operand)
    (ho : o.op = .call { callee := .builtin .append, args := #[s, x], argTypes := #[24, 24] })
    (base : Nat) (v : Value) (zs : List Int) (hs : a.eval s = v) (hown : OwnI w base v zs) (u : Value) (ys : List Int) (hx : a.eval x = u) (hr : Ints w u ys)
    (hl : zs.length + ys.length ≤ 16777216) (hbase : base ≤ w.heap.size)
    (h : ∀ v' w', OwnI w' base v' (zs ++ ys) → w.grownBy w' v.ownBlock → K (a.put o.dst v') w') :
    if Region.wanted o (yielded ops a.tmps) = true then Oper.wp Tryz.prog o a w K Q else E := by
  have hw : Region.wanted o (yielded ops a.tmps) = true := by simp [Region.wanted, hgd]
  rw [if_pos hw]
  exact wp_append_I w s x ho base v zs hs hown u ys hx hr hl hbase h
end Go.Proofs.YtkekpolfdmmgeaaGreat

/- Items over a code: full bases. -/
namespace Go.Proofs.YtkekpolfdmmgeaaGreat
set_option linter.unusedVariables false
set_option linter.unusedSimpArgs false
open Go.RowKit

theorem wsV_small {x : CodeD} {it : ItemD} (hx : codeB x = true) (hk : knI x it = true) : (wsV x it).all (inB · (-1000000) 1000000) = true := by
  rw [List.all_eq_true]
  intro z hz
  have := wsV_bd hx hk z hz
  exact inB_of (by omega) (by omega)
theorem fullV_late {x : CodeD} {it : ItemD} (h : it.late = true) : fullV x it = lateV (sumV x it) x.bonus := by unfold fullV; rw [if_pos h]
theorem fullV_early {x : CodeD} {it : ItemD} (h : it.late = false) : fullV x it = sumV x it := by unfold fullV; rw [h]; rfl
/-- the row [z] just built -/
theorem ints_new (w : World) (z : Int) : Ints (w.alloc (.cells #[.int .i64 z] 3)) (.slice (some ⟨w.heap.size, 0, none⟩) 1 1) [z] := by
  refine ⟨_, 1, rfl, Nat.le_refl _, by decide, (fun h => by cases h), fun _ => ⟨w.heap.size, 0, rfl, by simp, fun j u hu => ?_⟩⟩
  rcases j with _ | j
  · simp at hu
    subst hu
    exact (Box.new w _ _ _ rfl).cell 0
  · simp at hu
end Go.Proofs.YtkekpolfdmmgeaaGreat

/- Items over a code: repeats and bases. -/
namespace Go.Proofs.YtkekpolfdmmgeaaGreat
set_option linter.unusedVariables false
set_option linter.unusedSimpArgs false
open Go.RowKit

def hasB (x : CodeD) (its : List ItemD) (k : Int) : Bool := gdB x its && inB k 0 ((its.length : Int) - 1)
theorem hasB_true {x : CodeD} {its : List ItemD} {k : Int} (h : hasB x its k = true) : gdB x its = true ∧ 0 ≤ k ∧ k.toNat < its.length := by
  unfold hasB at h
  rw [Bool.and_eq_true] at h
  have := inB_true h.2
  exact ⟨h.1, by omega, by omega⟩
theorem hasB_comm (x : CodeD) (its : List ItemD) (k : Int) : hasB x its k = (inB k 0 ((its.length : Int) - 1) && gdB x its) := Bool.and_comm _ _
theorem repP_eq {s z : ByteArray} {it : ItemD} {m : Int} (h : it.names[0]? = some z) (hm : it.marks[0]? = some m) : repP s it = (z.toList == s.toList && m != 3) := by
  unfold repP
  rw [h, hm]
  have e1 : ((some z : Option ByteArray) == some s) = (z.toList == s.toList) := by
    change (z.data == s.data) = (z.toList == s.toList)
    by_cases hz : z.toList = s.toList
    · obtain rfl := str_ext hz
      simp
    · have : ¬ z.data = s.data := fun e => hz (by cases z; cases s; simp_all)
      rw [beq_eq_false_iff_ne.2 this, beq_eq_false_iff_ne.2 hz]
  rw [e1]
  rfl
end Go.Proofs.YtkekpolfdmmgeaaGreat

/- Items over a code: bases of items, laws. -/
namespace Go.Proofs.YtkekpolfdmmgeaaGreat
set_option linter.unusedVariables false
set_option linter.unusedSimpArgs false
open Go.RowKit

theorem ret_vb2 {v : Value} {b b' : Bool} (h : b = b') : Ending.returned (.tuple #[v, .bool b]) = .returned (.tuple #[v, .bool b']) := by rw [h]
theorem onL_len {b : Bool} {l : List Int} {n : Nat} (h : b = true → l.length ≤ n) : (onL b l).length ≤ n := by cases b with | true => exact h rfl | false => exact Nat.zero_le _
end Go.Proofs.YtkekpolfdmmgeaaGreat

/- Items over a code: counts of families, room. -/
namespace Go.Proofs.YtkekpolfdmmgeaaGreat
set_option linter.unusedVariables false
set_option linter.unusedSimpArgs false
open Go.RowKit

theorem countsV_len (x : CodeD) (its : List ItemD) : (countsV x its).length = 5 := cns_length _ _
theorem fams_len (x : CodeD) (its : List ItemD) : (fams x its).length = its.length := by simp [fams]
theorem roomV_len {x : CodeD} (its : List ItemD) (h : x.limits.length = 5) : (roomV x its).length = 5 := by
  unfold roomV
  rw [List.length_zipWith, countsV_len, h]
  rfl
theorem countsV_bd {x : CodeD} {its : List ItemD} {f : Nat} {n : Int} (h : (countsV x its)[f]? = some n) : 0 ≤ n ∧ n ≤ its.length := by
  unfold countsV cns at h
  rw [List.getElem?_map] at h
  rcases List.getElem?_eq_some_iff.1 (show ((List.range 5).map fun (d : Nat) => cn (fams x its) (d : Int))[f]? = some n by rw [List.getElem?_map]; exact h) with ⟨hf, e⟩
  simp only [List.getElem_map, List.getElem_range] at e
  have := cn_bd (fams x its) (f : Int)
  rw [fams_len] at this
  omega
theorem roomV_get {x : CodeD} {its : List ItemD} {f : Nat} {l n : Int} (h1 : x.limits[f]? = some l) (h2 : (countsV x its)[f]? = some n) : (roomV x its)[f]? = some (l - n) := by
  unfold roomV
  rw [List.getElem?_zipWith, h1, h2]
theorem codeB_limit {x : CodeD} (h : codeB x = true) {f : Nat} {l : Int} (hl : x.limits[f]? = some l) : 0 ≤ l ∧ l ≤ 9 := by
  unfold codeB headB at h
  simp only [Bool.and_eq_true] at h
  exact inB_true (List.all_eq_true.1 h.1.1.2 l (List.mem_of_getElem? hl))
theorem kwOk_true {x : CodeD} {its : List ItemD} (h : kwOk x its = true) : codeB x = true ∧ itemsB its = true := by
  unfold kwOk at h
  rwa [Bool.and_eq_true] at h
set_option maxHeartbeats 1000000 in
theorem pgAsked_any (v0 v1 : Value) (x : CodeD) (its : List ItemD) (w : World) (h0 : CodeAt w v0 x) (h1 : ItemsAt w v1 its)  :
    Calls Tryz.prog 63 #[v0, v1] w fun e w' => e = .returned (.bool (kwOk x its)) ∧ Kept w w' := by
  have H0 := Lib.hid h0
  obtain ⟨n0, m0, rfl, p0, q0⟩ := h0
  have HE0 := Lib.hid p0; have HI0 := Lib.hid q0
  obtain ⟨A0, c0, rfl, hnc0, hcm0, _⟩ := p0.1.out; obtain ⟨D0, d0, rfl, hnd0, hdm0, _⟩ := q0.out; clear p0 q0; unfold maxLen at hcm0 hdm0
  have H1 := Lib.hid h1
  obtain ⟨A1, c1, cs1, rfl, hnc1, hcm1, hA1⟩ := h1.out; have HA1 := Lib.hid hA1; clear hA1 h1; unfold maxLen at hcm1
  go_enter Tryz.func63, Tryz.ntmps63
  have K0 := Kept.refl w
  go_wp2_with fail
  obtain ⟨wb1, hwb1⟩ : ∃ w' : World, w' = w.alloc (.cells #[.slice A0 x.elems.length c0, .slice D0 x.limits.length d0, .int .i64 x.repeats, .int .i64 x.bonus, .int .i64 x.keeps, .int .i64 x.fall] 26) := ⟨_, rfl⟩
  rw [← hwb1]
  have KB0 : Kept w wb1 := hwb1 ▸ (Kept.refl w).alloc _
  have B0 : Box wb1 (w.heap.size) 26 #[.slice A0 x.elems.length c0, .slice D0 x.limits.length d0, .int .i64 x.repeats, .int .i64 x.bonus, .int .i64 x.keeps, .int .i64 x.fall] := hwb1 ▸ Box.new w (w.heap.size) 26 #[.slice A0 x.elems.length c0, .slice D0 x.limits.length d0, .int .i64 x.repeats, .int .i64 x.bonus, .int .i64 x.keeps, .int .i64 x.fall] rfl
  have swb1 : wb1.heap.size = w.heap.size + 1 := by rw [hwb1]; simp
  clear hwb1
  have Kwb1 := K0.trans KB0
  refine (cdGood_any _ x _ (H0.out.kept Kwb1)).mono ?_
  rintro e w1 ⟨rfl, k1⟩
  replace B0 := B0.kept k1
  have sz1 := k1.size
  have K1 := Kwb1.trans k1
  by_cases hc : codeB x = true
  case neg =>
    simp only [Bool.not_eq_true] at hc
    rw [hc]
    have HO : Hid (kwOk x its = false) := Lib.hid (by unfold kwOk; simp [hc])
    obtain ⟨x0, y0⟩ := B0.six
    go_wp2_with fail
    clear x0 y0
    go_ret
    exact ⟨by rw [HO.out]; rfl, K1⟩
  rw [hc]
  obtain ⟨x0, y0⟩ := B0.six
  go_wp2_with fail
  clear x0 y0
  refine (itList_any _ its _ (H1.out.kept K1)).mono ?_
  rintro e w2 ⟨rfl, k2⟩
  replace B0 := B0.kept k2
  have sz2 := k2.size
  have K2 := K1.trans k2
  obtain ⟨x0, y0⟩ := B0.six
  go_wp2_with fail
  clear x0 y0
  go_ret
  exact ⟨ret_bool (by unfold kwOk; rw [hc]; rfl), K2⟩
set_option maxHeartbeats 4000000 in
theorem pgCounts_any (v0 v1 : Value) (x : CodeD) (its : List ItemD) (w : World) (h0 : CodeAt w v0 x) (h1 : ItemsAt w v1 its) (hx : codeB x = true) (hb : itemsB its = true) :
    Calls Tryz.prog 92 #[v0, v1] w fun e w' => ∃ v', e = .returned v' ∧ OwnI w' w.heap.size v' (countsV x its) ∧ Kept w w' := by
  have H0 := Lib.hid h0
  obtain ⟨n0, m0, rfl, p0, q0⟩ := h0
  have HE0 := Lib.hid p0; have HI0 := Lib.hid q0
  obtain ⟨A0, c0, rfl, hnc0, hcm0, _⟩ := p0.1.out; obtain ⟨D0, d0, rfl, hnd0, hdm0, _⟩ := q0.out; clear p0 q0; unfold maxLen at hcm0 hdm0
  have H1 := Lib.hid h1
  obtain ⟨A1, c1, cs1, rfl, hnc1, hcm1, hA1⟩ := h1.out; have HA1 := Lib.hid hA1; clear hA1 h1; unfold maxLen at hcm1
  obtain ⟨i0, hi, hz0, hz1, hz2⟩ := info_parts info_int
  go_enter Tryz.func92, Tryz.ntmps92
  have K0 := Kept.refl w
  go_upto_region 1 with (fail)
  obtain ⟨wb1, hwb1⟩ : ∃ w' : World, w' = w.alloc (.cells #[.slice A0 x.elems.length c0, .slice D0 x.limits.length d0, .int .i64 x.repeats, .int .i64 x.bonus, .int .i64 x.keeps, .int .i64 x.fall] 26) := ⟨_, rfl⟩
  rw [← hwb1]
  have KB0 : Kept w wb1 := hwb1 ▸ (Kept.refl w).alloc _
  have B0 : Box wb1 (w.heap.size) 26 #[.slice A0 x.elems.length c0, .slice D0 x.limits.length d0, .int .i64 x.repeats, .int .i64 x.bonus, .int .i64 x.keeps, .int .i64 x.fall] := hwb1 ▸ Box.new w (w.heap.size) 26 #[.slice A0 x.elems.length c0, .slice D0 x.limits.length d0, .int .i64 x.repeats, .int .i64 x.bonus, .int .i64 x.keeps, .int .i64 x.fall] rfl
  have swb1 : wb1.heap.size = w.heap.size + 1 := by rw [hwb1]; simp
  clear hwb1
  have Kwb1 := K0.trans KB0
  obtain ⟨x0, y0⟩ := B0.six
  go_wp2_with (at_make; refine wpList_make_full _ rfl _ _ 24 rfl wb1.heap.size 3 i0 _ 1 Tryz.underlying24 hi hz0 hz1 _ _ _ _ 5 rfl rfl rfl rfl (by rw [hz2]; omega) (by decide) (Nat.le_refl _) ?_; intro w2 hown hgrow)
  clear x0 y0
  have k2 : Kept wb1 w2 := (Below.refl _ _).grown hgrow (Nat.le_refl _) (by intro k hk; cases hk)
  have hown0 : w2.ownsRow wb1.heap.size 3 1 (.slice (some ⟨wb1.heap.size, 0, none⟩) 5 5) 5 ((cns 5 []).map (Value.int .i64)) := by
    rw [show (cns 5 []).map (Value.int .i64) = (madeCells (Value.int .i64 0).cells (5 * 1)).toList from by rw [cns_nil5]; kernel_rfl]
    exact hown
  have HW := Lib.hid hown0
  clear hown0 hgrow hi hz0 hz1 hz2 hown
  have HB := Lib.hid hb
  have hl14 := (itemsB_true hb).1
  have B0s := B0
  have hgz : wb1.heap.size < w2.heap.size := (HW.out.lt _ rfl).2
  go_loopw [12] (fun i wr => ∃ k : Nat, k ≤ its.length ∧ i = .int .i64 k ∧ wr.ownsRow wb1.heap.size 3 1 (.slice (some ⟨wb1.heap.size, 0, none⟩) 5 5) 5 ((cns 5 ((fams x its).take k)).map (Value.int .i64)) ∧ Kept wb1 wr) (fun i _ => its.length - (intOf i).toNat)
  case atStart => exact ⟨0, Nat.zero_le _, rfl, by simpa using HW.out, k2⟩
  case round =>
    obtain ⟨k, hk, rfl, ho, hkept⟩ := hrel
    have HO := Lib.hid ho
    clear ho HW
    replace B0 := B0.kept hkept
    have szr := hkept.size
    have Kr := Kwb1.trans hkept
    by_cases hlt : k < its.length
    · obtain ⟨b, o, Aa, ca, Ab, cb, it, rfl, hbb, h2, h3, hit, q0, q1, q2⟩ := items_at (HA1.out.kept Kr) hlt
      obtain ⟨hi1, hi3, him⟩ := items_some HB.out h2
      have HIT := Lib.hid hit
      have HFS := Lib.hid (fams_snoc (x := x) h2)
      clear h2 h3 hit him
      obtain ⟨x0, y0⟩ := B0.six
      go_upto_region 5 with (fail)
      clear x0 y0
      obtain ⟨wb2, hwb2⟩ : ∃ w' : World, w' = wr.alloc (.cells #[.slice Aa it.names.length ca, .slice Ab it.marks.length cb, .bool it.late] 30) := ⟨_, rfl⟩
      rw [← hwb2]
      have KBt : Kept wr wb2 := hwb2 ▸ (Kept.refl wr).alloc _
      have Bt : Box wb2 (wr.heap.size) 30 #[.slice Aa it.names.length ca, .slice Ab it.marks.length cb, .bool it.late] := hwb2 ▸ Box.new wr (wr.heap.size) 30 #[.slice Aa it.names.length ca, .slice Ab it.marks.length cb, .bool it.late] rfl
      have swb2 : wb2.heap.size = wr.heap.size + 1 := by rw [hwb2]; simp
      clear hwb2
      replace B0 := B0.kept KBt
      have Kwb2 := Kr.trans KBt
      obtain ⟨x0, y0⟩ := B0.six
      obtain ⟨xt, yt⟩ := Bt.three
      go_wp2_with fail
      clear x0 y0 xt yt
      refine (pgFamily_any _ _ x it _ (H0.out.kept Kwb2) (HIT.out.kept KBt) hi1).mono ?_
      rintro e w1 ⟨rfl, k1⟩
      replace B0 := B0.kept k1
      replace Bt := Bt.kept k1
      have sz1 := k1.size
      have K1 := Kwb2.trans k1
      have hfb := famV_bd hx it
      obtain ⟨hf1, hf2⟩ := hfb
      have htl : ((fams x its).take k).length ≤ 14 := by rw [List.length_take, fams_len]; omega
      have ho := own_kept (own_kept HO.out KBt) k1
      generalize famV x it = fv at *
      by_cases hf : fv < 0
      · have hge : decide (fv ≥ 0) = false := by simp; omega
        have HS := Lib.hid (cns_skip 5 ((fams x its).take k) hf)
        have HOs := Lib.hid ho
        clear ho
        obtain ⟨x0, y0⟩ := B0.six
        obtain ⟨xt, yt⟩ := Bt.three
        go_wp2_with fail
        clear x0 y0 xt yt
        go_roundw
        case rel => exact ⟨k + 1, by omega, by go_num, by rw [HFS.out, HS.out]; exact HOs.out, (hkept.trans KBt).trans k1⟩
        case measure => simp [intOf]; omega
      · have h0 : 0 ≤ fv := by omega
        have HS := Lib.hid (cns_snoc (m := 5) ((fams x its).take k) h0 (by omega))
        have hcg := cns_get (m := 5) ((fams x its).take k) h0 (by omega)
        obtain ⟨cb1, cb2⟩ := cn_bd ((fams x its).take k) fv
        have hcell : w1.cell? ⟨w.heap.size + 1, fv.toNat, none⟩ = some (.int .i64 (cn ((fams x its).take k) fv)) := by
          rw [← swb1, ho.cellAt fv.toNat (by omega), List.getElem?_map, hcg]
          rfl
        have hfr : w1.frozen? ⟨w.heap.size + 1, fv.toNat, none⟩ = false := by rw [← swb1]; exact ho.frozenAt fv.toNat
        have HST : Hid ((w1.setCell ⟨w.heap.size + 1, fv.toNat, none⟩ (.int .i64 (cn ((fams x its).take k) fv + 1))).ownsRow wb1.heap.size 3 1 (.slice (some ⟨wb1.heap.size, 0, none⟩) 5 5) 5 _) := Lib.hid (by rw [← swb1]; exact (ho.stored fv.toNat (.int .i64 (cn ((fams x its).take k) fv + 1))).1)
        have h5 : fv < 5 := by omega
        clear hcg ho
        generalize hcd : cn ((fams x its).take k) fv = cd at *
        clear hcd
        obtain ⟨x0, y0⟩ := B0.six
        obtain ⟨xt, yt⟩ := Bt.three
        go_wp2_with fail
        clear x0 y0 xt yt
        go_roundw
        case rel =>
          refine ⟨k + 1, by omega, by go_num, ?_, Kept.setCell ((hkept.trans KBt).trans k1) (by dsimp only; omega) _⟩
          have := HST.out
          rw [HFS.out, HS.out, List.map_set]
          exact this
        case measure => simp [intOf]; omega
    · obtain rfl : k = its.length := by omega
      have HOE : Hid (OwnI wr wb1.heap.size (.slice (some ⟨wb1.heap.size, 0, none⟩) 5 5) (countsV x its)) := Lib.hid (by have := HO.out; rw [List.take_of_length_le (by rw [fams_len]; exact Nat.le_refl _)] at this; exact this)
      obtain ⟨x0, y0⟩ := B0.six
      go_wp2_with fail
      clear x0 y0
      go_ret
      exact ⟨_, by rw [swb1]; rfl, HOE.out.base Kwb1.size, Kr⟩
set_option maxHeartbeats 4000000 in
theorem familyCounts_any (v0 v1 : Value) (x : CodeD) (its : List ItemD) (w : World) (h0 : CodeAt w v0 x) (h1 : ItemsAt w v1 its) (hx : codeB x = true) (hb : itemsB its = true) :
    Calls Tryz.prog 98 #[v0, v1] w fun e w' => ∃ v', e = .returned v' ∧ OwnI w' w.heap.size v' (countsV x its) ∧ Kept w w' := by
  have H0 := Lib.hid h0
  obtain ⟨n0, m0, rfl, p0, q0⟩ := h0
  have HE0 := Lib.hid p0; have HI0 := Lib.hid q0
  obtain ⟨A0, c0, rfl, hnc0, hcm0, _⟩ := p0.1.out; obtain ⟨D0, d0, rfl, hnd0, hdm0, _⟩ := q0.out; clear p0 q0; unfold maxLen at hcm0 hdm0
  have H1 := Lib.hid h1
  obtain ⟨A1, c1, cs1, rfl, hnc1, hcm1, hA1⟩ := h1.out; have HA1 := Lib.hid hA1; clear hA1 h1; unfold maxLen at hcm1
  obtain ⟨i0, hi, hz0, hz1, hz2⟩ := info_parts info_int
  go_enter Tryz.func98, Tryz.ntmps98
  have K0 := Kept.refl w
  go_upto_region 1 with (fail)
  obtain ⟨wb1, hwb1⟩ : ∃ w' : World, w' = w.alloc (.cells #[.slice A0 x.elems.length c0, .slice D0 x.limits.length d0, .int .i64 x.repeats, .int .i64 x.bonus, .int .i64 x.keeps, .int .i64 x.fall] 26) := ⟨_, rfl⟩
  rw [← hwb1]
  have KB0 : Kept w wb1 := hwb1 ▸ (Kept.refl w).alloc _
  have B0 : Box wb1 (w.heap.size) 26 #[.slice A0 x.elems.length c0, .slice D0 x.limits.length d0, .int .i64 x.repeats, .int .i64 x.bonus, .int .i64 x.keeps, .int .i64 x.fall] := hwb1 ▸ Box.new w (w.heap.size) 26 #[.slice A0 x.elems.length c0, .slice D0 x.limits.length d0, .int .i64 x.repeats, .int .i64 x.bonus, .int .i64 x.keeps, .int .i64 x.fall] rfl
  have swb1 : wb1.heap.size = w.heap.size + 1 := by rw [hwb1]; simp
  clear hwb1
  have Kwb1 := K0.trans KB0
  obtain ⟨x0, y0⟩ := B0.six
  go_wp2_with (at_make; refine wpList_make_full _ rfl _ _ 24 rfl wb1.heap.size 3 i0 _ 1 Tryz.underlying24 hi hz0 hz1 _ _ _ _ 5 rfl rfl rfl rfl (by rw [hz2]; omega) (by decide) (Nat.le_refl _) ?_; intro w2 hown hgrow)
  clear x0 y0
  have k2 : Kept wb1 w2 := (Below.refl _ _).grown hgrow (Nat.le_refl _) (by intro k hk; cases hk)
  have hown0 : w2.ownsRow wb1.heap.size 3 1 (.slice (some ⟨wb1.heap.size, 0, none⟩) 5 5) 5 ((cns 5 []).map (Value.int .i64)) := by
    rw [show (cns 5 []).map (Value.int .i64) = (madeCells (Value.int .i64 0).cells (5 * 1)).toList from by rw [cns_nil5]; kernel_rfl]
    exact hown
  have HW := Lib.hid hown0
  clear hown0 hgrow hi hz0 hz1 hz2 hown
  have HB := Lib.hid hb
  have hl14 := (itemsB_true hb).1
  have B0s := B0
  have hgz : wb1.heap.size < w2.heap.size := (HW.out.lt _ rfl).2
  go_loopw [12] (fun i wr => ∃ k : Nat, k ≤ its.length ∧ i = .int .i64 k ∧ wr.ownsRow wb1.heap.size 3 1 (.slice (some ⟨wb1.heap.size, 0, none⟩) 5 5) 5 ((cns 5 ((fams x its).take k)).map (Value.int .i64)) ∧ Kept wb1 wr) (fun i _ => its.length - (intOf i).toNat)
  case atStart => exact ⟨0, Nat.zero_le _, rfl, by simpa using HW.out, k2⟩
  case round =>
    obtain ⟨k, hk, rfl, ho, hkept⟩ := hrel
    have HO := Lib.hid ho
    clear ho HW
    replace B0 := B0.kept hkept
    have szr := hkept.size
    have Kr := Kwb1.trans hkept
    by_cases hlt : k < its.length
    · obtain ⟨b, o, Aa, ca, Ab, cb, it, rfl, hbb, h2, h3, hit, q0, q1, q2⟩ := items_at (HA1.out.kept Kr) hlt
      obtain ⟨hi1, hi3, him⟩ := items_some HB.out h2
      have HIT := Lib.hid hit
      have HFS := Lib.hid (fams_snoc (x := x) h2)
      clear h2 h3 hit him
      obtain ⟨x0, y0⟩ := B0.six
      go_upto_region 5 with (fail)
      clear x0 y0
      obtain ⟨wb2, hwb2⟩ : ∃ w' : World, w' = wr.alloc (.cells #[.slice Aa it.names.length ca, .slice Ab it.marks.length cb, .bool it.late] 30) := ⟨_, rfl⟩
      rw [← hwb2]
      have KBt : Kept wr wb2 := hwb2 ▸ (Kept.refl wr).alloc _
      have Bt : Box wb2 (wr.heap.size) 30 #[.slice Aa it.names.length ca, .slice Ab it.marks.length cb, .bool it.late] := hwb2 ▸ Box.new wr (wr.heap.size) 30 #[.slice Aa it.names.length ca, .slice Ab it.marks.length cb, .bool it.late] rfl
      have swb2 : wb2.heap.size = wr.heap.size + 1 := by rw [hwb2]; simp
      clear hwb2
      replace B0 := B0.kept KBt
      have Kwb2 := Kr.trans KBt
      obtain ⟨x0, y0⟩ := B0.six
      obtain ⟨xt, yt⟩ := Bt.three
      go_wp2_with fail
      clear x0 y0 xt yt
      refine (familyOf_any _ _ x it _ (H0.out.kept Kwb2) (HIT.out.kept KBt) hi1).mono ?_
      rintro e w1 ⟨rfl, k1⟩
      replace B0 := B0.kept k1
      replace Bt := Bt.kept k1
      have sz1 := k1.size
      have K1 := Kwb2.trans k1
      have hfb := famV_bd hx it
      obtain ⟨hf1, hf2⟩ := hfb
      have htl : ((fams x its).take k).length ≤ 14 := by rw [List.length_take, fams_len]; omega
      have ho := own_kept (own_kept HO.out KBt) k1
      generalize famV x it = fv at *
      by_cases hf : fv < 0
      · have hge : decide (fv ≥ 0) = false := by simp; omega
        have HS := Lib.hid (cns_skip 5 ((fams x its).take k) hf)
        have HOs := Lib.hid ho
        clear ho
        obtain ⟨x0, y0⟩ := B0.six
        obtain ⟨xt, yt⟩ := Bt.three
        go_wp2_with fail
        clear x0 y0 xt yt
        go_roundw
        case rel => exact ⟨k + 1, by omega, by go_num, by rw [HFS.out, HS.out]; exact HOs.out, (hkept.trans KBt).trans k1⟩
        case measure => simp [intOf]; omega
      · have h0 : 0 ≤ fv := by omega
        have HS := Lib.hid (cns_snoc (m := 5) ((fams x its).take k) h0 (by omega))
        have hcg := cns_get (m := 5) ((fams x its).take k) h0 (by omega)
        obtain ⟨cb1, cb2⟩ := cn_bd ((fams x its).take k) fv
        have hcell : w1.cell? ⟨w.heap.size + 1, fv.toNat, none⟩ = some (.int .i64 (cn ((fams x its).take k) fv)) := by
          rw [← swb1, ho.cellAt fv.toNat (by omega), List.getElem?_map, hcg]
          rfl
        have hfr : w1.frozen? ⟨w.heap.size + 1, fv.toNat, none⟩ = false := by rw [← swb1]; exact ho.frozenAt fv.toNat
        have HST : Hid ((w1.setCell ⟨w.heap.size + 1, fv.toNat, none⟩ (.int .i64 (cn ((fams x its).take k) fv + 1))).ownsRow wb1.heap.size 3 1 (.slice (some ⟨wb1.heap.size, 0, none⟩) 5 5) 5 _) := Lib.hid (by rw [← swb1]; exact (ho.stored fv.toNat (.int .i64 (cn ((fams x its).take k) fv + 1))).1)
        have h5 : fv < 5 := by omega
        clear hcg ho
        generalize hcd : cn ((fams x its).take k) fv = cd at *
        clear hcd
        obtain ⟨x0, y0⟩ := B0.six
        obtain ⟨xt, yt⟩ := Bt.three
        go_wp2_with fail
        clear x0 y0 xt yt
        go_roundw
        case rel =>
          refine ⟨k + 1, by omega, by go_num, ?_, Kept.setCell ((hkept.trans KBt).trans k1) (by dsimp only; omega) _⟩
          have := HST.out
          rw [HFS.out, HS.out, List.map_set]
          exact this
        case measure => simp [intOf]; omega
    · obtain rfl : k = its.length := by omega
      have HOE : Hid (OwnI wr wb1.heap.size (.slice (some ⟨wb1.heap.size, 0, none⟩) 5 5) (countsV x its)) := Lib.hid (by have := HO.out; rw [List.take_of_length_le (by rw [fams_len]; exact Nat.le_refl _)] at this; exact this)
      obtain ⟨x0, y0⟩ := B0.six
      go_wp2_with fail
      clear x0 y0
      go_ret
      exact ⟨_, by rw [swb1]; rfl, HOE.out.base Kwb1.size, Kr⟩
end Go.Proofs.YtkekpolfdmmgeaaGreat

/- Programmes: the rules, lists and counts. -/
namespace Go.Proofs.YtkekpolfdmmgeaaGreat
set_option linter.unusedVariables false
set_option linter.unusedSimpArgs false
open Go.RowKit

theorem half_snoc (its : List ItemD) (k : Nat) : (List.range (k + 1)).all (lateB its) = ((List.range k).all (lateB its) && lateB its k) := by rw [List.range_succ, List.all_append]; simp
theorem lateB_at {its : List ItemD} {k : Nat} {it : ItemD} (h : its[k]? = some it) : lateB its k = (it.late == decide (its.length ≤ 2 * k)) := by unfold lateB; rw [h]
theorem half_no {its : List ItemD} {k : Nat} (hk : k < its.length) (h : lateB its k = false) : halfB its = false := by
  unfold halfB
  rw [List.all_eq_false]
  exact ⟨k, List.mem_range.2 hk, by simp [h]⟩
theorem fit_len (x : CodeD) (its : List ItemD) (h : x.limits.length = 5) : ((countsV x its).zip x.limits).length = 5 := by rw [List.length_zip, countsV_len, h]; rfl
theorem fit_get {x : CodeD} {its : List ItemD} {k : Nat} {n l : Int} (h1 : (countsV x its)[k]? = some n) (h2 : x.limits[k]? = some l) : ((countsV x its).zip x.limits)[k]? = some (n, l) := by
  rw [List.getElem?_zip_eq_some]; exact ⟨h1, h2⟩
theorem isLateAt_is2 (k n : Nat) (b : Bool) (w : World) (hb : decide (n ≤ 2 * k) = b) (hk : k ≤ 1000) (hn : n ≤ 1000) :
    Calls Tryz.prog 70 #[.int .i64 (k : Int), .int .i64 (n : Int)] w fun e w' => e = .returned (.bool b) ∧ w = w' := by
  subst hb
  go_enter Tryz.func70, Tryz.ntmps70
  go_wp2_with fail
  go_ret
  exact ⟨ret_bool (by rw [Bool.eq_iff_iff]; simp; omega), rfl⟩
set_option maxHeartbeats 2000000 in
theorem pgCombined_any (v0 : Value) (its : List ItemD) (w : World) (h0 : ItemsAt w v0 its) (hb : itemsB its = true) :
    Calls Tryz.prog 91 #[v0] w fun e w' => e = .returned (.tuple #[.int .i64 (twoN its), .int .i64 (threeN its)]) ∧ Kept w w' := by
  have H0 := Lib.hid h0
  obtain ⟨A0, c0, cs0, rfl, hnc0, hcm0, hA0⟩ := h0.out; have HA0 := Lib.hid hA0; clear hA0 h0; unfold maxLen at hcm0
  have HBB := Lib.hid hb
  have hl14 := (itemsB_true hb).1
  go_enter Tryz.func91, Tryz.ntmps91
  have K0 := Kept.refl w
  go_wp2_with fail
  go_loopw [4, 5, 10] (fun t q i wr => ∃ k : Nat, k ≤ its.length ∧ i = .int .i64 k ∧ t = .int .i64 (((its.take k).filter combB).length : Nat) ∧ q = .int .i64 (((its.take k).filter (fun (it : ItemD) => decide (2 < it.names.length))).length : Nat) ∧ Kept w wr) (fun _ _ i _ => its.length - (intOf i).toNat)
  case atStart => exact ⟨0, Nat.zero_le _, rfl, rfl, rfl, Kept.refl _⟩
  case round =>
    obtain ⟨k, hk, rfl, rfl, rfl, hkept⟩ := hrel
    have szr := hkept.size
    have Kr := K0.trans hkept
    have f1 := filter_le14 HBB.out combB k
    have f2 := filter_le14 HBB.out (fun (it : ItemD) => decide (2 < it.names.length)) k
    by_cases hlt : k < its.length
    · obtain ⟨b, o, Aa, ca, Ab, cb, it, rfl, hbb, h2, h3, hit, q0, q1, q2⟩ := items_at (HA0.out.kept Kr) hlt
      obtain ⟨hi1, hi3, him⟩ := items_some HBB.out h2
      have HIT := Lib.hid hit
      have S1 := Lib.hid (filter_snoc combB h2)
      have S2 := Lib.hid (filter_snoc (fun (it : ItemD) => decide (2 < it.names.length)) h2)
      clear h2 h3 hit him
      generalize ((its.take k).filter combB).length = tk at *
      generalize ((its.take k).filter (fun (it : ItemD) => decide (2 < it.names.length))).length = qk at *
      rcases (show it.names.length = 1 ∨ it.names.length = 2 ∨ it.names.length = 3 by omega) with hn | hn | hn
      · have C1 : Hid (combB it = false) := Lib.hid (by unfold combB; rw [hn]; rfl)
        have C2 : Hid (decide (2 < it.names.length) = false) := Lib.hid (by rw [hn]; rfl)
        have e1 : decide ((it.names.length : Int) > 1) = false := by simp; omega
        have e2 : decide ((it.names.length : Int) > 2) = false := by simp; omega
        have e3 : ((it.names.length : Int) == 3) = false := by first | (simp; omega) | exact beq_eq_false_iff_ne.2 (by omega)
        clear hn
        go_wp2_with fail
        go_roundw
        case rel => exact ⟨k + 1, by omega, by go_num, by rw [S1.out, C1.out]; first | rfl | go_num | simp, by rw [S2.out, C2.out]; first | rfl | go_num | simp, hkept.alloc _⟩
        case measure => simp [intOf]; omega
      · have C1 : Hid (combB it = true) := Lib.hid (by unfold combB; rw [hn]; rfl)
        have C2 : Hid (decide (2 < it.names.length) = false) := Lib.hid (by rw [hn]; rfl)
        have e1 : decide ((it.names.length : Int) > 1) = true := by simp; omega
        have e2 : decide ((it.names.length : Int) > 2) = false := by simp; omega
        have e3 : ((it.names.length : Int) == 3) = false := by first | (simp; omega) | exact beq_eq_false_iff_ne.2 (by omega)
        clear hn
        go_wp2_with fail
        go_roundw
        case rel => exact ⟨k + 1, by omega, by go_num, by rw [S1.out, C1.out]; first | rfl | go_num | simp, by rw [S2.out, C2.out]; first | rfl | go_num | simp, hkept.alloc _⟩
        case measure => simp [intOf]; omega
      · have C1 : Hid (combB it = true) := Lib.hid (by unfold combB; rw [hn]; rfl)
        have C2 : Hid (decide (2 < it.names.length) = true) := Lib.hid (by rw [hn]; rfl)
        have e1 : decide ((it.names.length : Int) > 1) = true := by simp; omega
        have e2 : decide ((it.names.length : Int) > 2) = true := by simp; omega
        have e3 : ((it.names.length : Int) == 3) = true := by first | (simp; omega) | exact beq_eq_false_iff_ne.2 (by omega)
        clear hn
        go_wp2_with fail
        go_roundw
        case rel => exact ⟨k + 1, by omega, by go_num, by rw [S1.out, C1.out]; first | rfl | go_num | simp, by rw [S2.out, C2.out]; first | rfl | go_num | simp, hkept.alloc _⟩
        case measure => simp [intOf]; omega
    · obtain rfl : k = its.length := by omega
      have E1 : Hid (((its.take its.length).filter combB).length = twoN its) := Lib.hid (by rw [List.take_length]; rfl)
      have E2 : Hid (((its.take its.length).filter (fun (it : ItemD) => decide (2 < it.names.length))).length = threeN its) := Lib.hid (by rw [List.take_length]; rfl)
      rw [E1.out, E2.out]
      rw [E1.out] at f1
      rw [E2.out] at f2
      go_wp2_with fail
      go_ret2
      exact ⟨rfl, Kr⟩
set_option maxHeartbeats 2000000 in
theorem combinesFew_any (v0 : Value) (its : List ItemD) (w : World) (h0 : ItemsAt w v0 its) (hb : itemsB its = true) :
    Calls Tryz.prog 85 #[v0] w fun e w' => e = .returned (.bool (fewB its)) ∧ Kept w w' := by
  have H0 := Lib.hid h0
  obtain ⟨A0, c0, cs0, rfl, hnc0, hcm0, hA0⟩ := h0.out; have HA0 := Lib.hid hA0; clear hA0 h0; unfold maxLen at hcm0
  have HBB := Lib.hid hb
  have hl14 := (itemsB_true hb).1
  go_enter Tryz.func85, Tryz.ntmps85
  have K0 := Kept.refl w
  go_wp2_with fail
  go_loopw [3, 4, 9] (fun t q i wr => ∃ k : Nat, k ≤ its.length ∧ i = .int .i64 k ∧ t = .int .i64 (((its.take k).filter combB).length : Nat) ∧ q = .int .i64 (((its.take k).filter (fun (it : ItemD) => decide (2 < it.names.length))).length : Nat) ∧ Kept w wr) (fun _ _ i _ => its.length - (intOf i).toNat)
  case atStart => exact ⟨0, Nat.zero_le _, rfl, rfl, rfl, Kept.refl _⟩
  case round =>
    obtain ⟨k, hk, rfl, rfl, rfl, hkept⟩ := hrel
    have szr := hkept.size
    have Kr := K0.trans hkept
    have f1 := filter_le14 HBB.out combB k
    have f2 := filter_le14 HBB.out (fun (it : ItemD) => decide (2 < it.names.length)) k
    by_cases hlt : k < its.length
    · obtain ⟨b, o, Aa, ca, Ab, cb, it, rfl, hbb, h2, h3, hit, q0, q1, q2⟩ := items_at (HA0.out.kept Kr) hlt
      obtain ⟨hi1, hi3, him⟩ := items_some HBB.out h2
      have HIT := Lib.hid hit
      have S1 := Lib.hid (filter_snoc combB h2)
      have S2 := Lib.hid (filter_snoc (fun (it : ItemD) => decide (2 < it.names.length)) h2)
      clear h2 h3 hit him
      generalize ((its.take k).filter combB).length = tk at *
      generalize ((its.take k).filter (fun (it : ItemD) => decide (2 < it.names.length))).length = qk at *
      go_upto_region 5 with (fail)
      obtain ⟨wb1, hwb1⟩ : ∃ w' : World, w' = wr.alloc (.cells #[.slice Aa it.names.length ca, .slice Ab it.marks.length cb, .bool it.late] 30) := ⟨_, rfl⟩
      rw [← hwb1]
      have KBt : Kept wr wb1 := hwb1 ▸ (Kept.refl wr).alloc _
      have Bt : Box wb1 (wr.heap.size) 30 #[.slice Aa it.names.length ca, .slice Ab it.marks.length cb, .bool it.late] := hwb1 ▸ Box.new wr (wr.heap.size) 30 #[.slice Aa it.names.length ca, .slice Ab it.marks.length cb, .bool it.late] rfl
      have swb1 : wb1.heap.size = wr.heap.size + 1 := by rw [hwb1]; simp
      clear hwb1
      have Kwb1 := Kr.trans KBt
      obtain ⟨xt, yt⟩ := Bt.three
      go_wp2_with fail
      clear xt yt
      refine (isCombined_any _ it _ (HIT.out.kept KBt)).mono ?_
      rintro e w1 ⟨rfl, k1⟩
      replace Bt := Bt.kept k1
      have sz1 := k1.size
      have K1 := Kwb1.trans k1
      rcases (show it.names.length = 1 ∨ it.names.length = 2 ∨ it.names.length = 3 by omega) with hn | hn | hn
      · have C1 : Hid (combB it = false) := Lib.hid (by unfold combB; rw [hn]; rfl)
        have C2 : Hid (decide (2 < it.names.length) = false) := Lib.hid (by rw [hn]; rfl)
        rw [show decide (1 < it.names.length) = false from C1.out]
        have e1 : decide ((it.names.length : Int) > 1) = false := by simp; omega
        have e2 : decide ((it.names.length : Int) > 2) = false := by simp; omega
        have e3 : ((it.names.length : Int) == 3) = false := by first | (simp; omega) | exact beq_eq_false_iff_ne.2 (by omega)
        clear hn
        obtain ⟨xt, yt⟩ := Bt.three
        go_wp2_with fail
        clear xt yt
        go_roundw
        case rel => exact ⟨k + 1, by omega, by go_num, by rw [S1.out, C1.out]; first | rfl | go_num | simp, by rw [S2.out, C2.out]; first | rfl | go_num | simp, hkept.trans (KBt.trans k1)⟩
        case measure => simp [intOf]; omega
      · have C1 : Hid (combB it = true) := Lib.hid (by unfold combB; rw [hn]; rfl)
        have C2 : Hid (decide (2 < it.names.length) = false) := Lib.hid (by rw [hn]; rfl)
        rw [show decide (1 < it.names.length) = true from C1.out]
        have e1 : decide ((it.names.length : Int) > 1) = true := by simp; omega
        have e2 : decide ((it.names.length : Int) > 2) = false := by simp; omega
        have e3 : ((it.names.length : Int) == 3) = false := by first | (simp; omega) | exact beq_eq_false_iff_ne.2 (by omega)
        clear hn
        obtain ⟨xt, yt⟩ := Bt.three
        go_wp2_with fail
        clear xt yt
        go_roundw
        case rel => exact ⟨k + 1, by omega, by go_num, by rw [S1.out, C1.out]; first | rfl | go_num | simp, by rw [S2.out, C2.out]; first | rfl | go_num | simp, hkept.trans (KBt.trans k1)⟩
        case measure => simp [intOf]; omega
      · have C1 : Hid (combB it = true) := Lib.hid (by unfold combB; rw [hn]; rfl)
        have C2 : Hid (decide (2 < it.names.length) = true) := Lib.hid (by rw [hn]; rfl)
        rw [show decide (1 < it.names.length) = true from C1.out]
        have e1 : decide ((it.names.length : Int) > 1) = true := by simp; omega
        have e2 : decide ((it.names.length : Int) > 2) = true := by simp; omega
        have e3 : ((it.names.length : Int) == 3) = true := by first | (simp; omega) | exact beq_eq_false_iff_ne.2 (by omega)
        clear hn
        obtain ⟨xt, yt⟩ := Bt.three
        go_wp2_with fail
        clear xt yt
        go_roundw
        case rel => exact ⟨k + 1, by omega, by go_num, by rw [S1.out, C1.out]; first | rfl | go_num | simp, by rw [S2.out, C2.out]; first | rfl | go_num | simp, hkept.trans (KBt.trans k1)⟩
        case measure => simp [intOf]; omega
    · obtain rfl : k = its.length := by omega
      have E1 : Hid (((its.take its.length).filter combB).length = twoN its) := Lib.hid (by rw [List.take_length]; rfl)
      have E2 : Hid (((its.take its.length).filter (fun (it : ItemD) => decide (2 < it.names.length))).length = threeN its) := Lib.hid (by rw [List.take_length]; rfl)
      rw [E1.out, E2.out]
      rw [E1.out] at f1
      rw [E2.out] at f2
      have HF : Hid (fewB its = (decide (twoN its ≤ 3) && decide (threeN its ≤ 1))) := Lib.hid rfl
      generalize twoN its = tn at *
      generalize threeN its = hn at *
      clear E1 E2
      by_cases c1 : tn ≤ 3 <;> by_cases c2 : hn ≤ 1
      · have HV : Hid (fewB its = true) := Lib.hid (by rw [HF.out]; simp [c1, c2])
        have e1 : decide ((tn : Int) ≤ 3) = true := by simp; omega
        have e2 : decide ((hn : Int) ≤ 1) = true := by simp; omega
        go_wp2_with fail
        go_ret
        exact ⟨ret_bool HV.out.symm, Kr⟩
      · have HV : Hid (fewB its = false) := Lib.hid (by rw [HF.out]; simp [c1, c2])
        have e1 : decide ((tn : Int) ≤ 3) = true := by simp; omega
        have e2 : decide ((hn : Int) ≤ 1) = false := by simp; omega
        go_wp2_with fail
        go_ret
        exact ⟨ret_bool HV.out.symm, Kr⟩
      · have HV : Hid (fewB its = false) := Lib.hid (by rw [HF.out]; simp [c1, c2])
        have e1 : decide ((tn : Int) ≤ 3) = false := by simp; omega
        have e2 : decide ((hn : Int) ≤ 1) = true := by simp; omega
        go_wp2_with fail
        go_ret
        exact ⟨ret_bool HV.out.symm, Kr⟩
      · have HV : Hid (fewB its = false) := Lib.hid (by rw [HF.out]; simp [c1, c2])
        have e1 : decide ((tn : Int) ≤ 3) = false := by simp; omega
        have e2 : decide ((hn : Int) ≤ 1) = false := by simp; omega
        go_wp2_with fail
        go_ret
        exact ⟨ret_bool HV.out.symm, Kr⟩
set_option maxHeartbeats 2000000 in
theorem pgClean_any (v0 : Value) (its : List ItemD) (w : World) (h0 : ItemsAt w v0 its)  :
    Calls Tryz.prog 90 #[v0] w fun e w' => e = .returned (.bool (cleanB its)) ∧ Kept w w' := by
  have H0 := Lib.hid h0
  obtain ⟨A0, c0, cs0, rfl, hnc0, hcm0, hA0⟩ := h0.out; have HA0 := Lib.hid hA0; clear hA0 h0; unfold maxLen at hcm0
  go_enter Tryz.func90, Tryz.ntmps90
  have K0 := Kept.refl w
  go_wp2_with fail
  go_loopw [7] (fun  i wr => ∃ k : Nat, k ≤ its.length ∧ i = .int .i64 k ∧ (its.take k).all cleanI = true ∧ Kept w wr) (fun  i _ => its.length - (intOf i).toNat)
  case atStart => exact ⟨0, Nat.zero_le _, rfl, rfl, Kept.refl _⟩
  case round =>
    obtain ⟨k, hk, rfl, ha, hkept⟩ := hrel
    have HB := Lib.hid ha
    clear ha
    have szr := hkept.size
    have Kr := K0.trans hkept
    by_cases hlt : k < its.length
    · obtain ⟨b, o, Aa, ca, Ab, cb, it, rfl, hbb, h2, h3, hit, q0, q1, q2⟩ := items_at (HA0.out.kept Kr) hlt
      have HM := Lib.hid hit.parts.2
      have HZ := Lib.hid h2
      clear h2 h3 hit
      go_upto_region 4 with (fail)
      obtain ⟨wb1, hwb1⟩ : ∃ w' : World, w' = wr.alloc (.cells #[.slice Aa it.names.length ca, .slice Ab it.marks.length cb, .bool it.late] 30) := ⟨_, rfl⟩
      rw [← hwb1]
      have KBt : Kept wr wb1 := hwb1 ▸ (Kept.refl wr).alloc _
      have Bt : Box wb1 (wr.heap.size) 30 #[.slice Aa it.names.length ca, .slice Ab it.marks.length cb, .bool it.late] := hwb1 ▸ Box.new wr (wr.heap.size) 30 #[.slice Aa it.names.length ca, .slice Ab it.marks.length cb, .bool it.late] rfl
      have swb1 : wb1.heap.size = wr.heap.size + 1 := by rw [hwb1]; simp
      clear hwb1
      have Kwb1 := Kr.trans KBt
      obtain ⟨xt, yt⟩ := Bt.three
      go_wp2_with fail
      clear xt yt
      refine (l1All_any _ it.marks _ _ _ (HM.out.kept KBt)).mono ?_
      rintro e w' ⟨rfl, rfl⟩
      by_cases hq : it.marks.all (inB · 0 0) = true
      · rw [hq]
        have HF : Hid (cleanI it = true) := Lib.hid hq
        clear hq
        obtain ⟨xt, yt⟩ := Bt.three
        go_wp2_with fail
        clear xt yt
        go_roundw
        case rel => exact ⟨k + 1, by omega, by go_num, all_snoc HZ.out HB.out HF.out, hkept.trans KBt⟩
        case measure => simp [intOf]; omega
      · simp only [Bool.not_eq_true] at hq
        rw [hq]
        have HF : Hid (cleanI it = false) := Lib.hid hq
        clear hq
        obtain ⟨xt, yt⟩ := Bt.three
        go_wp2_with fail
        clear xt yt
        go_ret
        exact ⟨ret_bool (all_not (p := cleanI) HZ.out HF.out).symm, Kwb1⟩
    · have HI := Lib.hid (all_full (p := cleanI) (by omega) HB.out)
      go_wp2_with fail
      go_ret
      exact ⟨ret_bool HI.out.symm, Kr⟩
set_option maxHeartbeats 2000000 in
theorem pgHalf_any (v0 : Value) (its : List ItemD) (w : World) (h0 : ItemsAt w v0 its) (hb : itemsB its = true) :
    Calls Tryz.prog 93 #[v0] w fun e w' => e = .returned (.bool (halfB its)) ∧ Kept w w' := by
  have H0 := Lib.hid h0
  obtain ⟨A0, c0, cs0, rfl, hnc0, hcm0, hA0⟩ := h0.out; have HA0 := Lib.hid hA0; clear hA0 h0; unfold maxLen at hcm0
  have HBB := Lib.hid hb
  have hl14 := (itemsB_true hb).1
  go_enter Tryz.func93, Tryz.ntmps93
  have K0 := Kept.refl w
  go_wp2_with fail
  go_loopw [7] (fun  i wr => ∃ k : Nat, k ≤ its.length ∧ i = .int .i64 k ∧ (List.range k).all (lateB its) = true ∧ Kept w wr) (fun  i _ => its.length - (intOf i).toNat)
  case atStart => exact ⟨0, Nat.zero_le _, rfl, rfl, Kept.refl _⟩
  case round =>
    obtain ⟨k, hk, rfl, ha, hkept⟩ := hrel
    have HB8 := Lib.hid ha
    clear ha
    have szr := hkept.size
    have Kr := K0.trans hkept
    by_cases hlt : k < its.length
    · obtain ⟨b, o, Aa, ca, Ab, cb, it, rfl, hbb, h2, h3, hit, q0, q1, q2⟩ := items_at (HA0.out.kept Kr) hlt
      have HLT := Lib.hid (lateB_at h2)
      clear h2 h3 hit
      go_upto_region 4 with (fail)
      obtain ⟨wb1, hwb1⟩ : ∃ w' : World, w' = wr.alloc (.cells #[.slice Aa it.names.length ca, .slice Ab it.marks.length cb, .bool it.late] 30) := ⟨_, rfl⟩
      rw [← hwb1]
      have KBt : Kept wr wb1 := hwb1 ▸ (Kept.refl wr).alloc _
      have Bt : Box wb1 (wr.heap.size) 30 #[.slice Aa it.names.length ca, .slice Ab it.marks.length cb, .bool it.late] := hwb1 ▸ Box.new wr (wr.heap.size) 30 #[.slice Aa it.names.length ca, .slice Ab it.marks.length cb, .bool it.late] rfl
      have swb1 : wb1.heap.size = wr.heap.size + 1 := by rw [hwb1]; simp
      clear hwb1
      have Kwb1 := Kr.trans KBt
      clear q0 q1 q2
      by_cases hq : its.length ≤ 2 * k <;> cases hL : it.late
      · have HV : Hid (lateB its k = false) := Lib.hid (by rw [HLT.out, hL, decide_eq_true hq]; rfl)
        rw [hL] at Bt
        have hd0 : decide (its.length ≤ 2 * k) = true := decide_eq_true hq
        have hd2 : decide (2 * (k : Int) ≥ (its.length : Int)) = true := by simp; omega
        have HD := Lib.hid hd0
        clear hd0 hq hL
        have HN := Lib.hid (half_no hlt HV.out)
        obtain ⟨xt, yt⟩ := Bt.three
        go_wp2_with fail
        clear xt yt
        go_ret
        exact ⟨ret_bool HN.out.symm, Kwb1⟩
      · have HV : Hid (lateB its k = true) := Lib.hid (by rw [HLT.out, hL, decide_eq_true hq]; rfl)
        rw [hL] at Bt
        have hd0 : decide (its.length ≤ 2 * k) = true := decide_eq_true hq
        have hd2 : decide (2 * (k : Int) ≥ (its.length : Int)) = true := by simp; omega
        have HD := Lib.hid hd0
        clear hd0 hq hL
        obtain ⟨xt, yt⟩ := Bt.three
        go_wp2_with fail
        clear xt yt
        go_roundw
        case rel => exact ⟨k + 1, by omega, by go_num, by rw [half_snoc, HB8.out, HV.out]; rfl, hkept.trans KBt⟩
        case measure => simp [intOf]; omega
      · have HV : Hid (lateB its k = true) := Lib.hid (by rw [HLT.out, hL, decide_eq_false hq]; rfl)
        rw [hL] at Bt
        have hd0 : decide (its.length ≤ 2 * k) = false := decide_eq_false hq
        have hd2 : decide (2 * (k : Int) ≥ (its.length : Int)) = false := by simp; omega
        have HD := Lib.hid hd0
        clear hd0 hq hL
        obtain ⟨xt, yt⟩ := Bt.three
        go_wp2_with fail
        clear xt yt
        go_roundw
        case rel => exact ⟨k + 1, by omega, by go_num, by rw [half_snoc, HB8.out, HV.out]; rfl, hkept.trans KBt⟩
        case measure => simp [intOf]; omega
      · have HV : Hid (lateB its k = false) := Lib.hid (by rw [HLT.out, hL, decide_eq_false hq]; rfl)
        rw [hL] at Bt
        have hd0 : decide (its.length ≤ 2 * k) = false := decide_eq_false hq
        have hd2 : decide (2 * (k : Int) ≥ (its.length : Int)) = false := by simp; omega
        have HD := Lib.hid hd0
        clear hd0 hq hL
        have HN := Lib.hid (half_no hlt HV.out)
        obtain ⟨xt, yt⟩ := Bt.three
        go_wp2_with fail
        clear xt yt
        go_ret
        exact ⟨ret_bool HN.out.symm, Kwb1⟩
    · obtain rfl : k = its.length := by omega
      go_wp2_with fail
      go_ret
      exact ⟨ret_bool (show halfB its = true from HB8.out).symm, Kr⟩
set_option maxHeartbeats 2000000 in
theorem fitsLimits_any (v0 v1 : Value) (x : CodeD) (its : List ItemD) (w : World) (h0 : CodeAt w v0 x) (h1 : ItemsAt w v1 its) (hx : codeB x = true) (hb : itemsB its = true) :
    Calls Tryz.prog 86 #[v0, v1] w fun e w' => e = .returned (.bool (fitB x its)) ∧ Kept w w' := by
  have H0 := Lib.hid h0
  obtain ⟨n0, m0, rfl, p0, q0⟩ := h0
  have HE0 := Lib.hid p0; have HI0 := Lib.hid q0
  obtain ⟨A0, c0, rfl, hnc0, hcm0, _⟩ := p0.1.out; obtain ⟨D0, d0, rfl, hnd0, hdm0, _⟩ := q0.out; clear p0 q0; unfold maxLen at hcm0 hdm0
  have H1 := Lib.hid h1
  obtain ⟨A1, c1, cs1, rfl, hnc1, hcm1, hA1⟩ := h1.out; have HA1 := Lib.hid hA1; clear hA1 h1; unfold maxLen at hcm1
  have HBB := Lib.hid hb
  have hl14 := (itemsB_true hb).1
  have HX := Lib.hid hx
  go_enter Tryz.func86, Tryz.ntmps86
  have K0 := Kept.refl w
  go_wp2_with fail
  obtain ⟨wb1, hwb1⟩ : ∃ w' : World, w' = w.alloc (.cells #[.slice A0 x.elems.length c0, .slice D0 x.limits.length d0, .int .i64 x.repeats, .int .i64 x.bonus, .int .i64 x.keeps, .int .i64 x.fall] 26) := ⟨_, rfl⟩
  rw [← hwb1]
  have KB0 : Kept w wb1 := hwb1 ▸ (Kept.refl w).alloc _
  have B0 : Box wb1 (w.heap.size) 26 #[.slice A0 x.elems.length c0, .slice D0 x.limits.length d0, .int .i64 x.repeats, .int .i64 x.bonus, .int .i64 x.keeps, .int .i64 x.fall] := hwb1 ▸ Box.new w (w.heap.size) 26 #[.slice A0 x.elems.length c0, .slice D0 x.limits.length d0, .int .i64 x.repeats, .int .i64 x.bonus, .int .i64 x.keeps, .int .i64 x.fall] rfl
  have swb1 : wb1.heap.size = w.heap.size + 1 := by rw [hwb1]; simp
  clear hwb1
  have Kwb1 := K0.trans KB0
  refine (familyCounts_any _ _ x its _ (H0.out.kept Kwb1) (H1.out.kept Kwb1) HX.out HBB.out).mono ?_
  rintro e w1 ⟨v1, rfl, o1, k1⟩
  replace B0 := B0.kept k1
  have sz1 := k1.size
  have K1 := Kwb1.trans k1
  have hl5 : x.limits.length = 5 := (codeB_heads HX.out).2
  have HL5 := Lib.hid hl5
  have HCL := Lib.hid (countsV_len x its)
  have HFL := Lib.hid (fit_len x its hl5)
  clear hl5
  have HCO := Lib.hid (show Seq w1 v1 5 ((countsV x its).map (Value.int .i64)) from HCL.out ▸ Seq.of_own o1)
  clear o1
  obtain ⟨Ag, cg, rfl, hcg1, hcg2, _⟩ := HCO.out.out
  unfold maxLen at hcg2
  obtain ⟨x0, y0⟩ := B0.six
  go_wp2_with fail
  clear x0 y0
  go_loopw [11] (fun  i wr => ∃ k : Nat, k ≤ 5 ∧ i = .int .i64 k ∧ (((countsV x its).zip x.limits).take k).all (fun p => decide (p.1 ≤ p.2)) = true ∧ Kept w1 wr) (fun  i _ => 5 - (intOf i).toNat)
  case atStart => exact ⟨0, Nat.zero_le _, rfl, rfl, Kept.refl _⟩
  case round =>
    obtain ⟨k, hk, rfl, ha, hkept⟩ := hrel
    have HB6 := Lib.hid ha
    clear ha
    replace B0 := B0.kept hkept
    have szr := hkept.size
    have Kr := K1.trans hkept
    by_cases hlt : k < 5
    · obtain ⟨b, o, l, rfl, hb', hl, hcl⟩ := ints_at (HI0.out.kept Kr).addr (k := k) (by rw [HL5.out]; exact hlt)
      obtain ⟨n, hn⟩ : ∃ n, (countsV x its)[k]? = some n := ⟨_, List.getElem?_eq_getElem (by rw [HCL.out]; exact hlt)⟩
      obtain ⟨bg, og, rfl, hbg, hcn⟩ := ((HCO.out.kept hkept).addr).at_ (j := k) (u := .int .i64 n) (by omega) (by rw [List.getElem?_map, hn]; rfl)
      have HZ := Lib.hid (fit_get hn hl)
      have hjl : (k : Int) < (x.limits.length : Int) := by rw [HL5.out]; omega
      clear hn hl
      by_cases hq : n ≤ l
      · have e1 : decide (n > l) = false := by simp; omega
        have HF : Hid (decide (n ≤ l) = true) := Lib.hid (decide_eq_true hq)
        clear hq
        obtain ⟨x0, y0⟩ := B0.six
        go_wp2_with fail
        clear x0 y0
        go_roundw
        case rel => exact ⟨k + 1, by omega, by go_num, all_snoc HZ.out HB6.out HF.out, hkept⟩
        case measure => simp [intOf]; omega
      · have e1 : decide (n > l) = true := by simp; omega
        have HF : Hid (decide (n ≤ l) = false) := Lib.hid (decide_eq_false hq)
        clear hq
        have HN : Hid (fitB x its = false) := Lib.hid (all_not (p := fun (p : Int × Int) => decide (p.1 ≤ p.2)) HZ.out HF.out)
        obtain ⟨x0, y0⟩ := B0.six
        go_wp2_with fail
        clear x0 y0
        go_ret
        exact ⟨ret_bool HN.out.symm, Kr⟩
    · have HY : Hid (fitB x its = true) := Lib.hid (all_full (p := fun (p : Int × Int) => decide (p.1 ≤ p.2)) (by rw [HFL.out]; omega) HB6.out)
      obtain ⟨x0, y0⟩ := B0.six
      go_wp2_with fail
      clear x0 y0
      go_ret
      exact ⟨ret_bool HY.out.symm, Kr⟩
end Go.Proofs.YtkekpolfdmmgeaaGreat
