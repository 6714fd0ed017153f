/- Contracts of functions that the proof leans on. No condition. -/
import Derived.Test.YtkekpolfdmmgeaaGreatM1d4f9a63d4
/- Programmes: an item dropped. -/
namespace Go.Proofs.YtkekpolfdmmgeaaGreat
set_option linter.unusedVariables false
set_option linter.unusedSimpArgs false
open Go.RowKit

theorem RowP.nil0 (w : World) {base : Nat} (g : Nat) (hb : base ≤ g) (h : Box w g 30 #[]) : RowP w base (.slice (some ⟨g, 0, none⟩) 0 0) [] := own_made g _ 3 hb h
theorem run_append_locT {P : Program} (w : World) (base : Nat) (t ty e : TypeId) (i : TypeInfo) (z : Value) (size bytes : Nat) (ht : P.underlying t = some (.slice e)) (hi : P.info? e = some i) (hz : i.zero = some z)
    (hsize : i.size = size) (hby : i.bytes = bytes) (hzs : z.cells.size = size) (hsz : 0 < size)
    (v : Value) (n : Nat) (xs : List Value) (hown : w.ownsRow base e size v n xs)
    (u : Value) (m : Nat) (news : List Value) (hr : Seq w u m news) (hl : news.length = m * size) (h1 : ∀ y ∈ news, y.oneCell' = true)
    (h63 : n + m ≤ maxLen) (hbytes : (n + m) * bytes ≤ 140737488355328) (hbase : base ≤ w.heap.size) :
    ∃ v' w', (Builtin.append_ #[t, t] ty #[v, u]).run P w = .ok v' w' ∧ w'.ownsRow base e size v' (n + m) (xs ++ news) ∧ w.grownBy w' v.ownBlock ∧ (v'.ownBlock = v.ownBlock ∨ v'.ownBlock = some w.heap.size) := by
  obtain ⟨A, c, rfl, hnc, hcm, hA, hc⟩ := hr
  rcases A with _ | ad
  · obtain rfl := hA rfl
    obtain rfl : m = 0 := by omega
    obtain rfl : news = [] := List.eq_nil_of_length_eq_zero (by simpa using hl)
    exact ⟨v, w, run_append_of_nil w base t ty e i size ht hi v n xs hown 0, by simpa using hown, World.grownBy.refl w _, .inl rfl⟩
  · have hcells : ∀ j y, news[j]? = some y → w.cell? (ad.add j) = some y := by
      intro j y hy
      have hm : 0 < m := by
        rcases Nat.eq_zero_or_pos m with h0 | h0
        · subst h0
          have : news = [] := List.eq_nil_of_length_eq_zero (by simpa using hl)
          subst this
          simp at hy
        · exact h0
      obtain ⟨b, o', e1, hb, hcell⟩ := hc hm
      injection e1 with e1
      subst e1
      have := hcell j y hy
      rwa [show (⟨b, o', none⟩ : Addr).add j = ⟨b, o' + j, none⟩ from by unfold Addr.add; split <;> simp_all]
    obtain ⟨v', w', hrun, h2, h3, _, h5⟩ := run_append_own_at (P := P) w base t ty e i z size bytes ht hi hz hsize hby hzs hsz v n xs hown ad m c news hl hcells h1 h63 hbytes hbase
    exact ⟨v', w', hrun, h2, h3, h5⟩
set_option maxRecDepth 100000 in
/-- append(row, items...), W the world that 'a0' has become; what a0 held is kept -/
theorem step_append_P (a0 w : World) {ops : Array Oper} {o : Oper} {a : Act} {K : Act → World → Prop} {Q : Exit → Act → World → Prop} {E : Prop} (hgd : o.guard = none) (s x : Operand)
    (ho : o.op = .call { callee := .builtin .append, args := #[s, x], argTypes := #[27, 27] })
    (v : Value) (ps : List Pr) (hs : a.eval s = v) (hown : RowP w a0.heap.size v ps) (hk : Kept a0 w) (u : Value) (qs : List Pr) (hx : a.eval x = u) (hr : SrcP w u qs) (hg : GoodP w qs)
    (hl : ps.length + qs.length ≤ 1000000)
    (h : ∀ v' w', RowP w' a0.heap.size v' (ps ++ qs) → Kept a0 w' → Only (fp v) w w' → K (a.put o.dst v') w') :
    if Region.wanted o (yielded ops a.tmps) = true then Oper.wp Tryz.prog o a w K Q else E := by
  have hw : Region.wanted o (yielded ops a.tmps) = true := by simp [Region.wanted, hgd]
  rw [if_pos hw]
  obtain ⟨i0, hi, hz0, hz1, hz2⟩ := info_parts info_item
  obtain ⟨v', w', hrun, h2, h3, h4⟩ := run_append_locT (P := Tryz.prog) w a0.heap.size 27 o.type 30 i0 _ 3 56 Tryz.underlying27 hi hz0 hz1 hz2 rfl (by omega) v ps.length _ hown u qs.length (qs.flatMap row3) hr (flat_length row3 3 (fun _ => rfl) qs) hg.one (by unfold maxLen; omega) (by omega) hk.size
  have hon := only_of_grown h3
  unfold Oper.wp execOp
  simp only [ho, resolve, invoke, builtin, Sem.run_bind, Sem.run_pure, Result.andThen_ok, List.map_toArray, List.map_cons, List.map_nil, hs, hx, hrun]
  refine h v' w' ?_ (hon.above hk (fun b hb => (own_fp hown b hb).1)) hon
  unfold RowP
  rw [List.length_append, List.flatMap_append]
  exact h2
def withoutV {α : Type} (l : List α) (k : Nat) : List α := l.take k ++ l.drop (k + 1)
def ifB (x : CodeD) (its : List ItemD) : Bool := goodB x (lated its)
def drB (x : CodeD) (its : List ItemD) (a : Int) : Bool := goodB x its && (inB a 0 ((its.length : Int) - 1) && ifB x (withoutV its a.toNat))
def drV (x : CodeD) (its : List ItemD) (a : Int) : List ItemD := onT (drB x its a) (lated (withoutV its a.toNat))
theorem itsP_without (ps : List Pr) (k : Nat) : itsP (withoutV ps k) = withoutV (itsP ps) k := by simp [itsP, withoutV]
theorem itsP_len (ps : List Pr) : (itsP ps).length = ps.length := by simp [itsP]
theorem goodB_parts {x : CodeD} {its : List ItemD} (h : goodB x its = true) : codeB x = true ∧ itemsB its = true := by
  unfold goodB at h
  rw [Bool.and_eq_true] at h
  exact kwOk_true h.1
theorem without_all {p : ItemD → Bool} {its : List ItemD} (h : its.all p = true) (k : Nat) : (withoutV its k).all p = true := by
  unfold withoutV
  rw [List.all_append, Bool.and_eq_true]
  exact ⟨List.all_eq_true.2 (fun x hx => List.all_eq_true.1 h x (List.mem_of_mem_take hx)), List.all_eq_true.2 (fun x hx => List.all_eq_true.1 h x (List.mem_of_mem_drop hx))⟩
theorem without_len {α : Type} (l : List α) (k : Nat) : (withoutV l k).length ≤ l.length := by
  unfold withoutV
  rw [List.length_append, List.length_take, List.length_drop]
  omega
theorem GoodP.without {w : World} {ps : List Pr} (h : GoodP w ps) (k : Nat) : GoodP w (withoutV ps k) := (h.take k).append (h.drop (k + 1))
theorem draw_alloc (w : World) (ob : Obj) : Kept w.drew (w.alloc ob).drew := ⟨rfl, rfl, rfl, by simp, fun b hb => (((Kept.refl w).alloc ob).block b hb)⟩
set_option maxHeartbeats 2000000 in
theorem pgIf_any (v0 v1 : Value) (x : CodeD) (its : List ItemD) (w : World) (h0 : CodeAt w v0 x) (h1 : ItemsAt w v1 its) (hv : its.all itemB = true) (hl : its.length ≤ 1000) :
    Calls Tryz.prog 33 #[v0, v1] w fun e w' => ∃ v' S, e = .returned (.tuple #[v', .bool (ifB x its)]) ∧ OwnL w' w.heap.size v' (onT (ifB x its) (lated its)) S ∧ Kept w w' := by
  have H0 := Lib.hid h0
  obtain ⟨n0, m0, rfl, p0, q0⟩ := h0
  have HE0 := Lib.hid p0; have HI0 := Lib.hid q0
  obtain ⟨A0, c0, rfl, hnc0, hcm0, _⟩ := p0.1.out; obtain ⟨D0, d0, rfl, hnd0, hdm0, _⟩ := q0.out; clear p0 q0; unfold maxLen at hcm0 hdm0
  have H1 := Lib.hid h1
  obtain ⟨A1, c1, cs1, rfl, hnc1, hcm1, hA1⟩ := h1.out; have HA1 := Lib.hid hA1; clear hA1 h1; unfold maxLen at hcm1
  have HV := Lib.hid hv
  clear hv
  go_enter Tryz.func33, Tryz.ntmps33
  have K0 := Kept.refl w
  go_wp2_with fail
  obtain ⟨wb1, hwb1⟩ : ∃ w' : World, w' = w.alloc (.cells #[.slice A0 x.elems.length c0, .slice D0 x.limits.length d0, .int .i64 x.repeats, .int .i64 x.bonus, .int .i64 x.keeps, .int .i64 x.fall] 26) := ⟨_, rfl⟩
  rw [← hwb1]
  have KB0 : Kept w wb1 := hwb1 ▸ (Kept.refl w).alloc _
  have B0 : Box wb1 (w.heap.size) 26 #[.slice A0 x.elems.length c0, .slice D0 x.limits.length d0, .int .i64 x.repeats, .int .i64 x.bonus, .int .i64 x.keeps, .int .i64 x.fall] := hwb1 ▸ Box.new w (w.heap.size) 26 #[.slice A0 x.elems.length c0, .slice D0 x.limits.length d0, .int .i64 x.repeats, .int .i64 x.bonus, .int .i64 x.keeps, .int .i64 x.fall] rfl
  have swb1 : wb1.heap.size = w.heap.size + 1 := by rw [hwb1]; simp
  clear hwb1
  have Kwb1 := K0.trans KB0
  refine (pgLate_any _ its _ (H1.out.kept Kwb1) HV.out hl).mono ?_
  rintro e w1 ⟨v1, cs, rfl, o1, k1⟩
  replace B0 := B0.kept k1
  have sz1 := k1.size
  have K1 := Kwb1.trans k1
  have O := Lib.hid o1
  clear o1
  obtain ⟨x0, y0⟩ := B0.six
  go_wp2_with fail
  clear x0 y0
  refine (pgGood_any _ _ x (lated its) _ (H0.out.kept K1) O.out.items).mono ?_
  rintro e w2 ⟨rfl, k2⟩
  replace B0 := B0.kept k2
  replace O := Lib.hid (O.out.kept k2)
  have sz2 := k2.size
  have K2 := K1.trans k2
  by_cases hq : goodB x (lated its) = true
  case neg =>
    simp only [Bool.not_eq_true] at hq
    have HO : Hid (ifB x its = false) := Lib.hid hq
    rw [hq]
    clear hq
    obtain ⟨x0, y0⟩ := B0.six
    go_wp2_with fail
    clear x0 y0
    go_ret2
    exact ⟨_, _, ret_vb3 HO.out.symm, by rw [HO.out]; exact nilL _ _, K2⟩
  have HO : Hid (ifB x its = true) := Lib.hid hq
  rw [hq]
  clear hq
  obtain ⟨x0, y0⟩ := B0.six
  go_wp2_with fail
  clear x0 y0
  go_ret2
  exact ⟨_, _, ret_vb3 HO.out.symm, by rw [HO.out]; exact (O.out.base Kwb1.size).toL, K2⟩
set_option maxHeartbeats 2000000 in
theorem asProgramme_any (v0 v1 : Value) (x : CodeD) (its : List ItemD) (w : World) (h0 : CodeAt w v0 x) (h1 : ItemsAt w v1 its) (hv : its.all itemB = true) (hl : its.length ≤ 1000) :
    Calls Tryz.prog 28 #[v0, v1] w fun e w' => ∃ v' S, e = .returned (.tuple #[v', .bool (ifB x its)]) ∧ OwnL w' w.heap.size v' (onT (ifB x its) (lated its)) S ∧ Kept w w' := by
  have H0 := Lib.hid h0
  obtain ⟨n0, m0, rfl, p0, q0⟩ := h0
  have HE0 := Lib.hid p0; have HI0 := Lib.hid q0
  obtain ⟨A0, c0, rfl, hnc0, hcm0, _⟩ := p0.1.out; obtain ⟨D0, d0, rfl, hnd0, hdm0, _⟩ := q0.out; clear p0 q0; unfold maxLen at hcm0 hdm0
  have H1 := Lib.hid h1
  obtain ⟨A1, c1, cs1, rfl, hnc1, hcm1, hA1⟩ := h1.out; have HA1 := Lib.hid hA1; clear hA1 h1; unfold maxLen at hcm1
  have HV := Lib.hid hv
  clear hv
  go_enter Tryz.func28, Tryz.ntmps28
  have K0 := Kept.refl w
  go_wp2_with fail
  obtain ⟨wb1, hwb1⟩ : ∃ w' : World, w' = w.alloc (.cells #[.slice A0 x.elems.length c0, .slice D0 x.limits.length d0, .int .i64 x.repeats, .int .i64 x.bonus, .int .i64 x.keeps, .int .i64 x.fall] 26) := ⟨_, rfl⟩
  rw [← hwb1]
  have KB0 : Kept w wb1 := hwb1 ▸ (Kept.refl w).alloc _
  have B0 : Box wb1 (w.heap.size) 26 #[.slice A0 x.elems.length c0, .slice D0 x.limits.length d0, .int .i64 x.repeats, .int .i64 x.bonus, .int .i64 x.keeps, .int .i64 x.fall] := hwb1 ▸ Box.new w (w.heap.size) 26 #[.slice A0 x.elems.length c0, .slice D0 x.limits.length d0, .int .i64 x.repeats, .int .i64 x.bonus, .int .i64 x.keeps, .int .i64 x.fall] rfl
  have swb1 : wb1.heap.size = w.heap.size + 1 := by rw [hwb1]; simp
  clear hwb1
  have Kwb1 := K0.trans KB0
  refine (markLate_any _ its _ (H1.out.kept Kwb1) HV.out hl).mono ?_
  rintro e w1 ⟨v1, cs, rfl, o1, k1⟩
  replace B0 := B0.kept k1
  have sz1 := k1.size
  have K1 := Kwb1.trans k1
  have O := Lib.hid o1
  clear o1
  obtain ⟨x0, y0⟩ := B0.six
  go_wp2_with fail
  clear x0 y0
  refine (isProgramme_any _ _ x (lated its) _ (H0.out.kept K1) O.out.items).mono ?_
  rintro e w2 ⟨rfl, k2⟩
  replace B0 := B0.kept k2
  replace O := Lib.hid (O.out.kept k2)
  have sz2 := k2.size
  have K2 := K1.trans k2
  by_cases hq : goodB x (lated its) = true
  case neg =>
    simp only [Bool.not_eq_true] at hq
    have HO : Hid (ifB x its = false) := Lib.hid hq
    rw [hq]
    clear hq
    obtain ⟨x0, y0⟩ := B0.six
    go_wp2_with fail
    clear x0 y0
    go_ret2
    exact ⟨_, _, ret_vb3 HO.out.symm, by rw [HO.out]; exact nilL _ _, K2⟩
  have HO : Hid (ifB x its = true) := Lib.hid hq
  rw [hq]
  clear hq
  obtain ⟨x0, y0⟩ := B0.six
  go_wp2_with fail
  clear x0 y0
  go_ret2
  exact ⟨_, _, ret_vb3 HO.out.symm, by rw [HO.out]; exact (O.out.base Kwb1.size).toL, K2⟩
set_option maxRecDepth 100000 in
set_option maxHeartbeats 4000000 in
theorem pgWithout_any (v : Value) (ps : List Pr) (k : Nat) (w : World) (h : SrcP w v ps) (hg : GoodP w ps) (hk : k < ps.length) (hl : ps.length ≤ 1000) :
    Calls Tryz.prog 36 #[v, .int .i64 (k : Int)] w fun e w' => ∃ v', e = .returned v' ∧ RowP w' w.heap.size v' (withoutV ps k) ∧ Kept w w' := by
  have H := Lib.hid h
  have HG := Lib.hid hg
  obtain ⟨A, c, rfl, hnc, hcm, hA⟩ := h.out
  obtain ⟨b, o, rfl, hb, _⟩ := hA (by omega)
  have HTO := Lib.hid (srcP_to H.out rfl (i := k) (by omega))
  have h1 : (k : Int) ≤ (c : Int) := by omega
  have h2 : (0 : Int) ≤ (k : Int) + 1 := by omega
  have h3 : (k : Int) + 1 ≤ (ps.length : Int) := by omega
  have h4 : ((k : Int) + 1).toNat = k + 1 := by omega
  have h5 : (ps.length : Int) ≤ (c : Int) := by omega
  have h6 : k ≤ c := by omega
  have h7 : k + 1 ≤ c := by omega
  have h8 : k + 1 ≤ ps.length := by omega
  have hw1 : IntKind.i64.wrap ((k : Int) + 1) = (k : Int) + 1 := IntWalk.i64_in _ (by omega)
  have hlt : (ps.take k).length + (ps.drop (k + 1)).length ≤ 1000000 := by rw [List.length_take, List.length_drop]; omega
  have HLT := Lib.hid hlt
  have htl : (ps.take k).length ≤ 1000 := by rw [List.length_take]; omega
  clear h hg hA hlt
  unfold maxLen at hcm
  by_cases hcap : c = k + 1
  · subst hcap
    have HFR : Hid (SrcP w (.slice (some ⟨b, o, none⟩) 0 0) (ps.drop (k + 1))) := Lib.hid (srcP_none (by omega))
    have h9 : ps.length = k + 1 := by omega
    have H9 := Lib.hid h9
    clear h9
    have b1 : (k : Int) ≤ (k : Int) + 1 := by omega
    have b2 : ¬ ((k : Int) + 1 < (k : Int)) := by omega
    have b3 : (0 : Int) ≤ (k : Int) := by omega
    go_enter Tryz.func36, Tryz.ntmps36
    go_wp2_with fail
    go_region_held3 (fun _ => True) (trivial) (first | (refine step_append_P w _ rfl (.tmp 5) (.tmp 8) rfl _ [] rfl (RowP.nil0 _ _ (Nat.le_refl _) (Box.new w _ _ _ rfl)) ((Kept.refl w).alloc _).drew _ (ps.take k) rfl (HTO.out.kept ((Kept.refl w).alloc _).drew) ((HG.out.take k).kept ((Kept.refl w).alloc _).drew) (by simp; omega) ?_; intro v1 w1 o1 k1 on1) | (refine step_append_P w _ rfl (.tmp 9) (.tmp 13) rfl _ (ps.take k) rfl o1 k1 _ (ps.drop (k + 1)) (by first | rfl | (simp [Act.eval, Act.put, H9.out])) (HFR.out.kept k1) ((HG.out.drop (k + 1)).kept k1) HLT.out ?_; intro v2 w2 o2 k2 on2))
    all_goals
      go_wp2_with fail
      go_ret
      exact ⟨_, rfl, o2, k2⟩
  · have HFR := Lib.hid (srcP_from H.out rfl (k := k + 1) (by omega))
    have hc2 : ¬ c = k + 1 := hcap
    have hc3 : (c == k + 1) = false := beq_eq_false_iff_ne.2 hcap
    go_enter Tryz.func36, Tryz.ntmps36
    go_wp2_with fail
    go_region_held3 (fun _ => True) (trivial) (first | (refine step_append_P w _ rfl (.tmp 5) (.tmp 8) rfl _ [] rfl (RowP.nil0 _ _ (Nat.le_refl _) (Box.new w _ _ _ rfl)) ((Kept.refl w).alloc _).drew _ (ps.take k) rfl (HTO.out.kept ((Kept.refl w).alloc _).drew) ((HG.out.take k).kept ((Kept.refl w).alloc _).drew) (by simp; omega) ?_; intro v1 w1 o1 k1 on1) | (refine step_append_P w _ rfl (.tmp 9) (.tmp 13) rfl _ (ps.take k) rfl o1 k1 _ (ps.drop (k + 1)) rfl (HFR.out.kept k1) ((HG.out.drop (k + 1)).kept k1) HLT.out ?_; intro v2 w2 o2 k2 on2))
    all_goals
      go_wp2_with fail
      go_ret
      exact ⟨_, rfl, o2, k2⟩
set_option maxRecDepth 100000 in
set_option maxHeartbeats 4000000 in
theorem specDropItem_any (v0 v1 : Value) (x : CodeD) (its : List ItemD) (a : Int) (w : World) (h0 : CodeAt w v0 x) (h1 : ItemsAt w v1 its)  :
    Calls Tryz.prog 12 #[v0, v1, .int .i64 a] w fun e w' => ∃ v' S, e = .returned (.tuple #[v', .bool (drB x its a)]) ∧ OwnL w' w.heap.size v' (drV x its a) S ∧ Kept w w' := by
  have H0 := Lib.hid h0
  obtain ⟨n0, m0, rfl, p0, q0⟩ := h0
  have HE0 := Lib.hid p0; have HI0 := Lib.hid q0
  obtain ⟨A0, c0, rfl, hnc0, hcm0, _⟩ := p0.1.out; obtain ⟨D0, d0, rfl, hnd0, hdm0, _⟩ := q0.out; clear p0 q0; unfold maxLen at hcm0 hdm0
  have H1 := Lib.hid h1
  obtain ⟨A1, c1, cs1, rfl, hnc1, hcm1, hA1⟩ := h1.out; have HA1 := Lib.hid hA1; clear hA1 h1; unfold maxLen at hcm1
  go_enter Tryz.func12, Tryz.ntmps12
  have K0 := Kept.refl w
  go_wp2_with fail
  obtain ⟨wb1, hwb1⟩ : ∃ w' : World, w' = w.alloc (.cells #[.slice A0 x.elems.length c0, .slice D0 x.limits.length d0, .int .i64 x.repeats, .int .i64 x.bonus, .int .i64 x.keeps, .int .i64 x.fall] 26) := ⟨_, rfl⟩
  rw [← hwb1]
  have KB0 : Kept w wb1 := hwb1 ▸ (Kept.refl w).alloc _
  have B0 : Box wb1 (w.heap.size) 26 #[.slice A0 x.elems.length c0, .slice D0 x.limits.length d0, .int .i64 x.repeats, .int .i64 x.bonus, .int .i64 x.keeps, .int .i64 x.fall] := hwb1 ▸ Box.new w (w.heap.size) 26 #[.slice A0 x.elems.length c0, .slice D0 x.limits.length d0, .int .i64 x.repeats, .int .i64 x.bonus, .int .i64 x.keeps, .int .i64 x.fall] rfl
  have swb1 : wb1.heap.size = w.heap.size + 1 := by rw [hwb1]; simp
  clear hwb1
  have Kwb1 := K0.trans KB0
  refine (pgGood_any _ _ x its _ (H0.out.kept Kwb1) (H1.out.kept Kwb1)).mono ?_
  rintro e w1 ⟨rfl, k1⟩
  replace B0 := B0.kept k1
  have sz1 := k1.size
  have K1 := Kwb1.trans k1
  by_cases hq : goodB x its = true
  case neg =>
    simp only [Bool.not_eq_true] at hq
    rw [hq]
    have HO : Hid (drB x its a = false) := Lib.hid (by unfold drB; rw [hq]; rfl)
    clear hq
    obtain ⟨x0, y0⟩ := B0.six
    go_wp2_with fail
    clear x0 y0
    go_ret2
    exact ⟨_, _, ret_vb3 HO.out.symm, by unfold drV; rw [HO.out]; exact nilL _ _, K1⟩
  rw [hq]
  obtain ⟨hc, hi⟩ := goodB_parts hq
  have HQ := Lib.hid hq
  have hl14 := (itemsB_true hi).1
  have HAL := Lib.hid (all_of hi)
  clear hq hc hi
  obtain ⟨x0, y0⟩ := B0.six
  go_wp2_with fail
  clear x0 y0
  refine (l1In_any _ _ _ _).mono ?_
  rintro e w' ⟨rfl, rfl⟩
  by_cases hr : inB a 0 ((its.length : Int) - 1) = true
  case neg =>
    simp only [Bool.not_eq_true] at hr
    rw [hr]
    have HO : Hid (drB x its a = false) := Lib.hid (by unfold drB; rw [HQ.out, hr]; rfl)
    clear hr
    obtain ⟨x0, y0⟩ := B0.six
    go_wp2_with fail
    clear x0 y0
    go_ret2
    exact ⟨_, _, ret_vb3 HO.out.symm, by unfold drV; rw [HO.out]; exact nilL _ _, K1⟩
  rw [hr]
  obtain ⟨ha0, ha1⟩ := inB_true hr
  obtain ⟨k, rfl⟩ := Int.eq_ofNat_of_zero_le ha0
  have hk : k < its.length := by omega
  have HDR : Hid (drB x its (k : Int) = ifB x (withoutV its k)) := Lib.hid (by unfold drB; rw [HQ.out, hr, Int.toNat_natCast]; rfl)
  clear hr ha0 ha1
  obtain ⟨x0, y0⟩ := B0.six
  go_wp2_with fail
  clear x0 y0
  have Kd1_ : Kept w1 w1.drew := (Kept.refl _).drew
  replace B0 := B0.kept Kd1_
  have Kd1 := K1.trans Kd1_
  obtain ⟨ps, hps, hsrc, hgood⟩ := pairs_of (H1.out.kept Kd1)
  have hpl : ps.length = its.length := by rw [← hps, itsP_len]
  have HSRC := Lib.hid hsrc
  have HGOOD := Lib.hid hgood
  have HPS := Lib.hid hps
  have HPL := Lib.hid hpl
  have hk2 : k < ps.length := by omega
  have hl2 : ps.length ≤ 1000 := by omega
  clear hsrc hgood hps hpl
  have HWI : Hid (itsP (withoutV ps k) = withoutV its k) := Lib.hid (by rw [itsP_without, HPS.out])
  have HWA := Lib.hid (without_all (p := itemB) HAL.out k)
  have hwl := without_len its k
  obtain ⟨X, hX⟩ : ∃ X, withoutV its k = X := ⟨_, rfl⟩
  rw [hX] at HDR HWI HWA hwl
  have HXX := Lib.hid hX
  clear hX
  go_region_held3 (fun w' => (w'.cell? ⟨w.heap.size, 0, none⟩ = some (.slice A0 x.elems.length c0) ∧ w'.cell? ⟨w.heap.size, 1, none⟩ = some (.slice D0 x.limits.length d0) ∧ w'.cell? ⟨w.heap.size, 2, none⟩ = some (.int .i64 x.repeats) ∧ w'.cell? ⟨w.heap.size, 3, none⟩ = some (.int .i64 x.bonus) ∧ w'.cell? ⟨w.heap.size, 4, none⟩ = some (.int .i64 x.keeps) ∧ w'.cell? ⟨w.heap.size, 5, none⟩ = some (.int .i64 x.fall))) (first | exact B0.six.1 | exact (B0.kept (by assumption)).six.1) (first | (go_at_call 36; refine (pgWithout_any _ ps k _ HSRC.out HGOOD.out hk2 hl2).mono ?_; rintro e w8 ⟨v8, rfl, o8, k8⟩; have r8 := HWI.out ▸ items_of o8.src ((HGOOD.out.without k).kept k8); have R8 := Lib.hid r8; clear r8) | (go_at_call 33; refine (pgIf_any _ _ x X _ (H0.out.kept (Kd1.trans k8)) R8.out HWA.out (by omega)).mono ?_; rintro e w9 ⟨v9, S9, rfl, o9, k9⟩; have kk9 := k8.trans k9))
  rename_i hheld
  clear hheld
  go_wp2_with fail
  go_ret2
  refine ⟨_, S9, ret_vb3 HDR.out.symm, ?_, Kd1.trans kk9⟩
  have e9 : drV x its (k : Int) = onT (ifB x X) (lated X) := by unfold drV; rw [HDR.out, Int.toNat_natCast, HXX.out]
  rw [e9]
  exact o9.base (by have := Kd1.size; have := k8.size; omega)
set_option maxRecDepth 100000 in
set_option maxHeartbeats 4000000 in
theorem implDropItem_any (v0 v1 : Value) (x : CodeD) (its : List ItemD) (a : Int) (w : World) (h0 : CodeAt w v0 x) (h1 : ItemsAt w v1 its)  :
    Calls Tryz.prog 11 #[v0, v1, .int .i64 a] w fun e w' => ∃ v' S, e = .returned (.tuple #[v', .bool (drB x its a)]) ∧ OwnL w' w.heap.size v' (drV x its a) S ∧ Kept w w' := by
  have H0 := Lib.hid h0
  obtain ⟨n0, m0, rfl, p0, q0⟩ := h0
  have HE0 := Lib.hid p0; have HI0 := Lib.hid q0
  obtain ⟨A0, c0, rfl, hnc0, hcm0, _⟩ := p0.1.out; obtain ⟨D0, d0, rfl, hnd0, hdm0, _⟩ := q0.out; clear p0 q0; unfold maxLen at hcm0 hdm0
  have H1 := Lib.hid h1
  obtain ⟨A1, c1, cs1, rfl, hnc1, hcm1, hA1⟩ := h1.out; have HA1 := Lib.hid hA1; clear hA1 h1; unfold maxLen at hcm1
  go_enter Tryz.func11, Tryz.ntmps11
  have K0 := Kept.refl w
  go_wp2_with fail
  obtain ⟨wb1, hwb1⟩ : ∃ w' : World, w' = w.alloc (.cells #[.slice A0 x.elems.length c0, .slice D0 x.limits.length d0, .int .i64 x.repeats, .int .i64 x.bonus, .int .i64 x.keeps, .int .i64 x.fall] 26) := ⟨_, rfl⟩
  rw [← hwb1]
  have KB0 : Kept w wb1 := hwb1 ▸ (Kept.refl w).alloc _
  have B0 : Box wb1 (w.heap.size) 26 #[.slice A0 x.elems.length c0, .slice D0 x.limits.length d0, .int .i64 x.repeats, .int .i64 x.bonus, .int .i64 x.keeps, .int .i64 x.fall] := hwb1 ▸ Box.new w (w.heap.size) 26 #[.slice A0 x.elems.length c0, .slice D0 x.limits.length d0, .int .i64 x.repeats, .int .i64 x.bonus, .int .i64 x.keeps, .int .i64 x.fall] rfl
  have swb1 : wb1.heap.size = w.heap.size + 1 := by rw [hwb1]; simp
  clear hwb1
  have Kwb1 := K0.trans KB0
  refine (isProgramme_any _ _ x its _ (H0.out.kept Kwb1) (H1.out.kept Kwb1)).mono ?_
  rintro e w1 ⟨rfl, k1⟩
  replace B0 := B0.kept k1
  have sz1 := k1.size
  have K1 := Kwb1.trans k1
  by_cases hq : goodB x its = true
  case neg =>
    simp only [Bool.not_eq_true] at hq
    rw [hq]
    have HO : Hid (drB x its a = false) := Lib.hid (by unfold drB; rw [hq]; rfl)
    clear hq
    obtain ⟨x0, y0⟩ := B0.six
    go_wp2_with fail
    clear x0 y0
    go_ret2
    exact ⟨_, _, ret_vb3 HO.out.symm, by unfold drV; rw [HO.out]; exact nilL _ _, K1⟩
  rw [hq]
  obtain ⟨hc, hi⟩ := goodB_parts hq
  have HQ := Lib.hid hq
  have hl14 := (itemsB_true hi).1
  have HAL := Lib.hid (all_of hi)
  clear hq hc hi
  obtain ⟨x0, y0⟩ := B0.six
  go_wp2_with fail
  clear x0 y0
  refine (within_any _ _ _ _).mono ?_
  rintro e w' ⟨rfl, rfl⟩
  by_cases hr : inB a 0 ((its.length : Int) - 1) = true
  case neg =>
    simp only [Bool.not_eq_true] at hr
    rw [hr]
    have HO : Hid (drB x its a = false) := Lib.hid (by unfold drB; rw [HQ.out, hr]; rfl)
    clear hr
    obtain ⟨x0, y0⟩ := B0.six
    go_wp2_with fail
    clear x0 y0
    go_ret2
    exact ⟨_, _, ret_vb3 HO.out.symm, by unfold drV; rw [HO.out]; exact nilL _ _, K1⟩
  rw [hr]
  obtain ⟨ha0, ha1⟩ := inB_true hr
  obtain ⟨k, rfl⟩ := Int.eq_ofNat_of_zero_le ha0
  have hk : k < its.length := by omega
  have HDR : Hid (drB x its (k : Int) = ifB x (withoutV its k)) := Lib.hid (by unfold drB; rw [HQ.out, hr, Int.toNat_natCast]; rfl)
  clear hr ha0 ha1
  obtain ⟨x0, y0⟩ := B0.six
  go_wp2_with fail
  clear x0 y0
  have B0w := B0
  obtain ⟨ps, hps, hsrc, hgood⟩ := pairs_of (H1.out.kept K1)
  have hpl : ps.length = its.length := by rw [← hps, itsP_len]
  have HSRC := Lib.hid hsrc
  have HGOOD := Lib.hid hgood
  have HPS := Lib.hid hps
  have HPL := Lib.hid hpl
  have hk2 : k < ps.length := by omega
  have hl2 : ps.length ≤ 1000 := by omega
  clear hsrc hgood hps hpl
  have HWI : Hid (itsP (withoutV ps k) = withoutV its k) := Lib.hid (by rw [itsP_without, HPS.out])
  have HWA := Lib.hid (without_all (p := itemB) HAL.out k)
  have hwl := without_len its k
  obtain ⟨X, hX⟩ : ∃ X, withoutV its k = X := ⟨_, rfl⟩
  rw [hX] at HDR HWI HWA hwl
  have HXX := Lib.hid hX
  clear hX
  have hw1 : IntKind.i64.wrap ((k : Int) + 1) = (k : Int) + 1 := IntWalk.i64_in _ (by omega)
  have bq : Box (w1.alloc (.cells #[] 30)).drew w1.heap.size 30 #[] := Box.new w1 _ _ _ rfl
  have kq0 : Kept w1 (w1.alloc (.cells #[] 30)).drew := ((Kept.refl _).alloc _).drew
  have kd0 : Kept w1 w1.drew := (Kept.refl _).drew
  have HLQ : Hid (ps.length = its.length) := HPL
  go_region_held3 (fun w' => (w'.cell? ⟨w.heap.size, 0, none⟩ = some (.slice A0 x.elems.length c0) ∧ w'.cell? ⟨w.heap.size, 1, none⟩ = some (.slice D0 x.limits.length d0) ∧ w'.cell? ⟨w.heap.size, 2, none⟩ = some (.int .i64 x.repeats) ∧ w'.cell? ⟨w.heap.size, 3, none⟩ = some (.int .i64 x.bonus) ∧ w'.cell? ⟨w.heap.size, 4, none⟩ = some (.int .i64 x.keeps) ∧ w'.cell? ⟨w.heap.size, 5, none⟩ = some (.int .i64 x.fall))) (first | (with_reducible exact (B0w.kept kd0).six.1) | (with_reducible exact (B0w.kept kq0).six.1) | (with_reducible exact (B0w.kept (by assumption)).six.1)) (first | (refine step_append_P w1 _ rfl (.tmp 21) (.tmp 22) rfl _ [] rfl (RowP.nil0 _ _ (Nat.le_refl _) bq) kq0 _ ps rfl (HSRC.out.kept kq0) (HGOOD.out.kept kq0) (by simp; omega) ?_; intro v7 w7 o7 k7 on7; have G7 := Lib.hid (HGOOD.out.kept k7); have O7 := Lib.hid o7) | (go_at_call 35; refine (delP_any _ ps k _ _ O7.out G7.out hk2).mono ?_; rintro e w8 ⟨v8, rfl, o8, on8⟩; have k8 := on8.above k7 (fun b hb => (own_fp O7.out b hb).1); have r8 := HWI.out ▸ items_of o8.src ((HGOOD.out.without k).kept k8); have R8 := Lib.hid r8; clear r8) | (go_at_call 28; refine (asProgramme_any _ _ x X _ (H0.out.kept (K1.trans k8)) R8.out HWA.out (by omega)).mono ?_; rintro e w9 ⟨v9, S9, rfl, o9, k9⟩; have kk9 := k8.trans k9))
  rename_i hheld
  clear hheld
  go_wp2_with fail
  go_ret2
  refine ⟨_, S9, ret_vb3 HDR.out.symm, ?_, K1.trans kk9⟩
  have e9 : drV x its (k : Int) = onT (ifB x X) (lated X) := by unfold drV; rw [HDR.out, Int.toNat_natCast, HXX.out]
  rw [e9]
  exact o9.base (by have := K1.size; have := k8.size; omega)
end Go.Proofs.YtkekpolfdmmgeaaGreat

/- Programmes: DropItem, the law. -/
namespace Go.Proofs.YtkekpolfdmmgeaaGreat
set_option linter.unusedVariables false
set_option linter.unusedSimpArgs false
open Go.RowKit

theorem lated_small {its : List ItemD} (h : its.all itemB = true) (hl : its.length ≤ 15) : itemsSize (lated its) ≤ 330 := by
  have h1 := items_size (lated_itemB h)
  rw [lated_length] at h1
  omega
theorem drV_size (x : CodeD) (its : List ItemD) (a : Int) : itemsSize (drV x its a) ≤ 330 := by
  refine onT_size (fun h => ?_)
  have hg : goodB x its = true := by
    unfold drB at h
    rw [Bool.and_eq_true] at h
    exact h.1
  have hi := (goodB_parts hg).2
  refine lated_small (without_all (all_of hi) _) ?_
  have h1 := without_len its a.toNat
  have h2 := (itemsB_true hi).1
  omega
end Go.Proofs.YtkekpolfdmmgeaaGreat

/- Programmes: InsertItem, MoveItem. -/
namespace Go.Proofs.YtkekpolfdmmgeaaGreat
set_option linter.unusedVariables false
set_option linter.unusedSimpArgs false
open Go.RowKit

def insertV {α : Type} (l : List α) (k : Nat) (y : α) : List α := l.take k ++ y :: l.drop k
theorem itsP_insert (ps : List Pr) (k : Nat) (y : Pr) : itsP (insertV ps k y) = insertV (itsP ps) k y.2 := by simp [itsP, insertV]
theorem insert_all {p : ItemD → Bool} {its : List ItemD} {it : ItemD} (h : its.all p = true) (hi : p it = true) (k : Nat) : (insertV its k it).all p = true := by
  unfold insertV
  rw [List.all_append, List.all_cons, hi, Bool.true_and, Bool.and_eq_true]
  exact ⟨List.all_eq_true.2 (fun x hx => List.all_eq_true.1 h x (List.mem_of_mem_take hx)), List.all_eq_true.2 (fun x hx => List.all_eq_true.1 h x (List.mem_of_mem_drop hx))⟩
theorem insert_len {α : Type} (l : List α) (k : Nat) (y : α) : (insertV l k y).length ≤ l.length + 1 := by
  unfold insertV
  rw [List.length_append, List.length_cons, List.length_take, List.length_drop]
  omega
theorem GoodP.insert {w : World} {ps : List Pr} {y : Pr} (h : GoodP w ps) (hy : Strs w y.1.1 y.2.names ∧ Ints w y.1.2 y.2.marks) (k : Nat) : GoodP w (insertV ps k y) := by
  intro p hp
  rcases List.mem_append.1 hp with hp | hp
  · exact h p (List.mem_of_mem_take hp)
  · rcases List.mem_cons.1 hp with rfl | hp
    · exact hy
    · exact h p (List.mem_of_mem_drop hp)
theorem srcP_one {w : World} {g : Nat} {y : Pr} (hB : Box w g 30 #[y.1.1, y.1.2, .bool y.2.late]) : SrcP w (.slice (some ⟨g, 0, none⟩) 1 1) [y] := by
  refine ⟨_, 1, rfl, Nat.le_refl _, by decide, (fun h => by cases h), fun _ => ⟨g, 0, rfl, hB.lt, fun j u hu => ?_⟩⟩
  rw [Nat.zero_add, hB.cell j, ← hu]
  have e : [y].flatMap row3 = [y.1.1, y.1.2, .bool y.2.late] := rfl
  rw [e]
  exact List.getElem?_toArray (xs := [y.1.1, y.1.2, Value.bool y.2.late]) (i := j)
theorem goodP_one {w : World} {y : Pr} (hy : Strs w y.1.1 y.2.names ∧ Ints w y.1.2 y.2.marks) : GoodP w [y] := fun p hp => by rw [List.mem_singleton] at hp; subst hp; exact hy
set_option maxRecDepth 100000 in
theorem step_append_P2 (a0 w : World) {ops : Array Oper} {o : Oper} {a : Act} {K : Act → World → Prop} {Q : Exit → Act → World → Prop} {E : Prop} (hgd : o.guard = none) (s x : Operand)
    (ho : o.op = .call { callee := .builtin .append, args := #[s, x], argTypes := #[27, 27] })
    (v : Value) (ps : List Pr) (hs : a.eval s = v) (hown : RowP w a0.heap.size v ps) (hk : Kept a0 w) (u : Value) (qs : List Pr) (hx : a.eval x = u) (hr : SrcP w u qs) (hg : GoodP w qs)
    (hl : ps.length + qs.length ≤ 1000000)
    (h : ∀ v' w', RowP w' a0.heap.size v' (ps ++ qs) → Kept a0 w' → Only (fp v) w w' → (∀ b ∈ fp v', b ∈ fp v ∨ b = w.heap.size) → K (a.put o.dst v') w') :
    if Region.wanted o (yielded ops a.tmps) = true then Oper.wp Tryz.prog o a w K Q else E := by
  have hw : Region.wanted o (yielded ops a.tmps) = true := by simp [Region.wanted, hgd]
  rw [if_pos hw]
  obtain ⟨i0, hi, hz0, hz1, hz2⟩ := info_parts info_item
  obtain ⟨v', w', hrun, h2, h3, h4⟩ := run_append_locT (P := Tryz.prog) w a0.heap.size 27 o.type 30 i0 _ 3 56 Tryz.underlying27 hi hz0 hz1 hz2 rfl (by omega) v ps.length _ hown u qs.length (qs.flatMap row3) hr (flat_length row3 3 (fun _ => rfl) qs) hg.one (by unfold maxLen; omega) (by omega) hk.size
  have hon := only_of_grown h3
  unfold Oper.wp execOp
  simp only [ho, resolve, invoke, builtin, Sem.run_bind, Sem.run_pure, Result.andThen_ok, List.map_toArray, List.map_cons, List.map_nil, hs, hx, hrun]
  refine h v' w' ?_ (hon.above hk (fun b hb => (own_fp hown b hb).1)) hon (fun b hb => ?_)
  · unfold RowP
    rw [List.length_append, List.flatMap_append]
    exact h2
  · have hb' : v'.ownBlock = some b := by simpa [fp] using hb
    rcases h4 with h4 | h4
    · left; rw [h4] at hb'; simpa [fp] using hb'
    · right; rw [h4] at hb'; injection hb' with hb'; exact hb'.symm
theorem RowP.some {w : World} {base : Nat} {v : Value} {ps : List Pr} (h : RowP w base v ps) (hv : v.ownBlock ≠ Option.none) : ∃ g c, v = .slice (Option.some ⟨g, 0, Option.none⟩) ps.length c := by
  rcases h.2 with ⟨rfl, _⟩ | ⟨g, cap, cur, rfl, _⟩
  · exact absurd rfl hv
  · exact ⟨g, cap, rfl⟩
set_option maxRecDepth 100000 in
theorem wpList_append_P (a0 w : World) {ops : Array Oper} {rest : List Oper} {o : Oper} {a : Act} {Q : Exit → Act → World → Prop} (hgd : o.guard = none) (s x : Operand)
    (ho : o.op = .call { callee := .builtin .append, args := #[s, x], argTypes := #[27, 27] })
    (v : Value) (ps : List Pr) (hs : a.eval s = v) (hown : RowP w a0.heap.size v ps) (hk : Kept a0 w) (u : Value) (qs : List Pr) (hx : a.eval x = u) (hr : SrcP w u qs) (hg : GoodP w qs)
    (hl : ps.length + qs.length ≤ 1000000)
    (h : ∀ v' w', RowP w' a0.heap.size v' (ps ++ qs) → Kept a0 w' → (v.ownBlock ≠ none → v'.ownBlock ≠ none) → wpList Tryz.prog ops Q rest (a.put o.dst v') w') : wpList Tryz.prog ops Q (o :: rest) a w := by
  refine wpList_plain hgd fun K hK => ?_
  obtain ⟨i0, hi, hz0, hz1, hz2⟩ := info_parts info_item
  obtain ⟨v', w', hrun, h2, h3, h4⟩ := run_append_locT (P := Tryz.prog) w a0.heap.size 27 o.type 30 i0 _ 3 56 Tryz.underlying27 hi hz0 hz1 hz2 rfl (by omega) v ps.length _ hown u qs.length (qs.flatMap row3) hr (flat_length row3 3 (fun _ => rfl) qs) hg.one (by unfold maxLen; omega) (by omega) hk.size
  have hon := only_of_grown h3
  unfold Oper.wp execOp
  simp only [ho, resolve, invoke, builtin, Sem.run_bind, Sem.run_pure, Result.andThen_ok, List.map_toArray, List.map_cons, List.map_nil, hs, hx, hrun]
  refine hK _ _ (h v' w' ?_ (hon.above hk (fun b hb => (own_fp hown b hb).1)) (fun hv => ?_))
  · unfold RowP
    rw [List.length_append, List.flatMap_append]
    exact h2
  · rcases h4 with h4 | h4
    · rw [h4]; exact hv
    · rw [h4]; simp
def inOk (x : CodeD) (its : List ItemD) (a : Int) (it : ItemD) : Bool := goodB x its && (itemB it && (inB a 0 (its.length : Int) && ifB x (insertV its a.toNat it)))
def inV (x : CodeD) (its : List ItemD) (a : Int) (it : ItemD) : List ItemD := onT (inOk x its a it) (lated (insertV its a.toNat it))
theorem goodB_some {x : CodeD} {its : List ItemD} (h : goodB x its = true) : 0 < its.length := by
  unfold goodB at h
  rw [Bool.and_eq_true] at h
  rcases Nat.eq_zero_or_pos its.length with h0 | h0
  · exfalso
    obtain rfl : its = [] := List.eq_nil_of_length_eq_zero h0
    have hm : (1 : Int) ∈ brokenV x [] 8 := List.mem_filter.2 ⟨List.mem_map.2 ⟨0, by simp, rfl⟩, rfl⟩
    have e := List.isEmpty_iff.1 h.2
    rw [e] at hm
    cases hm
  · exact h0
set_option maxRecDepth 100000 in
set_option maxHeartbeats 8000000 in
theorem pgInsert_form (b o c : Nat) (vi : Value) (ps : List Pr) (k : Nat) (it : ItemD) (w : World) (h : SrcP w (.slice (some ⟨b, o, none⟩) ps.length c) ps) (hg : GoodP w ps) (hi : ItemAt w vi it) (hk : k ≤ ps.length) (hl : ps.length ≤ 1000) :
    Calls Tryz.prog 34 #[.slice (some ⟨b, o, none⟩) ps.length c, .int .i64 (k : Int), vi] w fun e w' => ∃ v' y, e = .returned v' ∧ RowP w' w.heap.size v' (insertV ps k y) ∧ y.2 = it ∧ (Strs w y.1.1 y.2.names ∧ Ints w y.1.2 y.2.marks) ∧ Kept w w' := by
  obtain ⟨nv, mv, rfl, p1, p2⟩ := hi
  obtain ⟨Aq, cq, rfl, _⟩ := p1.1.out
  obtain ⟨Dq, dq, rfl, _⟩ := p2.out
  obtain ⟨y, hy⟩ : ∃ y : Pr, y = ((.slice Aq it.names.length cq, .slice Dq it.marks.length dq), it) := ⟨_, rfl⟩
  have HYG : Hid (Strs w y.1.1 y.2.names ∧ Ints w y.1.2 y.2.marks) := Lib.hid (by subst hy; exact ⟨p1, p2⟩)
  have HY2 : Hid (y.2 = it) := Lib.hid (by subst hy; rfl)
  have HYB : Hid (∀ (W : World) (g : Nat), Box W g 30 #[.slice Aq it.names.length cq, .slice Dq it.marks.length dq, .bool it.late] → SrcP W (.slice (some ⟨g, 0, none⟩) 1 1) [y]) := Lib.hid (fun W g hb => srcP_one (by subst hy; exact hb))
  clear hy p1 p2
  have H := Lib.hid h
  have HG := Lib.hid hg
  obtain ⟨A', c', e, hnc, hcm, _⟩ := h.out
  injection e with e1 e2 e3
  subst e3
  clear e1 e2
  have HTO := Lib.hid (srcP_to H.out rfl (i := k) (by omega))
  have h1 : (k : Int) ≤ (c : Int) := by omega
  have h3 : (k : Int) ≤ (ps.length : Int) := by omega
  have h5 : (ps.length : Int) ≤ (c : Int) := by omega
  have h6 : k ≤ c := by omega
  have hlt : (ps.take k ++ [y]).length + (ps.drop k).length ≤ 1000000 := by rw [List.length_append, List.length_take, List.length_drop]; simp; omega
  have HLT := Lib.hid hlt
  have htl : (ps.take k).length ≤ 1000 := by rw [List.length_take]; omega
  have HIN : Hid ((ps.take k ++ [y]) ++ ps.drop k = insertV ps k y) := Lib.hid (by simp [insertV])
  clear h hg hlt
  unfold maxLen at hcm
  obtain ⟨X3, hX3⟩ : ∃ u : Value, u = (if c = k then .slice (some ⟨b, o, none⟩) 0 0 else .slice (some ⟨b, o + k * 3, none⟩) (ps.length - k) (c - k)) := ⟨_, rfl⟩
  have HFR : Hid (SrcP w X3 (ps.drop k)) := Lib.hid (by
    rw [hX3]
    by_cases hc : c = k
    · rw [if_pos hc]; exact srcP_none (by omega)
    · rw [if_neg hc]; exact srcP_from H.out rfl hk)
  have HX3 := Lib.hid hX3
  clear hX3
  by_cases hcap : c = k
  · subst hcap
    have h9 : ps.length = c := by omega
    have H9 := Lib.hid h9
    clear h9
    go_enter Tryz.func34, Tryz.ntmps34
    go_wp2_with fail
    have B0 := Box.new w w.heap.size 30 #[.slice Aq it.names.length cq, .slice Dq it.marks.length dq, .bool it.late] rfl
    have K0 : Kept w (w.alloc (.cells #[.slice Aq it.names.length cq, .slice Dq it.marks.length dq, .bool it.late] 30)) := (Kept.refl w).alloc _
    generalize w.alloc (.cells #[.slice Aq it.names.length cq, .slice Dq it.marks.length dq, .bool it.late] 30) = W at *
    have bA : Box (W.alloc (.cells #[] 30)).drew W.heap.size 30 #[] := Box.new W _ _ _ rfl
    have bB : Box ((W.alloc (.cells #[] 30)).alloc (.cells #[.slice Aq it.names.length cq, .slice Dq it.marks.length dq, .bool it.late] 30)).drew W.heap.size 30 #[] := (Box.new W W.heap.size _ _ rfl).alloc _
    have bC : Box ((W.alloc (.cells #[.slice Aq it.names.length cq, .slice Dq it.marks.length dq, .bool it.late] 30)).alloc (.cells #[] 30)).drew (W.heap.size + 1) 30 #[] := Box.new (W.alloc (.cells #[.slice Aq it.names.length cq, .slice Dq it.marks.length dq, .bool it.late] 30)) _ _ _ (by simp)
    have vB : Box ((W.alloc (.cells #[] 30)).alloc (.cells #[.slice Aq it.names.length cq, .slice Dq it.marks.length dq, .bool it.late] 30)).drew (W.heap.size + 1) 30 #[.slice Aq it.names.length cq, .slice Dq it.marks.length dq, .bool it.late] := Box.new (W.alloc (.cells #[] 30)) _ _ _ (by simp)
    have vC : Box ((W.alloc (.cells #[.slice Aq it.names.length cq, .slice Dq it.marks.length dq, .bool it.late] 30)).alloc (.cells #[] 30)).drew W.heap.size 30 #[.slice Aq it.names.length cq, .slice Dq it.marks.length dq, .bool it.late] := (Box.new W W.heap.size _ _ rfl).alloc _
    have kA : Kept W (W.alloc (.cells #[] 30)).drew := ((Kept.refl W).alloc _).drew
    have kB : Kept W ((W.alloc (.cells #[] 30)).alloc (.cells #[.slice Aq it.names.length cq, .slice Dq it.marks.length dq, .bool it.late] 30)).drew := (((Kept.refl W).alloc _).alloc _).drew
    have kC : Kept W ((W.alloc (.cells #[.slice Aq it.names.length cq, .slice Dq it.marks.length dq, .bool it.late] 30)).alloc (.cells #[] 30)).drew := (((Kept.refl W).alloc _).alloc _).drew
    have kD : Kept W W.drew := (Kept.refl W).drew
    have kE : Kept W (W.alloc (.cells #[.slice Aq it.names.length cq, .slice Dq it.marks.length dq, .bool it.late] 30)).drew := ((Kept.refl W).alloc _).drew
    go_region_held3 (fun w' => w'.cell? ⟨w.heap.size, 0, none⟩ = some (.slice Aq it.names.length cq) ∧ w'.cell? ⟨w.heap.size, 1, none⟩ = some (.slice Dq it.marks.length dq) ∧ w'.cell? ⟨w.heap.size, 2, none⟩ = some (.bool it.late)) (first | (with_reducible exact (B0.kept kD).three.1) | (with_reducible exact (B0.kept kA).three.1) | (with_reducible exact (B0.kept kB).three.1) | (with_reducible exact (B0.kept kC).three.1) | (with_reducible exact (B0.kept kE).three.1) | (with_reducible exact (B0.kept (by assumption)).three.1) | (with_reducible exact (B0.kept (Kept.alloc (by assumption) _)).three.1)) (first | (refine step_append_P W _ rfl (.tmp 7) (.tmp 10) rfl (.slice (some ⟨W.heap.size, 0, none⟩) 0 0) [] rfl (RowP.nil0 _ _ (by first | exact Nat.le_refl _ | omega) bA) kA _ (ps.take c) rfl (HTO.out.kept (K0.trans kA)) ((HG.out.take c).kept (K0.trans kA)) (by simp; omega) ?_; intro v1 w1 o1 k1 on1; rw [List.nil_append] at o1) | (refine step_append_P W _ rfl (.tmp 7) (.tmp 10) rfl (.slice (some ⟨W.heap.size, 0, none⟩) 0 0) [] rfl (RowP.nil0 _ _ (by first | exact Nat.le_refl _ | omega) bB) kB _ (ps.take c) rfl (HTO.out.kept (K0.trans kB)) ((HG.out.take c).kept (K0.trans kB)) (by simp; omega) ?_; intro v1 w1 o1 k1 on1; rw [List.nil_append] at o1; have hv2 := HYB.out _ _ (vB.only on1 (by simp [fp_some]))) | (refine step_append_P W _ rfl (.tmp 7) (.tmp 10) rfl (.slice (some ⟨W.heap.size + 1, 0, none⟩) 0 0) [] rfl (RowP.nil0 _ _ (by first | exact Nat.le_refl _ | omega) bC) kC _ (ps.take c) rfl (HTO.out.kept (K0.trans kC)) ((HG.out.take c).kept (K0.trans kC)) (by simp; omega) ?_; intro v1 w1 o1 k1 on1; rw [List.nil_append] at o1; have hv2 := HYB.out _ _ (vC.only on1 (by simp [fp_some]))) | (refine step_append_P W _ rfl (.tmp 11) (.tmp 13) rfl _ (ps.take c) rfl o1 k1 _ [y] rfl hv2 (goodP_one ⟨HYG.out.1.kept (K0.trans k1), HYG.out.2.kept (K0.trans k1)⟩) (by simp; omega) ?_; intro v2 w2 o2 k2 on2) | (refine step_append_P W _ rfl (.tmp 11) (.tmp 13) rfl _ (ps.take c) rfl (o1.kept ((Kept.refl w1).alloc (.cells #[.slice Aq it.names.length cq, .slice Dq it.marks.length dq, .bool it.late] 30))) (k1.alloc (.cells #[.slice Aq it.names.length cq, .slice Dq it.marks.length dq, .bool it.late] 30)) _ [y] rfl (HYB.out _ _ (Box.new w1 _ _ _ rfl)) (goodP_one ⟨HYG.out.1.kept (K0.trans (k1.alloc (.cells #[.slice Aq it.names.length cq, .slice Dq it.marks.length dq, .bool it.late] 30))), HYG.out.2.kept (K0.trans (k1.alloc (.cells #[.slice Aq it.names.length cq, .slice Dq it.marks.length dq, .bool it.late] 30)))⟩) (by simp; omega) ?_; intro v2 w2 o2 k2 on2) | (refine step_append_P W _ rfl (.tmp 14) (.tmp 17) rfl _ (ps.take c ++ [y]) rfl o2 k2 _ (ps.drop c) (by first | (rw [HX3.out]; simp [Act.eval, Act.put, H9.out]) | rfl) (HFR.out.kept (K0.trans k2)) ((HG.out.drop c).kept (K0.trans k2)) HLT.out ?_; intro v3 w3 o3 k3 on3))
    all_goals
      go_wp2_with fail
      go_ret
      exact ⟨_, y, rfl, (HIN.out ▸ o3 : RowP w3 W.heap.size v3 (insertV ps c y)).base K0.size, HY2.out, HYG.out, K0.trans k3⟩
  · have hc2 : ¬ c = k := hcap
    have hc3 : (c == k) = false := beq_eq_false_iff_ne.2 hcap
    go_enter Tryz.func34, Tryz.ntmps34
    go_wp2_with fail
    have B0 := Box.new w w.heap.size 30 #[.slice Aq it.names.length cq, .slice Dq it.marks.length dq, .bool it.late] rfl
    have K0 : Kept w (w.alloc (.cells #[.slice Aq it.names.length cq, .slice Dq it.marks.length dq, .bool it.late] 30)) := (Kept.refl w).alloc _
    generalize w.alloc (.cells #[.slice Aq it.names.length cq, .slice Dq it.marks.length dq, .bool it.late] 30) = W at *
    have bA : Box (W.alloc (.cells #[] 30)).drew W.heap.size 30 #[] := Box.new W _ _ _ rfl
    have bB : Box ((W.alloc (.cells #[] 30)).alloc (.cells #[.slice Aq it.names.length cq, .slice Dq it.marks.length dq, .bool it.late] 30)).drew W.heap.size 30 #[] := (Box.new W W.heap.size _ _ rfl).alloc _
    have bC : Box ((W.alloc (.cells #[.slice Aq it.names.length cq, .slice Dq it.marks.length dq, .bool it.late] 30)).alloc (.cells #[] 30)).drew (W.heap.size + 1) 30 #[] := Box.new (W.alloc (.cells #[.slice Aq it.names.length cq, .slice Dq it.marks.length dq, .bool it.late] 30)) _ _ _ (by simp)
    have vB : Box ((W.alloc (.cells #[] 30)).alloc (.cells #[.slice Aq it.names.length cq, .slice Dq it.marks.length dq, .bool it.late] 30)).drew (W.heap.size + 1) 30 #[.slice Aq it.names.length cq, .slice Dq it.marks.length dq, .bool it.late] := Box.new (W.alloc (.cells #[] 30)) _ _ _ (by simp)
    have vC : Box ((W.alloc (.cells #[.slice Aq it.names.length cq, .slice Dq it.marks.length dq, .bool it.late] 30)).alloc (.cells #[] 30)).drew W.heap.size 30 #[.slice Aq it.names.length cq, .slice Dq it.marks.length dq, .bool it.late] := (Box.new W W.heap.size _ _ rfl).alloc _
    have kA : Kept W (W.alloc (.cells #[] 30)).drew := ((Kept.refl W).alloc _).drew
    have kB : Kept W ((W.alloc (.cells #[] 30)).alloc (.cells #[.slice Aq it.names.length cq, .slice Dq it.marks.length dq, .bool it.late] 30)).drew := (((Kept.refl W).alloc _).alloc _).drew
    have kC : Kept W ((W.alloc (.cells #[.slice Aq it.names.length cq, .slice Dq it.marks.length dq, .bool it.late] 30)).alloc (.cells #[] 30)).drew := (((Kept.refl W).alloc _).alloc _).drew
    have kD : Kept W W.drew := (Kept.refl W).drew
    have kE : Kept W (W.alloc (.cells #[.slice Aq it.names.length cq, .slice Dq it.marks.length dq, .bool it.late] 30)).drew := ((Kept.refl W).alloc _).drew
    go_region_held3 (fun w' => w'.cell? ⟨w.heap.size, 0, none⟩ = some (.slice Aq it.names.length cq) ∧ w'.cell? ⟨w.heap.size, 1, none⟩ = some (.slice Dq it.marks.length dq) ∧ w'.cell? ⟨w.heap.size, 2, none⟩ = some (.bool it.late)) (first | (with_reducible exact (B0.kept kD).three.1) | (with_reducible exact (B0.kept kA).three.1) | (with_reducible exact (B0.kept kB).three.1) | (with_reducible exact (B0.kept kC).three.1) | (with_reducible exact (B0.kept kE).three.1) | (with_reducible exact (B0.kept (by assumption)).three.1) | (with_reducible exact (B0.kept (Kept.alloc (by assumption) _)).three.1)) (first | (refine step_append_P W _ rfl (.tmp 7) (.tmp 10) rfl (.slice (some ⟨W.heap.size, 0, none⟩) 0 0) [] rfl (RowP.nil0 _ _ (by first | exact Nat.le_refl _ | omega) bA) kA _ (ps.take k) rfl (HTO.out.kept (K0.trans kA)) ((HG.out.take k).kept (K0.trans kA)) (by simp; omega) ?_; intro v1 w1 o1 k1 on1; rw [List.nil_append] at o1) | (refine step_append_P W _ rfl (.tmp 7) (.tmp 10) rfl (.slice (some ⟨W.heap.size, 0, none⟩) 0 0) [] rfl (RowP.nil0 _ _ (by first | exact Nat.le_refl _ | omega) bB) kB _ (ps.take k) rfl (HTO.out.kept (K0.trans kB)) ((HG.out.take k).kept (K0.trans kB)) (by simp; omega) ?_; intro v1 w1 o1 k1 on1; rw [List.nil_append] at o1; have hv2 := HYB.out _ _ (vB.only on1 (by simp [fp_some]))) | (refine step_append_P W _ rfl (.tmp 7) (.tmp 10) rfl (.slice (some ⟨W.heap.size + 1, 0, none⟩) 0 0) [] rfl (RowP.nil0 _ _ (by first | exact Nat.le_refl _ | omega) bC) kC _ (ps.take k) rfl (HTO.out.kept (K0.trans kC)) ((HG.out.take k).kept (K0.trans kC)) (by simp; omega) ?_; intro v1 w1 o1 k1 on1; rw [List.nil_append] at o1; have hv2 := HYB.out _ _ (vC.only on1 (by simp [fp_some]))) | (refine step_append_P W _ rfl (.tmp 11) (.tmp 13) rfl _ (ps.take k) rfl o1 k1 _ [y] rfl hv2 (goodP_one ⟨HYG.out.1.kept (K0.trans k1), HYG.out.2.kept (K0.trans k1)⟩) (by simp; omega) ?_; intro v2 w2 o2 k2 on2) | (refine step_append_P W _ rfl (.tmp 11) (.tmp 13) rfl _ (ps.take k) rfl (o1.kept ((Kept.refl w1).alloc (.cells #[.slice Aq it.names.length cq, .slice Dq it.marks.length dq, .bool it.late] 30))) (k1.alloc (.cells #[.slice Aq it.names.length cq, .slice Dq it.marks.length dq, .bool it.late] 30)) _ [y] rfl (HYB.out _ _ (Box.new w1 _ _ _ rfl)) (goodP_one ⟨HYG.out.1.kept (K0.trans (k1.alloc (.cells #[.slice Aq it.names.length cq, .slice Dq it.marks.length dq, .bool it.late] 30))), HYG.out.2.kept (K0.trans (k1.alloc (.cells #[.slice Aq it.names.length cq, .slice Dq it.marks.length dq, .bool it.late] 30)))⟩) (by simp; omega) ?_; intro v2 w2 o2 k2 on2) | (refine step_append_P W _ rfl (.tmp 14) (.tmp 17) rfl _ (ps.take k ++ [y]) rfl o2 k2 _ (ps.drop k) (by rw [HX3.out, if_neg hcap]; rfl) (HFR.out.kept (K0.trans k2)) ((HG.out.drop k).kept (K0.trans k2)) HLT.out ?_; intro v3 w3 o3 k3 on3))
    all_goals
      go_wp2_with fail
      go_ret
      exact ⟨_, y, rfl, (HIN.out ▸ o3 : RowP w3 W.heap.size v3 (insertV ps k y)).base K0.size, HY2.out, HYG.out, K0.trans k3⟩
set_option maxHeartbeats 1000000 in
theorem pgInsert_any (v vi : Value) (ps : List Pr) (k : Nat) (it : ItemD) (w : World) (h : SrcP w v ps) (hg : GoodP w ps) (hi : ItemAt w vi it) (h0 : 0 < ps.length) (hk : k ≤ ps.length) (hl : ps.length ≤ 1000) :
    Calls Tryz.prog 34 #[v, .int .i64 (k : Int), vi] w fun e w' => ∃ v' y, e = .returned v' ∧ RowP w' w.heap.size v' (insertV ps k y) ∧ y.2 = it ∧ (Strs w y.1.1 y.2.names ∧ Ints w y.1.2 y.2.marks) ∧ Kept w w' := by
  obtain ⟨A, c, rfl, hnc, hcm, hA⟩ := h.out
  obtain ⟨b, o, rfl, hb, _⟩ := hA (by omega)
  exact pgInsert_form b o c vi ps k it w h hg hi hk hl
end Go.Proofs.YtkekpolfdmmgeaaGreat
