/- Contracts of functions that the proof leans on. No condition. -/
import Derived.Test.YtapmlnpdjdneoaaMa83125fc54
import Derived.ProofKit
import Derived.OpenShut
import Derived.ChangeOld
import Derived.SliceStrings
import Derived.Lib.SmallJoins
import Derived.Deep.Slices
import Derived.Deep.Fields
/- Programmes: MoveItem. -/
namespace Go.Proofs.Ytapmlnpdjdneoaa
set_option linter.unusedVariables false
set_option linter.unusedSimpArgs false
open Go.RowKit

def mvOk (x : CodeD) (its : List ItemD) (a b : Int) : Bool := goodB x its && (inB a 0 ((its.length : Int) - 1) && (inB b 0 ((its.length : Int) - 1) && (match its[a.toNat]? with | some it => ifB x (insertV (withoutV its a.toNat) b.toNat it) | none => false)))
def mvL (its : List ItemD) (a b : Int) : List ItemD := match its[a.toNat]? with | some it => insertV (withoutV its a.toNat) b.toNat it | none => []
def mvV (x : CodeD) (its : List ItemD) (a b : Int) : List ItemD := onT (mvOk x its a b) (lated (mvL its a b))
theorem mvOk_at {x : CodeD} {its : List ItemD} {k m : Nat} {it : ItemD} (hg : goodB x its = true) (h1 : inB (k : Int) 0 ((its.length : Int) - 1) = true) (h2 : inB (m : Int) 0 ((its.length : Int) - 1) = true) (h : its[k]? = some it) : mvOk x its k m = ifB x (insertV (withoutV its k) m it) := by
  unfold mvOk
  rw [hg, h1, h2, Int.toNat_natCast, Int.toNat_natCast, h]
  rfl
theorem mvL_at {its : List ItemD} {k m : Nat} {it : ItemD} (h : its[k]? = some it) : mvL its k m = insertV (withoutV its k) m it := by
  unfold mvL
  rw [Int.toNat_natCast, Int.toNat_natCast, h]
theorem without_length {α : Type} {l : List α} {k : Nat} (h : k < l.length) : (withoutV l k).length = l.length - 1 := by
  unfold withoutV
  rw [List.length_append, List.length_take, List.length_drop]
  omega
theorem mvV_size (x : CodeD) (its : List ItemD) (a b : Int) : itemsSize (mvV x its a b) ≤ 330 := by
  refine onT_size (fun h => ?_)
  unfold mvOk at h
  simp only [Bool.and_eq_true] at h
  have hi := (goodB_parts h.1).2
  have h2 := (itemsB_true hi).1
  unfold mvL
  cases hq : its[a.toNat]? with
  | none =>
    have e0 : itemsSize (lated []) = 0 := rfl
    simp only
    omega
  | some it =>
    have hlt := (List.getElem?_eq_some_iff.1 hq).1
    have h3 := without_length hlt
    have h4 := insert_len (withoutV its a.toNat) b.toNat it
    have hl := (itemsB_true hi).1
    exact lated_small (insert_all (without_all (all_of hi) _) (List.all_eq_true.1 (all_of hi) it (List.mem_of_getElem? hq)) _) (Nat.le_trans h4 (by omega))
theorem delP_form (v : Value) (ps : List Pr) (i : Nat) (w : World) (base : Nat) (h : RowP w base v ps) (hg : GoodP w ps) (hi : i < ps.length) :
    Calls Try.prog 48 #[v, .int .i64 i, .int .i64 ((i : Int) + 1)] w fun e w' => ∃ g c, e = .returned (.slice (some ⟨g, 0, none⟩) (withoutV ps i).length c) ∧ RowP w' base (.slice (some ⟨g, 0, none⟩) (withoutV ps i).length c) (withoutV ps i) ∧ Only (fp v) w w' := by
  obtain ⟨A, c, rfl, _, _, hA⟩ := own_form h
  obtain ⟨g, rfl⟩ := hA (by omega)
  refine (delRowT _ ps.length i c g w base h hi hg.one).mono ?_
  rintro e w' ⟨rfl, h2, h3⟩
  rw [without_length hi]
  refine ⟨g, c, rfl, ?_, h3⟩
  rw [flat_takeP, flat_dropP, ← List.flatMap_append] at h2
  unfold RowP
  rw [without_length hi]
  exact h2
theorem insP_form (g c : Nat) (ps : List Pr) (y : Pr) (i vb : Nat) (w : World) (base : Nat) (h : RowP w base (.slice (some ⟨g, 0, none⟩) ps.length c) ps) (hg : GoodP w ps) (hy : Strs w y.1.1 y.2.names ∧ Ints w y.1.2 y.2.marks) (hi : i ≤ ps.length) (hn : ps.length ≤ 1000000) (hbase : base ≤ w.heap.size)
    (hV : Box w vb 52 #[y.1.1, y.1.2, .bool y.2.late]) (hne : vb ≠ g) :
    Calls Try.prog 58 #[.slice (some ⟨g, 0, none⟩) ps.length c, .int .i64 i, .slice (some ⟨vb, 0, none⟩) 1 1] w fun e w' => ∃ v', e = .returned v' ∧ RowP w' base v' (insertV ps i y) ∧ Only [g] w w' := by
  rcases Nat.eq_zero_or_pos ps.length with h0 | h0
  · obtain rfl : ps = [] := List.eq_nil_of_length_eq_zero h0
    obtain rfl : i = 0 := by simpa using hi
    have h1y : ∀ u ∈ row3 y, u.oneCell' = true := by
      intro u hu
      exact (goodP_one hy).one u (by simpa using hu)
    refine (insEndT [] (row3 y) 0 c g vb w base h hbase (by omega) hV rfl h1y).mono ?_
    rintro e w' ⟨v', rfl, h2, h3⟩
    exact ⟨v', rfl, h2, only_of_grown (v := .slice (some ⟨g, 0, none⟩) 0 c) h3⟩
  · refine (insP_any _ ps y i vb w base h hg hy h0 hi hn hbase hV (fun b hb => by rw [fp_some, List.mem_singleton] at hb; subst hb; exact hne)).mono ?_
    rintro e w' ⟨v', rfl, h2, h3⟩
    exact ⟨v', rfl, h2, h3⟩
set_option maxRecDepth 100000 in
theorem step_append_P3 (a0 w : World) {ops : Array Oper} {o : Oper} {a : Act} {K : Act → World → Prop} {Q : Exit → Act → World → Prop} {E : Prop} (hgd : o.guard = none) (s x : Operand)
    (ho : o.op = .call { callee := .builtin .append, args := #[s, x], argTypes := #[27, 27] })
    (v : Value) (ps : List Pr) (hs : a.eval s = v) (hown : RowP w a0.heap.size v ps) (hk : Kept a0 w) (u : Value) (qs : List Pr) (hx : a.eval x = u) (hr : SrcP w u qs) (hg : GoodP w qs)
    (hl : ps.length + qs.length ≤ 1000000)
    (h : ∀ v' w', RowP w' a0.heap.size v' (ps ++ qs) → Kept a0 w' → (v.ownBlock ≠ none → v'.ownBlock ≠ none) → K (a.put o.dst v') w') :
    if Region.wanted o (yielded ops a.tmps) = true then Oper.wp Try.prog o a w K Q else E := by
  have hw : Region.wanted o (yielded ops a.tmps) = true := by simp [Region.wanted, hgd]
  rw [if_pos hw]
  obtain ⟨i0, hi, hz0, hz1, hz2⟩ := info_parts info_item
  obtain ⟨v', w', hrun, h2, h3, h4⟩ := run_append_locT (P := Try.prog) w a0.heap.size 27 o.type 52 i0 _ 3 56 Try.underlying27 hi hz0 hz1 hz2 rfl (by omega) v ps.length _ hown u qs.length (qs.flatMap row3) hr (flat_length row3 3 (fun _ => rfl) qs) hg.one (by unfold maxLen; omega) (by omega) hk.size
  have hon := only_of_grown h3
  unfold Oper.wp execOp
  simp only [ho, resolve, invoke, builtin, Sem.run_bind, Sem.run_pure, Result.andThen_ok, List.map_toArray, List.map_cons, List.map_nil, hs, hx, hrun]
  refine h v' w' ?_ (hon.above hk (fun b hb => (own_fp hown b hb).1)) (fun hv => ?_)
  · unfold RowP
    rw [List.length_append, List.flatMap_append]
    exact h2
  · rcases h4 with h4 | h4
    · rw [h4]; exact hv
    · rw [h4]; simp
set_option maxRecDepth 100000 in
set_option maxHeartbeats 4000000 in
theorem pgWithout_form (v : Value) (ps : List Pr) (k : Nat) (w : World) (h : SrcP w v ps) (hg : GoodP w ps) (hk : k < ps.length) (hl : ps.length ≤ 1000) :
    Calls Try.prog 42 #[v, .int .i64 (k : Int)] w fun e w' => ∃ g c, e = .returned (.slice (some ⟨g, 0, none⟩) (withoutV ps k).length c) ∧ RowP w' w.heap.size (.slice (some ⟨g, 0, none⟩) (withoutV ps k).length c) (withoutV ps k) ∧ Kept w w' := by
  have H := Lib.hid h
  have HG := Lib.hid hg
  obtain ⟨A, c, rfl, hnc, hcm, hA⟩ := h.out
  obtain ⟨b, o, rfl, hb, _⟩ := hA (by omega)
  have HTO := Lib.hid (srcP_to H.out rfl (i := k) (by omega))
  have h1 : (k : Int) ≤ (c : Int) := by omega
  have h2 : (0 : Int) ≤ (k : Int) + 1 := by omega
  have h3 : (k : Int) + 1 ≤ (ps.length : Int) := by omega
  have h4 : ((k : Int) + 1).toNat = k + 1 := by omega
  have h5 : (ps.length : Int) ≤ (c : Int) := by omega
  have h6 : k ≤ c := by omega
  have h7 : k + 1 ≤ c := by omega
  have h8 : k + 1 ≤ ps.length := by omega
  have hw1 : IntKind.i64.wrap ((k : Int) + 1) = (k : Int) + 1 := IntWalk.i64_in _ (by omega)
  have hlt : (ps.take k).length + (ps.drop (k + 1)).length ≤ 1000000 := by rw [List.length_take, List.length_drop]; omega
  have HLT := Lib.hid hlt
  have htl : (ps.take k).length ≤ 1000 := by rw [List.length_take]; omega
  clear h hg hA hlt
  unfold maxLen at hcm
  by_cases hcap : c = k + 1
  · subst hcap
    have HFR : Hid (SrcP w (.slice (some ⟨b, o, none⟩) 0 0) (ps.drop (k + 1))) := Lib.hid (srcP_none (by omega))
    have h9 : ps.length = k + 1 := by omega
    have H9 := Lib.hid h9
    clear h9
    have b1 : (k : Int) ≤ (k : Int) + 1 := by omega
    have b2 : ¬ ((k : Int) + 1 < (k : Int)) := by omega
    have b3 : (0 : Int) ≤ (k : Int) := by omega
    go_enter Try.func42, Try.ntmps42
    go_wp2_with fail
    go_region_held3 (fun _ => True) (trivial) (first | (refine step_append_P3 w _ rfl (.tmp 5) (.tmp 8) rfl (.slice (some ⟨w.heap.size, 0, none⟩) 0 0) [] rfl (RowP.nil0 _ _ (Nat.le_refl _) (Box.new w _ _ _ rfl)) ((Kept.refl w).alloc _).drew _ (ps.take k) rfl (HTO.out.kept ((Kept.refl w).alloc _).drew) ((HG.out.take k).kept ((Kept.refl w).alloc _).drew) (by simp; omega) ?_; intro v1 w1 o1 k1 n1) | (refine step_append_P3 w _ rfl (.tmp 9) (.tmp 13) rfl _ (ps.take k) rfl o1 k1 _ (ps.drop (k + 1)) (by first | rfl | (simp [Act.eval, Act.put, H9.out])) (HFR.out.kept k1) ((HG.out.drop (k + 1)).kept k1) HLT.out ?_; intro v2 w2 o2 k2 n2; have N2 : v2.ownBlock ≠ none := n2 (n1 (by simp [Value.ownBlock])); obtain ⟨g9, c9, e9⟩ := RowP.some o2 N2; have O2 := Lib.hid (e9 ▸ o2); have E9 := Lib.hid e9; clear o2 e9 N2))
    all_goals
      go_wp2_with fail
      go_ret
      exact ⟨g9, c9, by rw [E9.out]; rfl, O2.out, k2⟩
  · have HFR := Lib.hid (srcP_from H.out rfl (k := k + 1) (by omega))
    have hc2 : ¬ c = k + 1 := hcap
    have hc3 : (c == k + 1) = false := beq_eq_false_iff_ne.2 hcap
    go_enter Try.func42, Try.ntmps42
    go_wp2_with fail
    go_region_held3 (fun _ => True) (trivial) (first | (refine step_append_P3 w _ rfl (.tmp 5) (.tmp 8) rfl (.slice (some ⟨w.heap.size, 0, none⟩) 0 0) [] rfl (RowP.nil0 _ _ (Nat.le_refl _) (Box.new w _ _ _ rfl)) ((Kept.refl w).alloc _).drew _ (ps.take k) rfl (HTO.out.kept ((Kept.refl w).alloc _).drew) ((HG.out.take k).kept ((Kept.refl w).alloc _).drew) (by simp; omega) ?_; intro v1 w1 o1 k1 n1) | (refine step_append_P3 w _ rfl (.tmp 9) (.tmp 13) rfl _ (ps.take k) rfl o1 k1 _ (ps.drop (k + 1)) rfl (HFR.out.kept k1) ((HG.out.drop (k + 1)).kept k1) HLT.out ?_; intro v2 w2 o2 k2 n2; have N2 : v2.ownBlock ≠ none := n2 (n1 (by simp [Value.ownBlock])); obtain ⟨g9, c9, e9⟩ := RowP.some o2 N2; have O2 := Lib.hid (e9 ▸ o2); have E9 := Lib.hid e9; clear o2 e9 N2))
    all_goals
      go_wp2_with fail
      go_ret
      exact ⟨g9, c9, by rw [E9.out]; rfl, O2.out, k2⟩
set_option maxRecDepth 100000 in
set_option maxHeartbeats 8000000 in
theorem specMoveItem_any (v0 v1 : Value) (x : CodeD) (its : List ItemD) (a : Int) (z : Int) (w : World) (h0 : CodeAt w v0 x) (h1 : ItemsAt w v1 its)  :
    Calls Try.prog 29 #[v0, v1, .int .i64 a, .int .i64 z] w fun e w' => ∃ v' S, e = .returned (.tuple #[v', .bool (mvOk x its a z)]) ∧ OwnL w' w.heap.size v' (mvV x its a z) S ∧ Kept w w' := by
  have H0 := Lib.hid h0
  obtain ⟨n0, m0, rfl, p0, q0⟩ := h0
  have HE0 := Lib.hid p0; have HI0 := Lib.hid q0
  obtain ⟨A0, c0, rfl, hnc0, hcm0, _⟩ := p0.1.out; obtain ⟨D0, d0, rfl, hnd0, hdm0, _⟩ := q0.out; clear p0 q0; unfold maxLen at hcm0 hdm0
  have H1 := Lib.hid h1
  obtain ⟨A1, c1, cs1, rfl, hnc1, hcm1, hA1⟩ := h1.out; have HA1 := Lib.hid hA1; clear hA1 h1; unfold maxLen at hcm1
  go_enter Try.func29, Try.ntmps29
  have K0 := Kept.refl w
  go_wp2_with fail
  obtain ⟨wb1, hwb1⟩ : ∃ w' : World, w' = w.alloc (.cells #[.slice A0 x.elems.length c0, .slice D0 x.limits.length d0, .int .i64 x.repeats, .int .i64 x.bonus, .int .i64 x.keeps, .int .i64 x.fall] 43) := ⟨_, rfl⟩
  rw [← hwb1]
  have KB0 : Kept w wb1 := hwb1 ▸ (Kept.refl w).alloc _
  have B0 : Box wb1 (w.heap.size) 43 #[.slice A0 x.elems.length c0, .slice D0 x.limits.length d0, .int .i64 x.repeats, .int .i64 x.bonus, .int .i64 x.keeps, .int .i64 x.fall] := hwb1 ▸ Box.new w (w.heap.size) 43 #[.slice A0 x.elems.length c0, .slice D0 x.limits.length d0, .int .i64 x.repeats, .int .i64 x.bonus, .int .i64 x.keeps, .int .i64 x.fall] rfl
  have swb1 : wb1.heap.size = w.heap.size + 1 := by rw [hwb1]; simp
  clear hwb1
  have Kwb1 := K0.trans KB0
  refine (pgGood_any _ _ x its _ (H0.out.kept Kwb1) (H1.out.kept Kwb1)).mono ?_
  rintro e w1 ⟨rfl, k1⟩
  replace B0 := B0.kept k1
  have sz1 := k1.size
  have K1 := Kwb1.trans k1
  by_cases hq : goodB x its = true
  case neg =>
    simp only [Bool.not_eq_true] at hq
    rw [hq]
    have HO : Hid (mvOk x its a z = false) := Lib.hid (by unfold mvOk; rw [hq]; rfl)
    clear hq
    obtain ⟨x0, y0⟩ := B0.six
    go_wp2_with fail
    clear x0 y0
    go_ret2
    exact ⟨_, _, ret_vb3 HO.out.symm, by unfold mvV; rw [HO.out]; exact nilL _ _, K1⟩
  rw [hq]
  obtain ⟨hc, hi⟩ := goodB_parts hq
  have HQ := Lib.hid hq
  have hl14 := (itemsB_true hi).1
  have HAL := Lib.hid (all_of hi)
  clear hq hc hi
  obtain ⟨x0, y0⟩ := B0.six
  go_wp2_with fail
  clear x0 y0
  refine (l1In_any _ _ _ _).mono ?_
  rintro e w' ⟨rfl, rfl⟩
  by_cases hr : inB a 0 ((its.length : Int) - 1) = true
  case neg =>
    simp only [Bool.not_eq_true] at hr
    rw [hr]
    have HO : Hid (mvOk x its a z = false) := Lib.hid (by unfold mvOk; rw [HQ.out, hr]; rfl)
    clear hr
    obtain ⟨x0, y0⟩ := B0.six
    go_wp2_with fail
    clear x0 y0
    go_ret2
    exact ⟨_, _, ret_vb3 HO.out.symm, by unfold mvV; rw [HO.out]; exact nilL _ _, K1⟩
  rw [hr]
  have HR := Lib.hid hr
  have ha01 := inB_true hr
  clear hr
  obtain ⟨x0, y0⟩ := B0.six
  go_wp2_with fail
  clear x0 y0
  refine (l1In_any _ _ _ _).mono ?_
  rintro e w' ⟨rfl, rfl⟩
  by_cases hr2 : inB z 0 ((its.length : Int) - 1) = true
  case neg =>
    simp only [Bool.not_eq_true] at hr2
    rw [hr2]
    have HO : Hid (mvOk x its a z = false) := Lib.hid (by unfold mvOk; rw [HQ.out, HR.out, hr2]; rfl)
    clear hr2
    obtain ⟨x0, y0⟩ := B0.six
    go_wp2_with fail
    clear x0 y0
    go_ret2
    exact ⟨_, _, ret_vb3 HO.out.symm, by unfold mvV; rw [HO.out]; exact nilL _ _, K1⟩
  rw [hr2]
  have HR2 := Lib.hid hr2
  have hz01 := inB_true hr2
  clear hr2
  obtain ⟨ha0, ha1⟩ := ha01
  obtain ⟨hz0, hz1⟩ := hz01
  obtain ⟨k, rfl⟩ := Int.eq_ofNat_of_zero_le ha0
  obtain ⟨m, rfl⟩ := Int.eq_ofNat_of_zero_le hz0
  have hk : k < its.length := by omega
  have hm : m < its.length := by omega
  have hkI : (k : Int) < (its.length : Int) := by omega
  obtain ⟨b, o, Aa, ca, Ab, cb, it, rfl, hbb, h2, h3, hit, q0, q1, q2⟩ := items_at (HA1.out.kept K1) hk
  have HDR : Hid (mvOk x its (k : Int) (m : Int) = ifB x (insertV (withoutV its k) m it)) := Lib.hid (mvOk_at HQ.out HR.out HR2.out h2)
  have HML : Hid (mvL its (k : Int) (m : Int) = insertV (withoutV its k) m it) := Lib.hid (mvL_at h2)
  have HT : Hid (itemB it = true) := Lib.hid (List.all_eq_true.1 HAL.out it (List.mem_of_getElem? h2))
  have HIT := Lib.hid hit
  clear h2 h3 hit ha0 ha1 hz0 hz1
  have HC3 : Hid (∀ w' : World, Kept w1 w' → (w'.cell? ⟨b, o + k * 3, none⟩ = some (.slice Aa it.names.length ca) ∧ w'.cell? ⟨b, o + k * 3 + 1, none⟩ = some (.slice Ab it.marks.length cb) ∧ w'.cell? ⟨b, o + k * 3 + 2, none⟩ = some (.bool it.late))) := Lib.hid (fun w' hk => ⟨(hk.cell (p := ⟨b, o + k * 3, none⟩) hbb).trans q0, (hk.cell (p := ⟨b, o + k * 3 + 1, none⟩) hbb).trans q1, (hk.cell (p := ⟨b, o + k * 3 + 2, none⟩) hbb).trans q2⟩)
  clear q0 q1 q2
  obtain ⟨ps, hps, hsrc, hgood⟩ := pairs_of (H1.out.kept K1)
  have hpl : ps.length = its.length := by rw [← hps, itsP_len]
  have HSRC := Lib.hid hsrc
  have HGOOD := Lib.hid hgood
  have HPS := Lib.hid hps
  have HPL := Lib.hid hpl
  have hk2 : k < ps.length := by omega
  have hl2 : ps.length ≤ 1000 := by omega
  have hwp := without_length hk2
  have hm2 : m ≤ (withoutV ps k).length := by omega
  have hl3 : (withoutV ps k).length ≤ 1000 := by omega
  clear hsrc hgood hps hpl hwp
  have HWA := Lib.hid (insert_all (p := itemB) (without_all (p := itemB) HAL.out k) HT.out m)
  have hwl := insert_len (withoutV its k) m it
  have hwl2 := without_length hk
  have hwl3 : (insertV (withoutV its k) m it).length ≤ 15 := by omega
  clear hwl hwl2
  obtain ⟨X, hX⟩ : ∃ X, insertV (withoutV its k) m it = X := ⟨_, rfl⟩
  rw [hX] at HDR HWA HML hwl3
  have HXX := Lib.hid hX
  clear hX
  obtain ⟨x0, y0⟩ := B0.six
  go_wp2_with fail
  clear x0 y0
  have B0w := B0
  have kD : Kept w1 w1.drew := (Kept.refl _).drew
  go_region_held3 (fun w' => (w'.cell? ⟨w.heap.size, 0, none⟩ = some (.slice A0 x.elems.length c0) ∧ w'.cell? ⟨w.heap.size, 1, none⟩ = some (.slice D0 x.limits.length d0) ∧ w'.cell? ⟨w.heap.size, 2, none⟩ = some (.int .i64 x.repeats) ∧ w'.cell? ⟨w.heap.size, 3, none⟩ = some (.int .i64 x.bonus) ∧ w'.cell? ⟨w.heap.size, 4, none⟩ = some (.int .i64 x.keeps) ∧ w'.cell? ⟨w.heap.size, 5, none⟩ = some (.int .i64 x.fall)) ∧ (w'.cell? ⟨b, o + k * 3, none⟩ = some (.slice Aa it.names.length ca) ∧ w'.cell? ⟨b, o + k * 3 + 1, none⟩ = some (.slice Ab it.marks.length cb) ∧ w'.cell? ⟨b, o + k * 3 + 2, none⟩ = some (.bool it.late))) (first | (with_reducible exact ⟨(B0w.kept kD).six.1, HC3.out _ kD⟩) | (with_reducible exact ⟨(B0w.kept (by assumption)).six.1, HC3.out _ (by assumption)⟩)) (first | (go_at_call 42; refine (pgWithout_form _ ps k _ (HSRC.out.kept kD) (HGOOD.out.kept kD) hk2 hl2).mono ?_; rintro e w7 ⟨g7, c7, rfl, o7, k7⟩; have k7' := kD.trans k7; have G7 := Lib.hid ((HGOOD.out.without k).kept k7'); have O7 := Lib.hid o7; clear o7) | (go_at_call 55; refine (pgInsert_form g7 0 c7 _ (withoutV ps k) m it _ O7.out.src G7.out (HIT.out.kept k7') hm2 hl3).mono ?_; rintro e w8 ⟨v8, y, rfl, o8, hy2, hyg, k8⟩; have k8' := k7'.trans k8; have r8 := items_of o8.src ((GoodP.insert G7.out hyg m).kept k8); rw [itsP_insert, itsP_without, HPS.out, hy2, HXX.out] at r8; have R8 := Lib.hid r8; clear r8 hy2 hyg) | (go_at_call 41; refine (pgIf_any _ _ x X _ (H0.out.kept (K1.trans k8')) R8.out HWA.out (by omega)).mono ?_; rintro e w9 ⟨v9, S9, rfl, o9, k9⟩; have kk9 := k8'.trans k9))
  rename_i hheld
  clear hheld
  all_goals
    go_wp2_with fail
    go_ret2
    refine ⟨_, S9, ret_vb3 HDR.out.symm, ?_, K1.trans kk9⟩
    have e9 : mvV x its (k : Int) (m : Int) = onT (ifB x X) (lated X) := by unfold mvV; rw [HDR.out, HML.out]
    rw [e9]
    have hz1 := K1.size
    have hz2 := k8'.size
    exact o9.base (by omega)
end Go.Proofs.Ytapmlnpdjdneoaa

/- Programmes: MoveItem, the program's side. -/
namespace Go.Proofs.Ytapmlnpdjdneoaa
set_option linter.unusedVariables false
set_option linter.unusedSimpArgs false
open Go.RowKit

set_option maxRecDepth 100000 in
set_option maxHeartbeats 8000000 in
theorem implMoveItem_any (v0 v1 : Value) (x : CodeD) (its : List ItemD) (a : Int) (z : Int) (w : World) (h0 : CodeAt w v0 x) (h1 : ItemsAt w v1 its)  :
    Calls Try.prog 30 #[v0, v1, .int .i64 a, .int .i64 z] w fun e w' => ∃ v' S, e = .returned (.tuple #[v', .bool (mvOk x its a z)]) ∧ OwnL w' w.heap.size v' (mvV x its a z) S ∧ Kept w w' := by
  have H0 := Lib.hid h0
  obtain ⟨n0, m0, rfl, p0, q0⟩ := h0
  have HE0 := Lib.hid p0; have HI0 := Lib.hid q0
  obtain ⟨A0, c0, rfl, hnc0, hcm0, _⟩ := p0.1.out; obtain ⟨D0, d0, rfl, hnd0, hdm0, _⟩ := q0.out; clear p0 q0; unfold maxLen at hcm0 hdm0
  have H1 := Lib.hid h1
  obtain ⟨A1, c1, cs1, rfl, hnc1, hcm1, hA1⟩ := h1.out; have HA1 := Lib.hid hA1; clear hA1 h1; unfold maxLen at hcm1
  go_enter Try.func30, Try.ntmps30
  have K0 := Kept.refl w
  go_wp2_with fail
  obtain ⟨wb1, hwb1⟩ : ∃ w' : World, w' = w.alloc (.cells #[.slice A0 x.elems.length c0, .slice D0 x.limits.length d0, .int .i64 x.repeats, .int .i64 x.bonus, .int .i64 x.keeps, .int .i64 x.fall] 43) := ⟨_, rfl⟩
  rw [← hwb1]
  have KB0 : Kept w wb1 := hwb1 ▸ (Kept.refl w).alloc _
  have B0 : Box wb1 (w.heap.size) 43 #[.slice A0 x.elems.length c0, .slice D0 x.limits.length d0, .int .i64 x.repeats, .int .i64 x.bonus, .int .i64 x.keeps, .int .i64 x.fall] := hwb1 ▸ Box.new w (w.heap.size) 43 #[.slice A0 x.elems.length c0, .slice D0 x.limits.length d0, .int .i64 x.repeats, .int .i64 x.bonus, .int .i64 x.keeps, .int .i64 x.fall] rfl
  have swb1 : wb1.heap.size = w.heap.size + 1 := by rw [hwb1]; simp
  clear hwb1
  have Kwb1 := K0.trans KB0
  refine (isProgramme_any _ _ x its _ (H0.out.kept Kwb1) (H1.out.kept Kwb1)).mono ?_
  rintro e w1 ⟨rfl, k1⟩
  replace B0 := B0.kept k1
  have sz1 := k1.size
  have K1 := Kwb1.trans k1
  by_cases hq : goodB x its = true
  case neg =>
    simp only [Bool.not_eq_true] at hq
    rw [hq]
    have HO : Hid (mvOk x its a z = false) := Lib.hid (by unfold mvOk; rw [hq]; rfl)
    clear hq
    obtain ⟨x0, y0⟩ := B0.six
    go_wp2_with fail
    clear x0 y0
    go_ret2
    exact ⟨_, _, ret_vb3 HO.out.symm, by unfold mvV; rw [HO.out]; exact nilL _ _, K1⟩
  rw [hq]
  obtain ⟨hc, hi⟩ := goodB_parts hq
  have HQ := Lib.hid hq
  have hl14 := (itemsB_true hi).1
  have HAL := Lib.hid (all_of hi)
  clear hq hc hi
  obtain ⟨x0, y0⟩ := B0.six
  go_wp2_with fail
  clear x0 y0
  refine (within_any _ _ _ _).mono ?_
  rintro e w' ⟨rfl, rfl⟩
  by_cases hr : inB a 0 ((its.length : Int) - 1) = true
  case neg =>
    simp only [Bool.not_eq_true] at hr
    rw [hr]
    have HO : Hid (mvOk x its a z = false) := Lib.hid (by unfold mvOk; rw [HQ.out, hr]; rfl)
    clear hr
    obtain ⟨x0, y0⟩ := B0.six
    go_wp2_with fail
    clear x0 y0
    go_ret2
    exact ⟨_, _, ret_vb3 HO.out.symm, by unfold mvV; rw [HO.out]; exact nilL _ _, K1⟩
  rw [hr]
  have HR := Lib.hid hr
  have ha01 := inB_true hr
  clear hr
  obtain ⟨x0, y0⟩ := B0.six
  go_wp2_with fail
  clear x0 y0
  refine (within_any _ _ _ _).mono ?_
  rintro e w' ⟨rfl, rfl⟩
  by_cases hr2 : inB z 0 ((its.length : Int) - 1) = true
  case neg =>
    simp only [Bool.not_eq_true] at hr2
    rw [hr2]
    have HO : Hid (mvOk x its a z = false) := Lib.hid (by unfold mvOk; rw [HQ.out, HR.out, hr2]; rfl)
    clear hr2
    obtain ⟨x0, y0⟩ := B0.six
    go_wp2_with fail
    clear x0 y0
    go_ret2
    exact ⟨_, _, ret_vb3 HO.out.symm, by unfold mvV; rw [HO.out]; exact nilL _ _, K1⟩
  rw [hr2]
  have HR2 := Lib.hid hr2
  have hz01 := inB_true hr2
  clear hr2
  obtain ⟨ha0, ha1⟩ := ha01
  obtain ⟨hz0, hz1⟩ := hz01
  obtain ⟨k, rfl⟩ := Int.eq_ofNat_of_zero_le ha0
  obtain ⟨m, rfl⟩ := Int.eq_ofNat_of_zero_le hz0
  have hk : k < its.length := by omega
  have hm : m < its.length := by omega
  have hkI : (k : Int) < (its.length : Int) := by omega
  obtain ⟨b, o, Aa, ca, Ab, cb, it, rfl, hbb, h2, h3, hit, q0, q1, q2⟩ := items_at (HA1.out.kept K1) hk
  have HDR : Hid (mvOk x its (k : Int) (m : Int) = ifB x (insertV (withoutV its k) m it)) := Lib.hid (mvOk_at HQ.out HR.out HR2.out h2)
  have HML : Hid (mvL its (k : Int) (m : Int) = insertV (withoutV its k) m it) := Lib.hid (mvL_at h2)
  have HT : Hid (itemB it = true) := Lib.hid (List.all_eq_true.1 HAL.out it (List.mem_of_getElem? h2))
  have HIT := Lib.hid hit
  clear h2 h3 hit ha0 ha1 hz0 hz1
  have HC3 : Hid (∀ w' : World, Kept w1 w' → (w'.cell? ⟨b, o + k * 3, none⟩ = some (.slice Aa it.names.length ca) ∧ w'.cell? ⟨b, o + k * 3 + 1, none⟩ = some (.slice Ab it.marks.length cb) ∧ w'.cell? ⟨b, o + k * 3 + 2, none⟩ = some (.bool it.late))) := Lib.hid (fun w' hk => ⟨(hk.cell (p := ⟨b, o + k * 3, none⟩) hbb).trans q0, (hk.cell (p := ⟨b, o + k * 3 + 1, none⟩) hbb).trans q1, (hk.cell (p := ⟨b, o + k * 3 + 2, none⟩) hbb).trans q2⟩)
  clear q0 q1 q2
  obtain ⟨ps, hps, hsrc, hgood⟩ := pairs_of (H1.out.kept K1)
  have hpl : ps.length = its.length := by rw [← hps, itsP_len]
  have HSRC := Lib.hid hsrc
  have HGOOD := Lib.hid hgood
  have HPS := Lib.hid hps
  have HPL := Lib.hid hpl
  have hk2 : k < ps.length := by omega
  have hl2 : ps.length ≤ 1000 := by omega
  have hwp := without_length hk2
  have hm2 : m ≤ (withoutV ps k).length := by omega
  have hl3 : (withoutV ps k).length ≤ 1000 := by omega
  clear hsrc hgood hps hpl hwp
  have HWA := Lib.hid (insert_all (p := itemB) (without_all (p := itemB) HAL.out k) HT.out m)
  have hwl := insert_len (withoutV its k) m it
  have hwl2 := without_length hk
  have hwl3 : (insertV (withoutV its k) m it).length ≤ 15 := by omega
  clear hwl hwl2
  obtain ⟨X, hX⟩ : ∃ X, insertV (withoutV its k) m it = X := ⟨_, rfl⟩
  rw [hX] at HDR HWA HML hwl3
  have HXX := Lib.hid hX
  clear hX
  have hw1 : IntKind.i64.wrap ((k : Int) + 1) = (k : Int) + 1 := IntWalk.i64_in _ (by omega)
  have hnn1 : (0 : Int) ≤ (k : Int) + 1 := by omega
  have B0v := B0
  obtain ⟨x0, y0⟩ := B0.six
  go_wp2_with (at_builtin; refine wpList_append_P w1 _ rfl (.tmp 31) (.tmp 32) rfl (.slice (some ⟨w1.heap.size, 0, none⟩) 0 0) [] rfl (RowP.nil0 _ _ (Nat.le_refl _) (Box.new w1 _ _ _ rfl)) ((Kept.refl _).alloc _) _ ps rfl (HSRC.out.kept ((Kept.refl _).alloc _)) (HGOOD.out.kept ((Kept.refl _).alloc _)) (by simp; omega) ?_; intro v5 w5 o5 k5 n5; rw [List.nil_append] at o5; have O5 := Lib.hid o5; clear o5)
  clear x0 y0
  refine (delP_form v5 ps k w5 _ O5.out (HGOOD.out.kept k5) hk2).mono ?_
  rintro e w6 ⟨g6, c6, rfl, o6, on6⟩
  have k6 := on6.above k5 (fun b hb => (own_fp O5.out b hb).1)
  have O6 := Lib.hid o6
  clear o6 n5 O5 k5 on6
  replace B0 := B0.kept k6
  have sz6 := k6.size
  have K6 := K1.trans k6
  have g6h : w1.heap.size ≤ g6 ∧ g6 < w6.heap.size := own_fp O6.out g6 (by simp [fp_some])
  obtain ⟨x0, y0⟩ := B0.six
  go_wp2_with fail
  clear x0 y0
  have B0w := B0
  obtain ⟨y, hy⟩ : ∃ y : Pr, y = ((.slice Aa it.names.length ca, .slice Ab it.marks.length cb), it) := ⟨_, rfl⟩
  have H3p := HIT.out.parts
  have HYG : Hid (Strs w1 y.1.1 y.2.names ∧ Ints w1 y.1.2 y.2.marks) := Lib.hid (by subst hy; exact H3p)
  have HY2 : Hid (y.2 = it) := Lib.hid (by subst hy; rfl)
  have HYB : Hid (∀ (W : World) (g : Nat), Box W g 52 #[(.slice Aa it.names.length ca), (.slice Ab it.marks.length cb), (.bool it.late)] → Box W g 52 #[y.1.1, y.1.2, .bool y.2.late]) := Lib.hid (fun W g hb => by subst hy; exact hb)
  clear hy H3p
  have HIN : Hid (itsP (insertV (withoutV ps k) m y) = X) := Lib.hid (by rw [itsP_insert, itsP_without, HPS.out, HY2.out, HXX.out])
  have kD : Kept w6 w6.drew := (Kept.refl _).drew
  have kE : Kept w6 (w6.alloc (.cells #[(.slice Aa it.names.length ca), (.slice Ab it.marks.length cb), (.bool it.late)] 52)).drew := ((Kept.refl _).alloc _).drew
  have vE : Box (w6.alloc (.cells #[(.slice Aa it.names.length ca), (.slice Ab it.marks.length cb), (.bool it.late)] 52)).drew w6.heap.size 52 #[(.slice Aa it.names.length ca), (.slice Ab it.marks.length cb), (.bool it.late)] := Box.new w6 _ _ _ rfl
  have C1 := Lib.hid (insP_form g6 c6 (withoutV ps k) y m w6.heap.size _ w1.heap.size (O6.out.kept kE) ((HGOOD.out.without k).kept (k6.trans kE)) ⟨HYG.out.1.kept (k6.trans kE), HYG.out.2.kept (k6.trans kE)⟩ hm2 (by omega) (by have := kE.size; omega) (HYB.out _ _ vE) (by omega))
  go_region_held3 (fun w' => (w'.cell? ⟨w.heap.size, 0, none⟩ = some (.slice A0 x.elems.length c0) ∧ w'.cell? ⟨w.heap.size, 1, none⟩ = some (.slice D0 x.limits.length d0) ∧ w'.cell? ⟨w.heap.size, 2, none⟩ = some (.int .i64 x.repeats) ∧ w'.cell? ⟨w.heap.size, 3, none⟩ = some (.int .i64 x.bonus) ∧ w'.cell? ⟨w.heap.size, 4, none⟩ = some (.int .i64 x.keeps) ∧ w'.cell? ⟨w.heap.size, 5, none⟩ = some (.int .i64 x.fall)) ∧ (w'.cell? ⟨b, o + k * 3, none⟩ = some (.slice Aa it.names.length ca) ∧ w'.cell? ⟨b, o + k * 3 + 1, none⟩ = some (.slice Ab it.marks.length cb) ∧ w'.cell? ⟨b, o + k * 3 + 2, none⟩ = some (.bool it.late))) (first | (with_reducible exact ⟨(B0w.kept kD).six.1, HC3.out _ (k6.trans kD)⟩) | (with_reducible exact ⟨(B0w.kept kE).six.1, HC3.out _ (k6.trans kE)⟩) | (with_reducible exact hS9) | (with_reducible exact hS8)) (first | (go_at_call 58; (with_reducible refine C1.out.mono ?_); rintro e w8 ⟨v8, rfl, o8, on8⟩; have k8 := on8.above (k6.trans kE) (fun b hb => by rw [List.mem_singleton] at hb; subst hb; exact g6h.1); have hS8 := (⟨(B0v.kept k8).six.1, HC3.out _ k8⟩ : _ ∧ _); have r8 := items_of o8.src ((GoodP.insert (HGOOD.out.without k) ⟨HYG.out.1, HYG.out.2⟩ m).kept k8); rw [HIN.out] at r8; have R8 := Lib.hid r8; clear r8) | (go_at_call 47; refine (asProgramme_any _ _ x X _ (H0.out.kept (K1.trans k8)) R8.out HWA.out (by omega)).mono ?_; rintro e w9 ⟨v9, S9, rfl, o9, k9⟩; have k8' := k8; have kk9 := k8.trans k9; have hS9 := (⟨(B0v.kept kk9).six.1, HC3.out _ kk9⟩ : _ ∧ _)))
  rename_i hheld
  clear hheld
  all_goals
    go_wp2_with fail
    go_ret2
    refine ⟨_, S9, ret_vb3 HDR.out.symm, ?_, K1.trans kk9⟩
    have e9 : mvV x its (k : Int) (m : Int) = onT (ifB x X) (lated X) := by unfold mvV; rw [HDR.out, HML.out]
    rw [e9]
    have hz1 := K1.size
    have hz2 := k8'.size
    exact o9.base (by omega)
end Go.Proofs.Ytapmlnpdjdneoaa

/- An item's marks. -/
namespace Go.Proofs.Ytapmlnpdjdneoaa
set_option linter.unusedVariables false
set_option linter.unusedSimpArgs false
open Go.RowKit

def nextM (k : Int) (x : ItemD) : Int := k + x.names.length + x.marks.length
def markM (k : Int) (x : ItemD) : ItemD := ⟨marksS k x.names.length, marksI (k + x.names.length) x.marks.length, x.late⟩
set_option maxHeartbeats 1000000 in
theorem markItem_any (v : Value) (x : ItemD) (k : Int) (w : World) (base : Nat) (h : OwnT w base v x) (hk : 1 ≤ k) (hk2 : k ≤ 137438953472) (hn : x.names.length ≤ 1048576) (hm : x.marks.length ≤ 1048576) :
    Calls Try.prog 28 #[v, .int .i64 k] w fun e w' => e = .returned (.int .i64 (nextM k x)) ∧ OwnT w' base v (markM k x) ∧ Only (fpA v) w w' := by
  obtain ⟨nv, mv, rfl, o1, o2, nd⟩ := h
  obtain ⟨A, c, rfl, _, _, _⟩ := own_form o1.1
  obtain ⟨A2, c2, rfl, _, _, _⟩ := own_form o2
  have ND := Lib.hid nd
  rw [fpA_item] at nd
  have HD := Lib.hid (List.nodup_append.1 nd).2.2
  have O1 := Lib.hid o1
  have O2 := Lib.hid o2
  have B0 := Box.new w w.heap.size 52 #[.slice A x.names.length c, .slice A2 x.marks.length c2, .bool x.late] rfl
  have K0 : Kept w (w.alloc (.cells #[.slice A x.names.length c, .slice A2 x.marks.length c2, .bool x.late] 52)) := (Kept.refl w).alloc _
  have F1 := Lib.hid (own_fp o1.1)
  have F2 := Lib.hid (own_fp o2)
  clear nd o1 o2
  go_enter Try.func28, Try.ntmps28
  go_wp2_with fail
  refine (markStringS_any _ x.names _ _ base (O1.out.kept K0) hk (by omega) hn).mono ?_
  rintro e w1 ⟨rfl, o1, on1⟩
  have B1 := B0.only on1 (fun hb => by have := F1.out _ hb; omega)
  obtain ⟨x0, y0⟩ := B1.three
  go_wp2_with fail
  clear x0 y0
  refine (markIntS_any _ x.marks _ _ base ((O2.out.kept K0).only on1 (fun b hb hb' => HD.out b hb' b hb rfl)) (by omega) (by omega) hm).mono ?_
  rintro e w2 ⟨rfl, o2, on2⟩
  go_wp2_with fail
  go_ret
  refine ⟨ret_int (by unfold nextM; rfl), ⟨_, _, rfl, ?_, ?_, ND.out⟩, ?_⟩
  · exact o1.only on2 (fun b hb hb' => HD.out b hb b hb' rfl)
  · exact o2
  · rw [fpA_item]
    exact (K0.only _).trans ((on1.mono (fun b hb => List.mem_append_left _ hb)).trans (on2.mono (fun b hb => List.mem_append_right _ hb)))
end Go.Proofs.Ytapmlnpdjdneoaa

/- Programmes: MoveItem, the law. -/
namespace Go.Proofs.Ytapmlnpdjdneoaa
set_option linter.unusedVariables false
set_option linter.unusedSimpArgs false
open Go.RowKit

set_option maxHeartbeats 4000000 in
theorem lawMoveItem_any {w : World} {v0 : Value} {v1 : Value} (z0 : CodeD) (z1 : List ItemD) (a2 : Int) (a3 : Int) (h0 : CodeAt w v0 z0) (h1 : ItemsAt w v1 z1) (_ : (Lit.int .i64 a2).wf = true) (_ : (Lit.int .i64 a3).wf = true) :
    Calls Try.prog 6 #[v0, v1, .int .i64 a2, .int .i64 a3] w fun e w' => e = .returned (.bool true) ∧ Kept w w' := by
  have H0 := Lib.hid h0
  obtain ⟨n0, m0, rfl, p0, q0⟩ := h0
  obtain ⟨A0, c0, rfl, _⟩ := p0.1.out
  obtain ⟨D0, d0, rfl, _⟩ := q0.out
  clear p0 q0
  have H1 := Lib.hid h1
  clear h1
  go_enter Try.func6, Try.ntmps6
  have K0 := Kept.refl w
  go_wp2_with fail
  obtain ⟨wb1, hwb1⟩ : ∃ w' : World, w' = w.alloc (.cells #[.slice A0 z0.elems.length c0, .slice D0 z0.limits.length d0, .int .i64 z0.repeats, .int .i64 z0.bonus, .int .i64 z0.keeps, .int .i64 z0.fall] 37) := ⟨_, rfl⟩
  rw [← hwb1]
  have KB0 : Kept w wb1 := hwb1 ▸ (Kept.refl w).alloc _
  have B0 : Box wb1 (w.heap.size) 37 #[.slice A0 z0.elems.length c0, .slice D0 z0.limits.length d0, .int .i64 z0.repeats, .int .i64 z0.bonus, .int .i64 z0.keeps, .int .i64 z0.fall] := hwb1 ▸ Box.new w (w.heap.size) 37 #[.slice A0 z0.elems.length c0, .slice D0 z0.limits.length d0, .int .i64 z0.repeats, .int .i64 z0.bonus, .int .i64 z0.keeps, .int .i64 z0.fall] rfl
  have szwb1 : wb1.heap.size = w.heap.size + 1 := by rw [hwb1]; simp
  clear hwb1
  have Kwb1 := K0.trans KB0
  refine (szCode_any _ z0 _ _ (H0.out.kept Kwb1) (by omega) (by omega)).mono ?_
  rintro e w1 ⟨rfl, k1⟩
  replace B0 := B0.kept k1
  have sz1 := k1.size
  have K1 := Kwb1.trans k1
  by_cases hbig0 : ((z0.size : Nat) : Int) ≤ 1048576
  case neg =>
    have e1 : lessOr 1048576 (z0.size) = -1 := by unfold lessOr; exact if_neg (by omega)
    rw [e1]
    go_wp2_with fail
    go_ret
    exact ⟨rfl, K1⟩
  have e1 : lessOr 1048576 (z0.size) = 1048576 - (z0.size : Int) := by unfold lessOr; exact if_pos (by omega)
  rw [e1]
  clear e1
  have hparts0 := code_parts z0
  obtain ⟨x0, y0⟩ := B0.six
  go_wp2_with fail
  clear x0 y0
  refine (szItemS_any _ z1 _ _ (H1.out.kept K1) (by omega) (by omega)).mono ?_
  rintro e w2 ⟨rfl, k2⟩
  replace B0 := B0.kept k2
  have sz2 := k2.size
  have K2 := K1.trans k2
  by_cases hbig1 : ((itemsSize z1 : Nat) : Int) ≤ (1048576 - (z0.size : Int))
  case neg =>
    have e1 : lessOr (1048576 - (z0.size : Int)) (itemsSize z1) = -1 := by unfold lessOr; exact if_neg (by omega)
    rw [e1]
    go_wp2_with fail
    go_ret
    exact ⟨rfl, K2⟩
  have e1 : lessOr (1048576 - (z0.size : Int)) (itemsSize z1) = (1048576 - (z0.size : Int)) - (itemsSize z1 : Int) := by unfold lessOr; exact if_pos (by omega)
  rw [e1]
  clear e1
  have hX := mvV_size z0 z1 a2 a3
  obtain ⟨x0, y0⟩ := B0.six
  go_wp2_with fail
  clear x0 y0
  refine (toCode_any _ z0 _ (H0.out.kept K2) (by omega) (by omega)).mono ?_
  rintro e w3 ⟨u3, rfl, o3, k3⟩
  replace B0 := B0.kept k3
  have sz3 := k3.size
  have K3 := K2.trans k3
  have R3 := Lib.hid o3.code
  clear o3
  obtain ⟨x0, y0⟩ := B0.six
  go_wp2_with fail
  clear x0 y0
  refine (toItemS_any _ z1 _ (H1.out.kept K3) (by omega)).mono ?_
  rintro e w4 ⟨u4, S4, rfl, o4, k4⟩
  replace B0 := B0.kept k4
  replace R3 := Lib.hid (R3.out.kept k4)
  have sz4 := k4.size
  have K4 := K3.trans k4
  have R4 := Lib.hid o4.items
  clear o4
  obtain ⟨x0, y0⟩ := B0.six
  go_wp2_with fail
  clear x0 y0
  refine (specMoveItem_any _ _ z0 z1 _ _ _ R3.out R4.out).mono ?_
  rintro e w5 ⟨u5, S5, rfl, o5, k5⟩
  replace B0 := B0.kept k5
  replace R3 := Lib.hid (R3.out.kept k5)
  replace R4 := Lib.hid (R4.out.kept k5)
  have sz5 := k5.size
  have K5 := K4.trans k5
  clear R3
  clear R4
  have RS := Lib.hid o5.items
  clear o5
  have KS := Kept.refl w5
  obtain ⟨x0, y0⟩ := B0.six
  go_wp2_with fail
  clear x0 y0
  refine (toCode_any _ z0 _ (H0.out.kept K5) (by omega) (by omega)).mono ?_
  rintro e w6 ⟨u6, rfl, o6, k6⟩
  replace B0 := B0.kept k6
  replace KS := KS.trans k6
  have sz6 := k6.size
  have K6 := K5.trans k6
  obtain ⟨n6, m6, rfl, p6, q6, nd6⟩ := o6
  obtain ⟨A6, c6, rfl, _⟩ := own_form p6.1
  obtain ⟨D6, d6, rfl, _⟩ := own_form q6
  have o6 : OwnK w6 _ (.agg #[.slice A6 z0.elems.length c6, .slice D6 z0.limits.length d6, .int .i64 z0.repeats, .int .i64 z0.bonus, .int .i64 z0.keeps, .int .i64 z0.fall]) z0 := ⟨_, _, rfl, p6, q6, nd6⟩
  clear p6 q6 nd6
  have F6 := Lib.hid o6.fps
  have O6 := Lib.hid o6
  clear o6
  obtain ⟨x0, y0⟩ := B0.six
  have l0 := B0.lt
  go_wp2_with fail
  clear x0 y0 l0
  obtain ⟨wb2, hwb2⟩ : ∃ w' : World, w' = w6.alloc (.cells #[.slice A6 z0.elems.length c6, .slice D6 z0.limits.length d6, .int .i64 z0.repeats, .int .i64 z0.bonus, .int .i64 z0.keeps, .int .i64 z0.fall] 43) := ⟨_, rfl⟩
  rw [← hwb2]
  have KB6 : Kept w6 wb2 := hwb2 ▸ (Kept.refl w6).alloc _
  have B6 : Box wb2 (w6.heap.size) 43 #[.slice A6 z0.elems.length c6, .slice D6 z0.limits.length d6, .int .i64 z0.repeats, .int .i64 z0.bonus, .int .i64 z0.keeps, .int .i64 z0.fall] := hwb2 ▸ Box.new w6 (w6.heap.size) 43 #[.slice A6 z0.elems.length c6, .slice D6 z0.limits.length d6, .int .i64 z0.repeats, .int .i64 z0.bonus, .int .i64 z0.keeps, .int .i64 z0.fall] rfl
  have szwb2 : wb2.heap.size = w6.heap.size + 1 := by rw [hwb2]; simp
  clear hwb2
  replace B0 := B0.kept KB6
  replace O6 := Lib.hid (O6.out.kept KB6)
  replace KS := KS.trans KB6
  have Kwb2 := K6.trans KB6
  refine (toItemS_any _ z1 _ (H1.out.kept Kwb2) (by omega)).mono ?_
  rintro e w7 ⟨u7, S7, rfl, o7, k7⟩
  replace B0 := B0.kept k7
  replace B6 := B6.kept k7
  replace O6 := Lib.hid (O6.out.kept k7)
  replace KS := KS.trans k7
  have sz7 := k7.size
  have K7 := Kwb2.trans k7
  obtain ⟨cs7, oc7, rfl, hF7⟩ := o7.toC
  have O7 := Lib.hid oc7
  have F7 := Lib.hid hF7
  clear o7 oc7 hF7
  obtain ⟨x0, y0⟩ := B0.six
  obtain ⟨x6, y6⟩ := B6.six
  go_wp2_with fail
  clear x0 y0 x6 y6
  refine (implMoveItem_any _ _ z0 z1 _ _ _ O6.out.code O7.out.items).mono ?_
  rintro e w8 ⟨u8, S8, rfl, o8, k8⟩
  replace B0 := B0.kept k8
  replace B6 := B6.kept k8
  replace O6 := Lib.hid (O6.out.kept k8)
  replace O7 := Lib.hid (O7.out.kept k8)
  replace KS := KS.trans k8
  have sz8 := k8.size
  have K8 := K7.trans k8
  obtain ⟨cs8, oc8, rfl, hF8⟩ := o8.toC
  have O8 := Lib.hid oc8
  have F8 := Lib.hid hF8
  clear o8 oc8 hF8
  obtain ⟨x0, y0⟩ := B0.six
  obtain ⟨x6, y6⟩ := B6.six
  go_wp2_with fail
  clear x0 y0 x6 y6
  refine (eqItemS_any _ _ (mvV z0 z1 a2 a3) _ O8.out.items (RS.out.kept KS)).mono ?_
  rintro e w9 ⟨rfl, k9⟩
  replace B0 := B0.kept k9
  replace B6 := B6.kept k9
  replace O6 := Lib.hid (O6.out.kept k9)
  replace O7 := Lib.hid (O7.out.kept k9)
  replace O8 := Lib.hid (O8.out.kept k9)
  replace KS := KS.trans k9
  have sz9 := k9.size
  have K9 := K8.trans k9
  obtain ⟨x0, y0⟩ := B0.six
  obtain ⟨x6, y6⟩ := B6.six
  go_wp2_with fail
  clear x0 y0 x6 y6
  have KDw9 : Kept w9 w9.drew := (Kept.refl _).drew
  replace B0 := B0.kept KDw9
  replace B6 := B6.kept KDw9
  replace O6 := Lib.hid (O6.out.kept KDw9)
  replace O7 := Lib.hid (O7.out.kept KDw9)
  replace O8 := Lib.hid (O8.out.kept KDw9)
  replace KS := KS.trans KDw9
  have KKw9 := K9.trans KDw9
  have szdw9 : w9.heap.size ≤ w9.drew.heap.size := KDw9.size
  go_region_held3 (fun w' => (w'.cell? ⟨w.heap.size, 0, none⟩ = some (.slice A0 z0.elems.length c0) ∧ w'.cell? ⟨w.heap.size, 1, none⟩ = some (.slice D0 z0.limits.length d0) ∧ w'.cell? ⟨w.heap.size, 2, none⟩ = some (.int .i64 z0.repeats) ∧ w'.cell? ⟨w.heap.size, 3, none⟩ = some (.int .i64 z0.bonus) ∧ w'.cell? ⟨w.heap.size, 4, none⟩ = some (.int .i64 z0.keeps) ∧ w'.cell? ⟨w.heap.size, 5, none⟩ = some (.int .i64 z0.fall)) ∧ (w'.cell? ⟨w6.heap.size, 0, none⟩ = some (.slice A6 z0.elems.length c6) ∧ w'.cell? ⟨w6.heap.size, 1, none⟩ = some (.slice D6 z0.limits.length d6) ∧ w'.cell? ⟨w6.heap.size, 2, none⟩ = some (.int .i64 z0.repeats) ∧ w'.cell? ⟨w6.heap.size, 3, none⟩ = some (.int .i64 z0.bonus) ∧ w'.cell? ⟨w6.heap.size, 4, none⟩ = some (.int .i64 z0.keeps) ∧ w'.cell? ⟨w6.heap.size, 5, none⟩ = some (.int .i64 z0.fall))) (first | exact ⟨B0.six.1, B6.six.1⟩ | exact ⟨(B0.kept (by assumption)).six.1, (B6.kept (by assumption)).six.1⟩)
    (first | (go_at_call 18; refine (toCode_any _ z0 _ (H0.out.kept KKw9) (by omega) (by omega)).mono ?_; rintro e w10 ⟨u10, rfl, o10, k10⟩) | (go_at_call 20; refine (eqCode_any _ _ z0 _ (O6.out.code.kept k10) o10.code).mono ?_; rintro e w11 ⟨rfl, k11⟩; have kk11 := k10.trans k11))
  clear o10
  replace B0 := B0.kept kk11
  replace B6 := B6.kept kk11
  replace O6 := Lib.hid (O6.out.kept kk11)
  replace O7 := Lib.hid (O7.out.kept kk11)
  replace O8 := Lib.hid (O8.out.kept kk11)
  replace KS := KS.trans kk11
  have sz11 := kk11.size
  have K11 := KKw9.trans kk11
  obtain ⟨x0, y0⟩ := B0.six
  obtain ⟨x6, y6⟩ := B6.six
  go_wp2_with fail
  clear x0 y0 x6 y6
  refine (toItemS_any _ z1 _ (H1.out.kept K11) (by omega)).mono ?_
  rintro e w12 ⟨u12, S12, rfl, o12, k12⟩
  replace B0 := B0.kept k12
  replace B6 := B6.kept k12
  replace O6 := Lib.hid (O6.out.kept k12)
  replace O7 := Lib.hid (O7.out.kept k12)
  replace O8 := Lib.hid (O8.out.kept k12)
  replace KS := KS.trans k12
  have sz12 := k12.size
  have K12 := K11.trans k12
  have R12 := Lib.hid o12.items
  clear o12
  obtain ⟨x0, y0⟩ := B0.six
  obtain ⟨x6, y6⟩ := B6.six
  go_wp2_with fail
  clear x0 y0 x6 y6
  refine (eqItemS_any _ _ (z1) _ O7.out.items R12.out).mono ?_
  rintro e w13 ⟨rfl, k13⟩
  replace B0 := B0.kept k13
  replace B6 := B6.kept k13
  replace R12 := Lib.hid (R12.out.kept k13)
  replace O6 := Lib.hid (O6.out.kept k13)
  replace O7 := Lib.hid (O7.out.kept k13)
  replace O8 := Lib.hid (O8.out.kept k13)
  replace KS := KS.trans k13
  have sz13 := k13.size
  have K13 := K12.trans k13
  clear R12
  have nb6 : (1) ≤ nextC (1) z0 ∧ nextC (1) z0 ≤ (1) + 5242880 := ⟨by unfold nextC; omega, by unfold nextC; omega⟩
  obtain ⟨x0, y0⟩ := B0.six
  obtain ⟨x6, y6⟩ := B6.six
  go_wp2_with fail
  clear x0 y0 x6 y6
  refine (markCode_any _ z0 _ _ _ O6.out (by omega) (by omega) (by omega) (by omega)).mono ?_
  rintro e w14 ⟨rfl, o14, on14⟩
  have sz14 := on14.size
  replace B0 := B0.only on14 (fun hb => by have := F6.out _ hb; omega)
  replace B6 := B6.only on14 (fun hb => by have := F6.out _ hb; omega)
  replace O7 := Lib.hid (O7.out.only on14 (fun b hb hb' => by have := F7.out b hb; have := F6.out b hb'; omega))
  replace O8 := Lib.hid (O8.out.only on14 (fun b hb hb' => by have := F8.out b hb; have := F6.out b hb'; omega))
  replace KS := on14.above KS (fun b hb => by have := F6.out b hb; omega)
  have K14 := on14.above K13 (fun b hb => by have := F6.out b hb; omega)
  replace O6 := Lib.hid o14
  clear o14 on14
  have nb7 := nk_bd (nextC (1) z0) z1
  obtain ⟨x0, y0⟩ := B0.six
  obtain ⟨x6, y6⟩ := B6.six
  go_wp2_with fail
  clear x0 y0 x6 y6
  refine (markItemS_any _ z1 cs7 _ _ _ O7.out (by omega) (by omega) (by omega)).mono ?_
  rintro e w15 ⟨rfl, o15, on15⟩
  have sz15 := on15.size
  replace B0 := B0.only on15 (fun hb => by have := F7.out _ hb; omega)
  replace B6 := B6.only on15 (fun hb => by have := F7.out _ hb; omega)
  replace O6 := Lib.hid (O6.out.only on15 (fun b hb hb' => by have := F6.out b hb; have := F7.out b hb'; omega))
  replace O8 := Lib.hid (O8.out.only on15 (fun b hb hb' => by have := F8.out b hb; have := F7.out b hb'; omega))
  replace KS := on15.above KS (fun b hb => by have := F7.out b hb; omega)
  have K15 := on15.above K14 (fun b hb => by have := F7.out b hb; omega)
  replace O7 := Lib.hid o15
  clear o15 on15
  obtain ⟨x0, y0⟩ := B0.six
  obtain ⟨x6, y6⟩ := B6.six
  go_wp2_with fail
  clear x0 y0 x6 y6
  refine (eqItemS_any _ _ (mvV z0 z1 a2 a3) _ O8.out.items (RS.out.kept KS)).mono ?_
  rintro e w16 ⟨rfl, k16⟩
  replace B0 := B0.kept k16
  replace B6 := B6.kept k16
  replace O6 := Lib.hid (O6.out.kept k16)
  replace O7 := Lib.hid (O7.out.kept k16)
  replace O8 := Lib.hid (O8.out.kept k16)
  replace KS := KS.trans k16
  have sz16 := k16.size
  have K16 := K15.trans k16
  have nbR := nk_bd 1 (mvV z0 z1 a2 a3)
  obtain ⟨x0, y0⟩ := B0.six
  obtain ⟨x6, y6⟩ := B6.six
  go_wp2_with fail
  clear x0 y0 x6 y6
  refine (markItemS_any _ (mvV z0 z1 a2 a3) cs8 _ _ _ O8.out (by omega) (by omega) (by omega)).mono ?_
  rintro e w17 ⟨rfl, o17, on17⟩
  have sz17 := on17.size
  replace B0 := B0.only on17 (fun hb => by have := F8.out _ hb; omega)
  replace B6 := B6.only on17 (fun hb => by have := F8.out _ hb; omega)
  replace O6 := Lib.hid (O6.out.only on17 (fun b hb hb' => by have := F6.out b hb; have := F8.out b hb'; omega))
  replace O7 := Lib.hid (O7.out.only on17 (fun b hb hb' => by have := F7.out b hb; have := F8.out b hb'; omega))
  replace KS := on17.above KS (fun b hb => by have := F8.out b hb; omega)
  have K17 := on17.above K16 (fun b hb => by have := F8.out b hb; omega)
  replace O8 := Lib.hid o17
  clear o17 on17
  obtain ⟨x0, y0⟩ := B0.six
  obtain ⟨x6, y6⟩ := B6.six
  go_wp2_with fail
  clear x0 y0 x6 y6
  refine (heldItemS_any _ (mvV z0 z1 a2 a3) _ _ O8.out.items (by omega) (by omega) (by omega)).mono ?_
  rintro e w18 ⟨rfl, k18⟩
  replace B0 := B0.kept k18
  replace B6 := B6.kept k18
  replace O6 := Lib.hid (O6.out.kept k18)
  replace O7 := Lib.hid (O7.out.kept k18)
  replace O8 := Lib.hid (O8.out.kept k18)
  replace KS := KS.trans k18
  have sz18 := k18.size
  have K18 := K17.trans k18
  obtain ⟨x0, y0⟩ := B0.six
  obtain ⟨x6, y6⟩ := B6.six
  go_wp2_with fail
  clear x0 y0 x6 y6
  refine (toCode_any _ z0 _ (H0.out.kept K18) (by omega) (by omega)).mono ?_
  rintro e w19 ⟨u19, rfl, o19, k19⟩
  replace B0 := B0.kept k19
  replace B6 := B6.kept k19
  replace O6 := Lib.hid (O6.out.kept k19)
  replace O7 := Lib.hid (O7.out.kept k19)
  replace O8 := Lib.hid (O8.out.kept k19)
  replace KS := KS.trans k19
  have sz19 := k19.size
  have K19 := K18.trans k19
  have R19 := Lib.hid o19.code
  clear o19
  obtain ⟨x0, y0⟩ := B0.six
  obtain ⟨x6, y6⟩ := B6.six
  go_wp2_with fail
  clear x0 y0 x6 y6
  refine (toItemS_any _ z1 _ (H1.out.kept K19) (by omega)).mono ?_
  rintro e w20 ⟨u20, S20, rfl, o20, k20⟩
  replace B0 := B0.kept k20
  replace B6 := B6.kept k20
  replace R19 := Lib.hid (R19.out.kept k20)
  replace O6 := Lib.hid (O6.out.kept k20)
  replace O7 := Lib.hid (O7.out.kept k20)
  replace O8 := Lib.hid (O8.out.kept k20)
  replace KS := KS.trans k20
  have sz20 := k20.size
  have K20 := K19.trans k20
  have R20 := Lib.hid o20.items
  clear o20
  obtain ⟨x0, y0⟩ := B0.six
  obtain ⟨x6, y6⟩ := B6.six
  go_wp2_with fail
  clear x0 y0 x6 y6
  refine (implMoveItem_any _ _ z0 z1 _ _ _ R19.out R20.out).mono ?_
  rintro e w21 ⟨u21, S21, rfl, o21, k21⟩
  replace B0 := B0.kept k21
  replace B6 := B6.kept k21
  replace R19 := Lib.hid (R19.out.kept k21)
  replace R20 := Lib.hid (R20.out.kept k21)
  replace O6 := Lib.hid (O6.out.kept k21)
  replace O7 := Lib.hid (O7.out.kept k21)
  replace O8 := Lib.hid (O8.out.kept k21)
  replace KS := KS.trans k21
  have sz21 := k21.size
  have K21 := K20.trans k21
  clear R19
  clear R20
  have RH := Lib.hid o21.items
  clear o21
  obtain ⟨x0, y0⟩ := B0.six
  obtain ⟨x6, y6⟩ := B6.six
  go_wp2_with fail
  clear x0 y0 x6 y6
  refine (eqItemS_any _ _ (mvV z0 z1 a2 a3) _ RH.out (RS.out.kept KS)).mono ?_
  rintro e w22 ⟨rfl, k22⟩
  replace B0 := B0.kept k22
  replace B6 := B6.kept k22
  replace RH := Lib.hid (RH.out.kept k22)
  replace O6 := Lib.hid (O6.out.kept k22)
  replace O7 := Lib.hid (O7.out.kept k22)
  replace O8 := Lib.hid (O8.out.kept k22)
  replace KS := KS.trans k22
  have sz22 := k22.size
  have K22 := K21.trans k22
  obtain ⟨x0, y0⟩ := B0.six
  obtain ⟨x6, y6⟩ := B6.six
  go_wp2_with fail
  clear x0 y0 x6 y6
  refine (heldItemS_any _ (mvV z0 z1 a2 a3) _ _ O8.out.items (by omega) (by omega) (by omega)).mono ?_
  rintro e w23 ⟨rfl, k23⟩
  replace B0 := B0.kept k23
  replace B6 := B6.kept k23
  replace RH := Lib.hid (RH.out.kept k23)
  replace O6 := Lib.hid (O6.out.kept k23)
  replace O7 := Lib.hid (O7.out.kept k23)
  replace O8 := Lib.hid (O8.out.kept k23)
  replace KS := KS.trans k23
  have sz23 := k23.size
  have K23 := K22.trans k23
  go_wp2_with fail
  go_ret
  exact ⟨rfl, K23⟩
end Go.Proofs.Ytapmlnpdjdneoaa

/- Arguments opened: a slice of integers. -/
namespace Go.Proofs.Ytapmlnpdjdneoaa
set_option linter.unusedVariables false
set_option linter.unusedSimpArgs false
set_option maxRecDepth 100000
open Go.ChangeShapes Go.WideShapes Go.ChangeAt Go.RowKit

theorem block_lt {w : World} {a : Addr} {v : Value} (h : w.cell? a = some v) : a.block < w.heap.size := by
  rcases Nat.lt_or_ge a.block w.heap.size with hlt | hge
  · exact hlt
  · unfold World.cell? at h
    rw [Array.getElem?_eq_none hge] at h
    cases h
theorem add_at {b o : Nat} (i : Nat) : (⟨b, o, none⟩ : Addr).add i = ⟨b, o + i, none⟩ := by
  unfold Addr.add
  split <;> simp_all
theorem spot_of {w : World} {x : Addr} {u : Value} (h : w.cell? (x.add 0) = some u) : ∃ b o, x = ⟨b, o, none⟩ := by
  obtain ⟨b, o, s⟩ := x
  have hs : s = none := by simpa [Addr.add] using World.cell?_spot h
  exact ⟨b, o, by rw [hs]⟩
theorem seq_of_cells {w : World} {x : Addr} {len cap size : Nat} {xs : List Value} (hl : len ≤ cap) (hm : cap ≤ maxLen) (hlen : xs.length = len * size) (hsz : 0 < size) (h : ∀ j u, xs[j]? = some u → w.cell? (x.add j) = some u) : Seq w (.slice (some x) len cap) len xs := by
  refine ⟨_, cap, rfl, hl, hm, (fun h => by cases h), fun hn => ?_⟩
  have h0 : 0 < xs.length := by rw [hlen]; exact Nat.mul_pos hn hsz
  obtain ⟨b, o, rfl⟩ := spot_of (h 0 _ (List.getElem?_eq_getElem h0))
  have hc := h 0 _ (List.getElem?_eq_getElem h0)
  refine ⟨b, o, rfl, ?_, fun j u hu => by rw [← add_at]; exact h j u hu⟩
  rw [add_at] at hc
  exact block_lt hc
section
variable {H : Type} {enc : TypeId × Value → H} {W : World} {r : Reach} {b0 base : Nat} {spare : Nat → Bool} {held : Bool} {v : Value} {d : DataW H} {p : List MemPlace} {x : DataW H × List MemPlace}
theorem ints_of_trod {fuel : Nat} (hf : DataW.trod enc Try.prog W base spare held fuel 35 [v] = some x) : ∃ zs, Ints W v zs := by
  rcases open_ints Try.underlying35 Try.underlying3 (by kernel_rfl) hf with ⟨hcs, _⟩ | ⟨ad, len0, cap0, zs, hcs, _, hl, hm, hz, _, hcell, hwz⟩
  · simp at hcs
    subst hcs
    exact ⟨[], Seq.nil _⟩
  · simp at hcs
    subst hcs
    have hge : len0 ≤ zs.length := by rw [hz]; split <;> omega
    refine ⟨zs.take len0, ?_⟩
    have hlen : (zs.take len0).length = len0 := by rw [List.length_take]; omega
    have hS := seq_of_cells (w := W) (x := ad) (len := len0) (cap := cap0) (size := 1) (xs := (zs.take len0).map (Value.int .i64)) hl hm (by rw [List.length_map, hlen]; omega) (by omega) (fun j u hu => by
      rw [List.getElem?_map] at hu
      obtain ⟨z, hz1, rfl⟩ := Option.map_eq_some_iff.1 hu
      have hj : j < len0 := by
        have := (List.getElem?_eq_some_iff.1 hz1).1
        rw [hlen] at this
        exact this
      rw [List.getElem?_take_of_lt hj] at hz1
      have := hcell j (by omega)
      rw [List.getD_eq_getElem?_getD, hz1] at this
      exact this)
    unfold Ints
    rw [hlen]
    exact hS
theorem open_I (hv : Value.okWide Try.prog W r b0 35 v) (h : DataW.Trod enc Try.prog W base spare held 35 v d p) : ∃ zs, Ints W v zs := by
  obtain ⟨a0, len0, cap0, rfl⟩ := okWide_slice Try.underlying35 hv
  obtain ⟨fuel, hf⟩ := h
  exact ints_of_trod hf
end
end Go.Proofs.Ytapmlnpdjdneoaa

/- Arguments opened: items and lists of items. -/
namespace Go.Proofs.Ytapmlnpdjdneoaa
set_option linter.unusedVariables false
set_option linter.unusedSimpArgs false
set_option maxRecDepth 100000
open Go.ChangeShapes Go.WideShapes Go.ChangeAt Go.RowKit Go.Joins Go.Deep
section
variable {H : Type} {enc : TypeId × Value → H} {W : World} {r : Reach} {b0 base : Nat} {spare : Nat → Bool} {held : Bool} {v : Value} {d : DataW H} {p : List MemPlace} {x : DataW H × List MemPlace}
theorem strs_of_trod {fuel : Nat} (hf : DataW.trod enc Try.prog W base spare held fuel 24 [v] = some x) : ∃ zs, Strs W v zs := by
  rcases open_strings Try.underlying24 Try.underlying9 (by kernel_rfl) hf with ⟨hcs, _⟩ | ⟨ad, len0, cap0, zs, hcs, _, hl, hm, hz, _, hcell, hwz⟩
  · simp at hcs
    subst hcs
    exact ⟨[], Seq.nil _, by simp⟩
  · simp at hcs
    subst hcs
    have hge : len0 ≤ zs.length := by rw [hz]; split <;> omega
    refine ⟨zs.take len0, ?_, fun z hz => hwz z (List.mem_of_mem_take hz)⟩
    have hlen : (zs.take len0).length = len0 := by rw [List.length_take]; omega
    have hS := seq_of_cells (w := W) (x := ad) (len := len0) (cap := cap0) (size := 1) (xs := (zs.take len0).map Value.string) hl hm (by rw [List.length_map, hlen]; omega) (by omega) (fun j u hu => by
      rw [List.getElem?_map] at hu
      obtain ⟨z, hz1, rfl⟩ := Option.map_eq_some_iff.1 hu
      have hj : j < len0 := by
        have := (List.getElem?_eq_some_iff.1 hz1).1
        rw [hlen] at this
        exact this
      rw [List.getElem?_take_of_lt hj] at hz1
      have := hcell j (by omega)
      rw [List.getD_eq_getElem?_getD, hz1] at this
      exact this)
    rw [hlen]
    exact hS
theorem item_of_parts {v0 v1 v2 : Value} {y0 y1 y2 : DataW H × List MemPlace} {n : Nat} (h0 : DataW.trod enc Try.prog W base spare held n 24 [v0] = some y0) (h1 : DataW.trod enc Try.prog W base spare held n 35 [v1] = some y1) (h2 : DataW.trod enc Try.prog W base spare held n 4 [v2] = some y2) :
    ∃ it : ItemD, v2 = .bool it.late ∧ Strs W v0 it.names ∧ Ints W v1 it.marks := by
  obtain ⟨ns, q0⟩ := strs_of_trod h0
  obtain ⟨ms, q1⟩ := ints_of_trod h1
  obtain ⟨b, q2, _⟩ := DataW.trod_bool Try.underlying4 h2
  simp at q2
  exact ⟨⟨ns, ms, b⟩, q2, q0, q1⟩
theorem open_T (hv : Value.okWide Try.prog W r b0 49 v) (h : DataW.Trod enc Try.prog W base spare held 49 v d p) : ∃ it, ItemAt W v it := by
  obtain ⟨v0, v1, v2, y0, y1, y2, n, rfl, _, _, h0, h1, h2⟩ := open_agg3 Try.underlying49 (by kernel_rfl) (by kernel_rfl) hv h
  obtain ⟨it, rfl, q0, q1⟩ := item_of_parts h0 h1 h2
  exact ⟨it, _, _, rfl, q0, q1⟩
theorem open_L (hv : Value.okWide Try.prog W r b0 22 v) (h : DataW.Trod enc Try.prog W base spare held 22 v d p) : ∃ its, ItemsAt W v its := by
  obtain ⟨a0, len0, cap0, rfl⟩ := okWide_slice Try.underlying22 hv
  obtain ⟨fuel, hf⟩ := h
  have hC : Try.prog.cellsOf 49 = 3 := by kernel_rfl
  rcases open_slice Try.underlying22 hf with ⟨hcs, _⟩ | ⟨ad, len, cap, m, n, D, Pl, hcs, _, hl, hm, hmm, _, hi⟩
  · simp [Value.cells] at hcs
    obtain ⟨rfl, rfl, rfl⟩ := hcs
    exact ⟨[], [], rfl, Seq.nil _, by simp⟩
  · simp [Value.cells] at hcs
    obtain ⟨rfl, rfl, rfl⟩ := hcs
    have hge : len0 ≤ m := by rw [hmm]; split <;> omega
    have each : ∀ i : Fin len0, ∃ q : (Value × Value) × ItemD, (W.cell? (ad.add (i.1 * 3)) = some q.1.1 ∧ W.cell? ((ad.add (i.1 * 3)).add 1) = some q.1.2 ∧ W.cell? ((ad.add (i.1 * 3)).add 2) = some (.bool q.2.late)) ∧ Strs W q.1.1 q.2.names ∧ Ints W q.1.2 q.2.marks := by
      intro i
      obtain ⟨cs', hc, ht'⟩ := hi i.1 (by omega)
      rw [hC] at hc
      obtain ⟨_, hcl, hat⟩ := World.cells?_some hc
      obtain ⟨y0, y1, y2, n', _, _, h0, h1, h2⟩ := trod_struct3 Try.underlying49 ht'
      have hS : Try.prog.cellsOf 24 = 1 := by kernel_rfl
      have hI : Try.prog.cellsOf 35 = 1 := by kernel_rfl
      have hB : Try.prog.cellsOf 4 = 1 := by kernel_rfl
      match cs', hcl with
      | [x0, x1, x2], _ =>
        dsimp only at h0 h1 h2
        rw [hS] at h0
        rw [hI] at h1
        rw [hB] at h2
        obtain ⟨it, rfl, q0, q1⟩ := item_of_parts (v0 := x0) (v1 := x1) (v2 := x2) h0 h1 h2
        exact ⟨((x0, x1), it), ⟨hat 0 (by omega), hat 1 (by omega), hat 2 (by omega)⟩, q0, q1⟩
    refine ⟨List.ofFn fun i => (Classical.choose (each i)).2, List.ofFn fun i => (Classical.choose (each i)).1, by simp, ?_, ?_⟩
    · rw [List.length_ofFn]
      refine seq_of_cells (size := 3) hl hm (by rw [flat_length row3 3 (fun _ => rfl)]; simp) (by omega) (fun j u hu => ?_)
      have hj : j < len0 * 3 := by
        have := (List.getElem?_eq_some_iff.1 hu).1
        rw [flat_length row3 3 (fun _ => rfl)] at this
        simpa using this
      have hi3 : j / 3 < len0 := by omega
      have hsp := Classical.choose_spec (each ⟨j / 3, hi3⟩)
      have hz : (List.zip (List.ofFn fun i => (Classical.choose (each i)).1) (List.ofFn fun i => (Classical.choose (each i)).2))[j / 3]? = some (Classical.choose (each ⟨j / 3, hi3⟩)) := by
        rw [List.getElem?_zip_eq_some]
        constructor <;> rw [List.getElem?_ofFn, dif_pos hi3]
      have hfl := flat_get row3 3 (fun _ => rfl) (List.zip (List.ofFn fun i => (Classical.choose (each i)).1) (List.ofFn fun i => (Classical.choose (each i)).2)) (j / 3) (j % 3) (by omega)
      rw [show j / 3 * 3 + j % 3 = j from by omega, hu, hz] at hfl
      have hadd : ad.add j = (ad.add (j / 3 * 3)).add (j % 3) := by
        rw [Go.Deep.add_add]
        congr 1
        omega
      rw [hadd]
      have hm3 : j % 3 = 0 ∨ j % 3 = 1 ∨ j % 3 = 2 := by omega
      rcases hm3 with h | h | h <;> rw [h] at hfl ⊢
      · rw [show ∀ a : Addr, a.add 0 = a from fun a => by simp [Addr.add]]
        rw [hsp.1.1]
        simpa [row3] using hfl.symm
      · rw [hsp.1.2.1]
        simpa [row3] using hfl.symm
      · rw [hsp.1.2.2]
        simpa [row3] using hfl.symm
    · intro k nv mv it q1 q2
      rw [List.getElem?_ofFn] at q1 q2
      split at q1
      · rename_i hk
        rw [dif_pos hk] at q2
        injection q1 with q1
        injection q2 with q2
        have hsp := (Classical.choose_spec (each ⟨k, hk⟩)).2
        rw [q1, q2] at hsp
        exact hsp
      · cases q1
end
end Go.Proofs.Ytapmlnpdjdneoaa
