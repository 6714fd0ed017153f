/- Codes: DropElement. -/
import Derived.Test.YteebkplldggoiaaV11
import Derived.Test.YteebkplldggoiaaRowE2
namespace Go.Proofs.Yteebkplldggoiaa
open Go.RowKit

def dropC (x : CodeD) (k : Nat) : CodeD := { x with elems := x.elems.take k ++ x.elems.drop (k + 1) }
def drB (x : CodeD) (s : ByteArray) : Bool := feOk x s && codeB (dropC x (findV x.elems s).toNat)
def drV (x : CodeD) (s : ByteArray) : CodeD := if feOk x s then ifC (dropC x (findV x.elems s).toNat) else zeroC
theorem drV_no {x : CodeD} {s : ByteArray} (h : feOk x s = false) : drV x s = zeroC := by unfold drV; rw [h]; rfl
theorem drB_no {x : CodeD} {s : ByteArray} (h : feOk x s = false) : drB x s = false := by unfold drB; rw [h]; rfl
theorem drV_yes {x : CodeD} {s : ByteArray} {k : Nat} (h : feOk x s = true) (hk : findV x.elems s = k) : drV x s = ifC (dropC x k) := by unfold drV; rw [h, hk]; rfl
theorem drB_yes {x : CodeD} {s : ByteArray} {k : Nat} (h : feOk x s = true) (hk : findV x.elems s = k) : drB x s = codeB (dropC x k) := by unfold drB; rw [h, hk, Bool.true_and]; rfl
theorem drV_len (x : CodeD) (s : ByteArray) : (drV x s).elems.length ≤ 24 ∧ (drV x s).limits.length ≤ 5 := by
  by_cases h : feOk x s = true
  · unfold drV; rw [h]; exact ifC_len _
  · simp only [Bool.not_eq_true] at h
    rw [drV_no h]
    exact ⟨by simp [zeroC], by simp [zeroC]⟩
theorem feOk_code {x : CodeD} {s : ByteArray} (h : feOk x s = true) : codeB x = true := by unfold feOk at h; rw [Bool.and_eq_true] at h; exact h.1
theorem feOk_at {x : CodeD} {s : ByteArray} (h : feOk x s = true) : ∃ k : Nat, findV x.elems s = k ∧ k < x.elems.length := by
  have h2 : 0 ≤ findV x.elems s := by unfold feOk at h; rw [Bool.and_eq_true] at h; exact of_decide_eq_true h.2
  rcases findV_cases x.elems s with e | ⟨k, y, e, hy, _⟩
  · omega
  · exact ⟨k, e, (List.getElem?_eq_some_iff.1 hy).1⟩
set_option maxRecDepth 100000 in
set_option maxHeartbeats 4000000 in
theorem dropElement_any (v : Value) (x : CodeD) (s : ByteArray) (w : World) (h : CodeAt w v x) (hsz : s.size ≤ maxLen) :
    Calls Try.prog 36 #[v, .string s] w fun e w' => ∃ v', e = .returned (.tuple #[v', .bool (drB x s)]) ∧ OwnK w' w.heap.size v' (drV x s) ∧ Kept w w' := by
  have h0 := h
  obtain ⟨nv, mv, rfl, q1, q2⟩ := h
  obtain ⟨A, c, rfl, hnc, hcm, hl⟩ := q1.1.out
  obtain ⟨A2, c2, rfl, _, _, _⟩ := q2.out
  unfold maxLen at hcm
  have HL := Lib.hid hl
  have HS := Lib.hid q1.2
  have H0 := Lib.hid h0
  have HE := Lib.hid q1
  clear h0 q1 q2 hl
  go_enter Try.func36, Try.ntmps36
  go_wp2_with fail
  have B0 := (Box.new w w.heap.size 30 #[.slice A x.elems.length c, .slice A2 x.limits.length c2, .int .i64 x.repeats, .int .i64 x.bonus, .int .i64 x.keeps, .int .i64 x.fall] rfl).alloc (.cells #[.slice none 0 0, .slice none 0 0, .int .i64 0, .int .i64 0, .int .i64 0, .int .i64 0] 30)
  have B1 := Box.new (w.alloc (.cells #[.slice A x.elems.length c, .slice A2 x.limits.length c2, .int .i64 x.repeats, .int .i64 x.bonus, .int .i64 x.keeps, .int .i64 x.fall] 30)) (w.heap.size + 1) 30 #[.slice none 0 0, .slice none 0 0, .int .i64 0, .int .i64 0, .int .i64 0, .int .i64 0] (by simp)
  have K0 : Kept w ((w.alloc (.cells #[.slice A x.elems.length c, .slice A2 x.limits.length c2, .int .i64 x.repeats, .int .i64 x.bonus, .int .i64 x.keeps, .int .i64 x.fall] 30)).alloc (.cells #[.slice none 0 0, .slice none 0 0, .int .i64 0, .int .i64 0, .int .i64 0, .int .i64 0] 30)) := ((Kept.refl w).alloc _).alloc _
  generalize (w.alloc (.cells #[.slice A x.elems.length c, .slice A2 x.limits.length c2, .int .i64 x.repeats, .int .i64 x.bonus, .int .i64 x.keeps, .int .i64 x.fall] 30)).alloc (.cells #[.slice none 0 0, .slice none 0 0, .int .i64 0, .int .i64 0, .int .i64 0, .int .i64 0] 30) = w0 at *
  have hzw : w.heap.size + 1 < w0.heap.size := B1.lt
  refine (implFindElement_any _ x s _ (H0.out.kept K0) hsz).mono ?_
  rintro e w1 ⟨rfl, k1⟩
  replace B0 := B0.kept k1
  replace B1 := B1.kept k1
  have K1 := K0.trans k1
  have hz1 := k1.size
  clear K0 k1
  by_cases hb : feOk x s = true
  case neg =>
    simp only [Bool.not_eq_true] at hb
    have HB := Lib.hid hb
    rw [hb]
    clear hb
    go_upto_region 3 with (fail)
    obtain ⟨x1, y1⟩ := B1.six
    go_wp2_with fail
    clear x1 y1
    obtain ⟨w3, hw3, B3, Q3⟩ := set6 B1 (.slice none 0 0) (.slice none 0 0) (.int .i64 0) (.int .i64 0) (.int .i64 0) (.int .i64 0)
    rw [← hw3]
    clear hw3
    obtain ⟨cc, ff⟩ := B3.six
    exact bodyPost_ret (v := .tuple #[.agg #[.slice none 0 0, .slice none 0 0, .int .i64 0, .int .i64 0, .int .i64 0, .int .i64 0], .bool false]) (by simp [results, Try.results36, go_sem, cc, ff]) rfl ⟨_, by rw [drB_no HB.out], by rw [drV_no HB.out]; exact zeroC_own _ _, Q3.above K1 (by simp)⟩
  obtain ⟨k, hk, hkl⟩ := feOk_at hb
  have hc : codeB x = true := feOk_code hb
  have hl24 := (codeB_heads hc).1.2
  have hl5 : x.limits.length ≤ 5 := Nat.le_of_eq (codeB_heads hc).2
  rw [feV_yes hb, hk, hb]
  have HB := Lib.hid hb
  have HK := Lib.hid hk
  clear hb hc hk
  go_upto_region 4 with (fail)
  obtain ⟨X, hX⟩ : ∃ X, ifC (dropC x k) = X := ⟨_, rfl⟩
  obtain ⟨bb, hbb⟩ : ∃ bb, codeB (dropC x k) = bb := ⟨_, rfl⟩
  have HX := Lib.hid hX
  have HBB := Lib.hid hbb
  clear hX hbb
  have B0d : Box w1.drew w.heap.size 30 #[.slice A x.elems.length c, .slice A2 x.limits.length c2, .int .i64 x.repeats, .int .i64 x.bonus, .int .i64 x.keeps, .int .i64 x.fall] := B0
  have B0a : Box (w1.alloc (.cells #[] 53)).drew w.heap.size 30 #[.slice A x.elems.length c, .slice A2 x.limits.length c2, .int .i64 x.repeats, .int .i64 x.bonus, .int .i64 x.keeps, .int .i64 x.fall] := B0.alloc _
  have B1d : Box w1.drew (w.heap.size + 1) 30 #[.slice none 0 0, .slice none 0 0, .int .i64 0, .int .i64 0, .int .i64 0, .int .i64 0] := B1
  have K1d : Kept w w1.drew := K1.drew
  have hzd : w1.drew.heap.size = w1.heap.size := rfl
  have hzz : w.heap.size + 1 < w1.heap.size := B1.lt
  have hw1 : IntKind.i64.wrap ((k : Int) + 1) = (k : Int) + 1 := IntWalk.i64_in _ (by omega)
  have hkb : (k : Int) ≤ 24 := by omega
  clear B0 B1
  go_region_held3 (fun w' => w'.cell? ⟨w.heap.size, 0, none⟩ = some (.slice A x.elems.length c) ∧ w'.cell? ⟨w.heap.size, 1, none⟩ = some (.slice A2 x.limits.length c2) ∧ w'.cell? ⟨w.heap.size, 2, none⟩ = some (.int .i64 x.repeats) ∧ w'.cell? ⟨w.heap.size, 3, none⟩ = some (.int .i64 x.bonus) ∧ w'.cell? ⟨w.heap.size, 4, none⟩ = some (.int .i64 x.keeps) ∧ w'.cell? ⟨w.heap.size, 5, none⟩ = some (.int .i64 x.fall)) (first | (with_reducible exact B0d.six.1) | (with_reducible exact B0a.six.1) | (with_reducible exact (B0d.kept (by assumption)).six.1) | (with_reducible exact (Box.far6 (B0d.kept (by assumption)) (by omega) _ _ _ _ _ _).six.1)) (first | (refine step_append_E _ rfl _ _ rfl w1.drew.heap.size _ [] rfl ⟨own_made _ _ 4 (Nat.le_refl _) (Box.new _ _ _ _ rfl), (fun _ h => by cases h)⟩ _ x.elems rfl (HE.out.kept (K1d.alloc _)) (by simp; omega) (by simp) ?_; intro v2 w2 o2 hg2; have k2 := ((Kept.refl w1.drew).alloc (.cells #[] 53)).grew (own_made (base := w1.drew.heap.size) _ _ 4 (Nat.le_refl _) (Box.new _ _ _ _ rfl)) hg2 (Nat.le_refl _); clear hg2; rw [List.nil_append] at o2; have O2 := Lib.hid o2; have F2 := Lib.hid (own_fp o2.1); clear o2) | (go_at_call 74; refine (delE_any _ x.elems k _ w1.drew.heap.size O2.out hkl).mono ?_; rintro e w3 ⟨v3, rfl, o3, on3⟩; have k3 := on3.above k2 (fun b hb => (F2.out b hb).1); have O3 := Lib.hid o3; clear o3 on3) | (go_at_call 72; refine (asCode_is X bb _ _ x _ _ w1.drew.heap.size HX.out HBB.out (H0.out.kept (K1d.trans k3)) O3.out k3.size (by omega)).mono ?_; rintro e w4 ⟨v4, rfl, o4, k4⟩; have k14 := k3.trans k4; obtain ⟨na, ma, rfl, pa, qa, nda⟩ := o4; obtain ⟨Aa, ca, rfl, _⟩ := own_form pa.1; obtain ⟨Da, da, rfl, _⟩ := own_form qa; have OR : Hid (OwnK w4 w1.drew.heap.size (.agg #[.slice Aa X.elems.length ca, .slice Da X.limits.length da, .int .i64 X.repeats, .int .i64 X.bonus, .int .i64 X.keeps, .int .i64 X.fall]) X) := (⟨_, _, rfl, pa, qa, nda⟩ : OwnK w4 w1.drew.heap.size _ X); clear pa qa nda; obtain ⟨cc, ff⟩ := (B1d.kept k14).six))
  rename_i hheld
  clear hheld cc ff
  obtain ⟨w9, hw9, B9, Q9⟩ := set6 (B1d.kept k14) (.slice Aa X.elems.length ca) (.slice Da X.limits.length da) (.int .i64 X.repeats) (.int .i64 X.bonus) (.int .i64 X.keeps) (.int .i64 X.fall)
  rw [← hw9]
  clear hw9
  obtain ⟨cc, ff⟩ := B9.six
  go_wp2_with fail
  refine bodyPost_ret (v := .tuple #[.agg #[.slice Aa X.elems.length ca, .slice Da X.limits.length da, .int .i64 X.repeats, .int .i64 X.bonus, .int .i64 X.keeps, .int .i64 X.fall], .bool bb]) (by simp [results, Try.results36, go_sem, cc, ff]) rfl ⟨_, by rw [drB_yes HB.out HK.out, HBB.out], ?_, Q9.above (K1d.trans k14) (by simp)⟩
  rw [drV_yes HB.out HK.out, HX.out]
  exact OwnK.far OR.out Q9 (by simp; omega) (by omega)
set_option maxRecDepth 100000 in
set_option maxHeartbeats 4000000 in
theorem specDropElement_any (v : Value) (x : CodeD) (s : ByteArray) (w : World) (h : CodeAt w v x) (hsz : s.size ≤ maxLen) :
    Calls Try.prog 35 #[v, .string s] w fun e w' => ∃ v', e = .returned (.tuple #[v', .bool (drB x s)]) ∧ OwnK w' w.heap.size v' (drV x s) ∧ Kept w w' := by
  have h0 := h
  obtain ⟨nv, mv, rfl, q1, q2⟩ := h
  obtain ⟨A, c, rfl, hnc, hcm, hl⟩ := q1.1.out
  obtain ⟨A2, c2, rfl, _, _, _⟩ := q2.out
  unfold maxLen at hcm
  have HL := Lib.hid hl
  have HS := Lib.hid q1.2
  have H0 := Lib.hid h0
  have HE := Lib.hid q1
  clear h0 q1 q2 hl
  go_enter Try.func35, Try.ntmps35
  go_wp2_with fail
  have B0 := (Box.new w w.heap.size 30 #[.slice A x.elems.length c, .slice A2 x.limits.length c2, .int .i64 x.repeats, .int .i64 x.bonus, .int .i64 x.keeps, .int .i64 x.fall] rfl).alloc (.cells #[.slice none 0 0, .slice none 0 0, .int .i64 0, .int .i64 0, .int .i64 0, .int .i64 0] 30)
  have B1 := Box.new (w.alloc (.cells #[.slice A x.elems.length c, .slice A2 x.limits.length c2, .int .i64 x.repeats, .int .i64 x.bonus, .int .i64 x.keeps, .int .i64 x.fall] 30)) (w.heap.size + 1) 30 #[.slice none 0 0, .slice none 0 0, .int .i64 0, .int .i64 0, .int .i64 0, .int .i64 0] (by simp)
  have K0 : Kept w ((w.alloc (.cells #[.slice A x.elems.length c, .slice A2 x.limits.length c2, .int .i64 x.repeats, .int .i64 x.bonus, .int .i64 x.keeps, .int .i64 x.fall] 30)).alloc (.cells #[.slice none 0 0, .slice none 0 0, .int .i64 0, .int .i64 0, .int .i64 0, .int .i64 0] 30)) := ((Kept.refl w).alloc _).alloc _
  generalize (w.alloc (.cells #[.slice A x.elems.length c, .slice A2 x.limits.length c2, .int .i64 x.repeats, .int .i64 x.bonus, .int .i64 x.keeps, .int .i64 x.fall] 30)).alloc (.cells #[.slice none 0 0, .slice none 0 0, .int .i64 0, .int .i64 0, .int .i64 0, .int .i64 0] 30) = w0 at *
  have hzw : w.heap.size + 1 < w0.heap.size := B1.lt
  refine (cdFind_any _ x s _ (H0.out.kept K0)).mono ?_
  rintro e wf ⟨rfl, kf⟩
  replace B0 := B0.kept kf
  replace B1 := B1.kept kf
  have Kf := K0.trans kf
  have hzf := kf.size
  clear K0 kf
  obtain ⟨x0, y0⟩ := B0.six
  go_wp2_with fail
  clear x0 y0
  refine (cdGood_any _ x _ (H0.out.kept Kf)).mono ?_
  rintro e w1 ⟨rfl, k1⟩
  replace B0 := B0.kept k1
  replace B1 := B1.kept k1
  have K1 := Kf.trans k1
  have hz1 := k1.size
  clear Kf k1
  by_cases hb : feOk x s = true
  case neg =>
    simp only [Bool.not_eq_true] at hb
    have HB := Lib.hid hb
    by_cases hc : codeB x = true
    · rw [hc]
      have hneg : findV x.elems s < 0 := by
        unfold feOk at hb
        rw [hc, Bool.true_and] at hb
        have := of_decide_eq_false hb
        omega
      clear hb
      go_upto_region 3 with (fail)
      obtain ⟨x1, y1⟩ := B1.six
      go_wp2_with fail
      clear x1 y1
      obtain ⟨w3, hw3, B3, Q3⟩ := set6 B1 (.slice none 0 0) (.slice none 0 0) (.int .i64 0) (.int .i64 0) (.int .i64 0) (.int .i64 0)
      rw [← hw3]
      clear hw3
      obtain ⟨cc, ff⟩ := B3.six
      exact bodyPost_ret (v := .tuple #[.agg #[.slice none 0 0, .slice none 0 0, .int .i64 0, .int .i64 0, .int .i64 0, .int .i64 0], .bool false]) (by simp [results, Try.results35, go_sem, cc, ff]) rfl ⟨_, by rw [drB_no HB.out], by rw [drV_no HB.out]; exact zeroC_own _ _, Q3.above K1 (by simp)⟩
    · simp only [Bool.not_eq_true] at hc
      rw [hc]
      clear hb
      go_upto_region 3 with (fail)
      obtain ⟨x1, y1⟩ := B1.six
      go_wp2_with fail
      clear x1 y1
      obtain ⟨w3, hw3, B3, Q3⟩ := set6 B1 (.slice none 0 0) (.slice none 0 0) (.int .i64 0) (.int .i64 0) (.int .i64 0) (.int .i64 0)
      rw [← hw3]
      clear hw3
      obtain ⟨cc, ff⟩ := B3.six
      exact bodyPost_ret (v := .tuple #[.agg #[.slice none 0 0, .slice none 0 0, .int .i64 0, .int .i64 0, .int .i64 0, .int .i64 0], .bool false]) (by simp [results, Try.results35, go_sem, cc, ff]) rfl ⟨_, by rw [drB_no HB.out], by rw [drV_no HB.out]; exact zeroC_own _ _, Q3.above K1 (by simp)⟩
  obtain ⟨k, hk, hkl⟩ := feOk_at hb
  have hc : codeB x = true := feOk_code hb
  have hl24 := (codeB_heads hc).1.2
  have hl1 := (codeB_heads hc).1.1
  have hl5 : x.limits.length ≤ 5 := Nat.le_of_eq (codeB_heads hc).2
  rw [hc]
  have HB := Lib.hid hb
  have HK := Lib.hid hk
  rw [hk]
  clear hb hc hk
  have hzb : w.heap.size < w1.heap.size := B0.lt
  obtain ⟨x0, y0⟩ := B0.six
  go_wp2_with fail
  clear x0 y0
  refine (cdOwn_any _ x _ (H0.out.kept K1) (by omega) (by omega)).mono ?_
  rintro e w2 ⟨v2, rfl, o2, k2⟩
  have F2 := Lib.hid o2.fps
  obtain ⟨n2, m2, rfl, p2, q2, nd2⟩ := o2
  obtain ⟨A3, c3, rfl, _, _, hA3⟩ := own_form p2.1
  obtain ⟨A4, c4, rfl, _⟩ := own_form q2
  have Q2 := Lib.hid q2
  clear p2 q2 nd2 hA3
  replace B0 := B0.kept k2
  replace B1 := B1.kept k2
  have K2 := K1.trans k2
  have hz2 := k2.size
  have hzb2 : w.heap.size < w2.heap.size := B0.lt
  go_upto_region 5 with (fail)
  obtain ⟨w3, hw3⟩ : ∃ w' : World, w' = w2.alloc (.cells #[.slice A3 x.elems.length c3, .slice A4 x.limits.length c4, .int .i64 x.repeats, .int .i64 x.bonus, .int .i64 x.keeps, .int .i64 x.fall] 30) := ⟨_, rfl⟩
  rw [← hw3]
  have k3 : Kept w2 w3 := hw3 ▸ (Kept.refl w2).alloc _
  have B6 : Box w3 w2.heap.size 30 #[.slice A3 x.elems.length c3, .slice A4 x.limits.length c4, .int .i64 x.repeats, .int .i64 x.bonus, .int .i64 x.keeps, .int .i64 x.fall] := hw3 ▸ Box.new w2 w2.heap.size 30 _ rfl
  have hz3 : w2.heap.size < w3.heap.size := B6.lt
  clear hw3
  replace B0 := B0.kept k3
  replace B1 := B1.kept k3
  replace Q2 := Lib.hid (Q2.out.kept k3)
  have K3 := K2.trans k3
  obtain ⟨b, o, _, rfl, hbl, _, _⟩ := elems_at (HL.out.kept K3) hkl
  have hnl : x.elems.length = x.elems.length := rfl
  have E3 := HE.out.kept K3
  have T3 := Lib.hid (elems_to E3 rfl (i := k) (by omega))
  have HE3 := Lib.hid E3
  clear E3
  have hw1 : IntKind.i64.wrap ((k : Int) + 1) = (k : Int) + 1 := IntWalk.i64_in _ (by omega)
  have h0k : (0 : Int) ≤ (k : Int) + 1 := by omega
  have htn : ((k : Int) + 1).toNat = k + 1 := by omega
  have hkn : (k : Int) + 1 ≤ (x.elems.length : Int) := by omega
  have hkc : (k : Int) ≤ (c : Int) := by omega
  have hkc' : k ≤ c := by omega
  have B0d : Box w3.drew w.heap.size 30 #[.slice (some ⟨b, o, none⟩) x.elems.length c, .slice A2 x.limits.length c2, .int .i64 x.repeats, .int .i64 x.bonus, .int .i64 x.keeps, .int .i64 x.fall] := B0
  have B0a : Box (w3.alloc (.cells #[] 53)).drew w.heap.size 30 #[.slice (some ⟨b, o, none⟩) x.elems.length c, .slice A2 x.limits.length c2, .int .i64 x.repeats, .int .i64 x.bonus, .int .i64 x.keeps, .int .i64 x.fall] := B0.alloc _
  have B6d : Box w3.drew w2.heap.size 30 #[.slice A3 x.elems.length c3, .slice A4 x.limits.length c4, .int .i64 x.repeats, .int .i64 x.bonus, .int .i64 x.keeps, .int .i64 x.fall] := B6
  have K3d : Kept w3 w3.drew := (Kept.refl w3).drew
  obtain ⟨ED, hED⟩ : ∃ ED, x.elems.take k ++ x.elems.drop (k + 1) = ED := ⟨_, rfl⟩
  have HED := Lib.hid hED
  clear hED
  by_cases hck : c = k + 1
  · subst hck
    have hii1 : (k : Int) ≤ (k : Int) + 1 := by omega
    have U3 : Hid (Elems w3 (.slice (some ⟨b, o, none⟩) 0 0) (x.elems.drop (k + 1))) := elems_none (by omega)
    go_region_held3 (fun w' => w'.cell? ⟨w.heap.size, 0, none⟩ = some (.slice (some ⟨b, o, none⟩) x.elems.length (k + 1))) (first | (with_reducible exact B0d.six.1.1) | (with_reducible exact B0a.six.1.1) | (with_reducible exact (B0d.kept (by assumption)).six.1.1) | (with_reducible exact ((B0d.kept (by assumption)).far ⟨w2.heap.size, 0, none⟩ (by dsimp only; omega) _).six.1.1)) (first | (refine step_append_E _ rfl (.tmp 21) (.tmp 25) rfl w3.drew.heap.size _ [] rfl ⟨own_made _ _ 4 (Nat.le_refl _) (Box.new _ _ _ _ rfl), (fun _ h => by cases h)⟩ _ (x.elems.take k) rfl (T3.out.kept (K3d.alloc _)) (by simp; omega) (by simp) ?_; intro v6 w6 o6 hg6; have k6 := ((Kept.refl w3.drew).alloc (.cells #[] 53)).grew (own_made (base := w3.drew.heap.size) _ _ 4 (Nat.le_refl _) (Box.new _ _ _ _ rfl)) hg6 (Nat.le_refl _); clear hg6; rw [List.nil_append] at o6; have O6 := Lib.hid o6; clear o6) | (refine step_append_E _ rfl (.tmp 26) (.tmp 31) rfl w3.drew.heap.size _ _ rfl O6.out _ (x.elems.drop (k + 1)) rfl (U3.out.kept (K3d.trans k6)) (by rw [List.length_take, List.length_drop]; omega) k6.size ?_; intro v7 w7 o7 hg7; have k7 := k6.grew O6.out.1 hg7 (Nat.le_refl _); clear hg7; rw [HED.out] at o7; obtain ⟨A7, c7, rfl, _⟩ := own_form o7.1; have O7 := Lib.hid o7; clear o7; have h7c : w7.cell? ⟨w2.heap.size, 0, none⟩ = some (.slice A3 x.elems.length c3) := (B6d.kept k7).six.1.1; have h7f : w7.frozen? ⟨w2.heap.size, 0, none⟩ = false := (B6d.kept k7).six.2.1))
    rename_i hheld
    clear hheld h7c h7f
    have F7 := Lib.hid (own_fp O7.out.1)
    have FQ := Lib.hid (own_fp Q2.out)
    have hz7 := k7.size
    have hzd : w3.drew.heap.size = w3.heap.size := rfl
    obtain ⟨w8, hw8⟩ : ∃ w8, w8 = w7.setCell ⟨w2.heap.size, 0, none⟩ (.slice A7 ED.length c7) := ⟨_, rfl⟩
    have Q8 : Only [w2.heap.size] w7 w8 := by rw [hw8]; exact Only.setCell (Only.refl _ _) (by simp) _
    have B68 : Box w8 w2.heap.size 30 #[.slice A7 ED.length c7, .slice A4 x.limits.length c4, .int .i64 x.repeats, .int .i64 x.bonus, .int .i64 x.keeps, .int .i64 x.fall] := hw8 ▸ (B6d.kept k7).set 0 _
    have B18 := (B1.kept (K3d.trans k7)).only Q8 (by simp; omega)
    have K8 : Kept w w8 := Q8.above (K3.trans (K3d.trans k7)) (by simp; omega)
    have HDC : Hid (dropC x k = { x with elems := ED }) := by unfold dropC; rw [HED.out]; rfl
    have HKK : Hid (OwnK w8 w1.heap.size (.agg #[.slice A7 ED.length c7, .slice A4 x.limits.length c4, .int .i64 x.repeats, .int .i64 x.bonus, .int .i64 x.keeps, .int .i64 x.fall]) (dropC x k)) := by
      rw [HDC.out]
      refine ⟨_, _, rfl, (OwnE.base O7.out (by omega)).only Q8 (fun b hb hs => ?_), (Q2.out.kept (K3d.trans k7)).only Q8 (fun b hb hs => ?_), ?_⟩
      · have := F7.out b hb; simp at hs; omega
      · have := F2.out b (by rw [fpA_code]; exact List.mem_append_right _ hb); simp at hs; omega
      · rw [fpA_code, List.nodup_append]
        refine ⟨nodup_one _, nodup_one _, fun y hy z hz e => ?_⟩
        have h1 := F7.out y hy
        have h2 := F2.out z (by rw [fpA_code]; exact List.mem_append_right _ hz)
        omega
    have hz8 := K8.size
    have hz8' : w1.heap.size ≤ w8.heap.size := by have := Q8.size; omega
    rw [← hw8]
    clear hw8
    obtain ⟨x0, y0⟩ := B68.six
    go_wp2_with fail
    clear x0 y0
    obtain ⟨X, hX⟩ : ∃ X, ifC (dropC x k) = X := ⟨_, rfl⟩
    obtain ⟨bb, hbb⟩ : ∃ bb, codeB (dropC x k) = bb := ⟨_, rfl⟩
    have HX := Lib.hid hX
    have HBB := Lib.hid hbb
    clear hX hbb
    refine (cdIf_is X bb _ (dropC x k) _ w1.heap.size HX.out HBB.out HKK.out hz8').mono ?_
    rintro e w4 ⟨v4, rfl, o4, k4⟩
    replace B1 := B18.kept k4
    have K4 := K8.trans k4
    have HNE : Hid (∀ b ∈ fpA v4, b ≠ w.heap.size + 1) := fun b hb e => by have := o4.fps b hb; omega
    replace o4 := o4.base (base' := w.heap.size) (by omega)
    have FR := Lib.hid (o4.fps)
    obtain ⟨na, ma, rfl, pa, qa, nda⟩ := o4
    obtain ⟨Aa, ca, rfl, _⟩ := own_form pa.1
    obtain ⟨Da, da, rfl, _⟩ := own_form qa
    have OR : Hid (OwnK w4 w.heap.size (.agg #[.slice Aa X.elems.length ca, .slice Da X.limits.length da, .int .i64 X.repeats, .int .i64 X.bonus, .int .i64 X.keeps, .int .i64 X.fall]) (X)) := ⟨_, _, rfl, pa, qa, nda⟩
    clear pa qa nda
    obtain ⟨x1, y1⟩ := B1.six
    go_wp2_with fail
    clear x1 y1
    obtain ⟨w9, hw9, B9, Q9⟩ := set6 B1 (.slice Aa X.elems.length ca) (.slice Da X.limits.length da) (.int .i64 X.repeats) (.int .i64 X.bonus) (.int .i64 X.keeps) (.int .i64 X.fall)
    rw [← hw9]
    clear hw9
    obtain ⟨cc, ff⟩ := B9.six
    refine bodyPost_ret (v := .tuple #[.agg #[.slice Aa X.elems.length ca, .slice Da X.limits.length da, .int .i64 X.repeats, .int .i64 X.bonus, .int .i64 X.keeps, .int .i64 X.fall], .bool bb]) (by simp [results, Try.results35, go_sem, cc, ff]) rfl ⟨_, by rw [drB_yes HB.out HK.out, HBB.out], ?_, Q9.above K4 (by simp)⟩
    rw [drV_yes HB.out HK.out, HX.out]
    exact OR.out.only Q9 (fun b hb hs => HNE.out b hb (by simpa using hs))
  · have U3 := Lib.hid (elems_from HE3.out rfl (k := k + 1) (by omega))
    go_region_held3 (fun w' => w'.cell? ⟨w.heap.size, 0, none⟩ = some (.slice (some ⟨b, o, none⟩) x.elems.length c)) (first | (with_reducible exact B0d.six.1.1) | (with_reducible exact B0a.six.1.1) | (with_reducible exact (B0d.kept (by assumption)).six.1.1) | (with_reducible exact ((B0d.kept (by assumption)).far ⟨w2.heap.size, 0, none⟩ (by dsimp only; omega) _).six.1.1)) (first | (refine step_append_E _ rfl (.tmp 21) (.tmp 25) rfl w3.drew.heap.size _ [] rfl ⟨own_made _ _ 4 (Nat.le_refl _) (Box.new _ _ _ _ rfl), (fun _ h => by cases h)⟩ _ (x.elems.take k) rfl (T3.out.kept (K3d.alloc _)) (by simp; omega) (by simp) ?_; intro v6 w6 o6 hg6; have k6 := ((Kept.refl w3.drew).alloc (.cells #[] 53)).grew (own_made (base := w3.drew.heap.size) _ _ 4 (Nat.le_refl _) (Box.new _ _ _ _ rfl)) hg6 (Nat.le_refl _); clear hg6; rw [List.nil_append] at o6; have O6 := Lib.hid o6; clear o6) | (refine step_append_E _ rfl (.tmp 26) (.tmp 31) rfl w3.drew.heap.size _ _ rfl O6.out _ (x.elems.drop (k + 1)) rfl (U3.out.kept (K3d.trans k6)) (by rw [List.length_take, List.length_drop]; omega) k6.size ?_; intro v7 w7 o7 hg7; have k7 := k6.grew O6.out.1 hg7 (Nat.le_refl _); clear hg7; rw [HED.out] at o7; obtain ⟨A7, c7, rfl, _⟩ := own_form o7.1; have O7 := Lib.hid o7; clear o7; have h7c : w7.cell? ⟨w2.heap.size, 0, none⟩ = some (.slice A3 x.elems.length c3) := (B6d.kept k7).six.1.1; have h7f : w7.frozen? ⟨w2.heap.size, 0, none⟩ = false := (B6d.kept k7).six.2.1))
    rename_i hheld
    clear hheld h7c h7f
    have F7 := Lib.hid (own_fp O7.out.1)
    have FQ := Lib.hid (own_fp Q2.out)
    have hz7 := k7.size
    have hzd : w3.drew.heap.size = w3.heap.size := rfl
    obtain ⟨w8, hw8⟩ : ∃ w8, w8 = w7.setCell ⟨w2.heap.size, 0, none⟩ (.slice A7 ED.length c7) := ⟨_, rfl⟩
    have Q8 : Only [w2.heap.size] w7 w8 := by rw [hw8]; exact Only.setCell (Only.refl _ _) (by simp) _
    have B68 : Box w8 w2.heap.size 30 #[.slice A7 ED.length c7, .slice A4 x.limits.length c4, .int .i64 x.repeats, .int .i64 x.bonus, .int .i64 x.keeps, .int .i64 x.fall] := hw8 ▸ (B6d.kept k7).set 0 _
    have B18 := (B1.kept (K3d.trans k7)).only Q8 (by simp; omega)
    have K8 : Kept w w8 := Q8.above (K3.trans (K3d.trans k7)) (by simp; omega)
    have HDC : Hid (dropC x k = { x with elems := ED }) := by unfold dropC; rw [HED.out]; rfl
    have HKK : Hid (OwnK w8 w1.heap.size (.agg #[.slice A7 ED.length c7, .slice A4 x.limits.length c4, .int .i64 x.repeats, .int .i64 x.bonus, .int .i64 x.keeps, .int .i64 x.fall]) (dropC x k)) := by
      rw [HDC.out]
      refine ⟨_, _, rfl, (OwnE.base O7.out (by omega)).only Q8 (fun b hb hs => ?_), (Q2.out.kept (K3d.trans k7)).only Q8 (fun b hb hs => ?_), ?_⟩
      · have := F7.out b hb; simp at hs; omega
      · have := F2.out b (by rw [fpA_code]; exact List.mem_append_right _ hb); simp at hs; omega
      · rw [fpA_code, List.nodup_append]
        refine ⟨nodup_one _, nodup_one _, fun y hy z hz e => ?_⟩
        have h1 := F7.out y hy
        have h2 := F2.out z (by rw [fpA_code]; exact List.mem_append_right _ hz)
        omega
    have hz8 := K8.size
    have hz8' : w1.heap.size ≤ w8.heap.size := by have := Q8.size; omega
    rw [← hw8]
    clear hw8
    obtain ⟨x0, y0⟩ := B68.six
    go_wp2_with fail
    clear x0 y0
    obtain ⟨X, hX⟩ : ∃ X, ifC (dropC x k) = X := ⟨_, rfl⟩
    obtain ⟨bb, hbb⟩ : ∃ bb, codeB (dropC x k) = bb := ⟨_, rfl⟩
    have HX := Lib.hid hX
    have HBB := Lib.hid hbb
    clear hX hbb
    refine (cdIf_is X bb _ (dropC x k) _ w1.heap.size HX.out HBB.out HKK.out hz8').mono ?_
    rintro e w4 ⟨v4, rfl, o4, k4⟩
    replace B1 := B18.kept k4
    have K4 := K8.trans k4
    have HNE : Hid (∀ b ∈ fpA v4, b ≠ w.heap.size + 1) := fun b hb e => by have := o4.fps b hb; omega
    replace o4 := o4.base (base' := w.heap.size) (by omega)
    have FR := Lib.hid (o4.fps)
    obtain ⟨na, ma, rfl, pa, qa, nda⟩ := o4
    obtain ⟨Aa, ca, rfl, _⟩ := own_form pa.1
    obtain ⟨Da, da, rfl, _⟩ := own_form qa
    have OR : Hid (OwnK w4 w.heap.size (.agg #[.slice Aa X.elems.length ca, .slice Da X.limits.length da, .int .i64 X.repeats, .int .i64 X.bonus, .int .i64 X.keeps, .int .i64 X.fall]) (X)) := ⟨_, _, rfl, pa, qa, nda⟩
    clear pa qa nda
    obtain ⟨x1, y1⟩ := B1.six
    go_wp2_with fail
    clear x1 y1
    obtain ⟨w9, hw9, B9, Q9⟩ := set6 B1 (.slice Aa X.elems.length ca) (.slice Da X.limits.length da) (.int .i64 X.repeats) (.int .i64 X.bonus) (.int .i64 X.keeps) (.int .i64 X.fall)
    rw [← hw9]
    clear hw9
    obtain ⟨cc, ff⟩ := B9.six
    refine bodyPost_ret (v := .tuple #[.agg #[.slice Aa X.elems.length ca, .slice Da X.limits.length da, .int .i64 X.repeats, .int .i64 X.bonus, .int .i64 X.keeps, .int .i64 X.fall], .bool bb]) (by simp [results, Try.results35, go_sem, cc, ff]) rfl ⟨_, by rw [drB_yes HB.out HK.out, HBB.out], ?_, Q9.above K4 (by simp)⟩
    rw [drV_yes HB.out HK.out, HX.out]
    exact OR.out.only Q9 (fun b hb hs => HNE.out b hb (by simpa using hs))
set_option maxHeartbeats 4000000 in
theorem lawDropElement_any {w : World} {v0 : Value} (z0 : CodeD) (a1 : ByteArray) (h0 : CodeAt w v0 z0) (hs1 : a1.size ≤ maxLen) :
    Calls Try.prog 10 #[v0, .string a1] w fun e w' => e = .returned (.bool true) ∧ Kept w w' := by
  have H0 := Lib.hid h0
  obtain ⟨n0, m0, rfl, p0, q0⟩ := h0
  obtain ⟨A0, c0, rfl, _⟩ := p0.1.out
  obtain ⟨D0, d0, rfl, _⟩ := q0.out
  clear p0 q0
  go_enter Try.func10, Try.ntmps10
  have K0 := Kept.refl w
  have hm1 := hs1
  unfold maxLen at hm1
  by_cases hbig1 : a1.size ≤ 1048576
  case neg =>
    go_wp2_with fail
    go_ret
    first | exact ⟨rfl, K0⟩ | exact ⟨rfl, K0.alloc _⟩ | exact ⟨rfl, (K0.alloc _).alloc _⟩
  go_wp2_with fail
  obtain ⟨wb1, hwb1⟩ : ∃ w' : World, w' = w.alloc (.cells #[.slice A0 z0.elems.length c0, .slice D0 z0.limits.length d0, .int .i64 z0.repeats, .int .i64 z0.bonus, .int .i64 z0.keeps, .int .i64 z0.fall] 25) := ⟨_, rfl⟩
  rw [← hwb1]
  have KB0 : Kept w wb1 := hwb1 ▸ (Kept.refl w).alloc _
  have B0 : Box wb1 w.heap.size 25 #[.slice A0 z0.elems.length c0, .slice D0 z0.limits.length d0, .int .i64 z0.repeats, .int .i64 z0.bonus, .int .i64 z0.keeps, .int .i64 z0.fall] := hwb1 ▸ Box.new w w.heap.size 25 #[.slice A0 z0.elems.length c0, .slice D0 z0.limits.length d0, .int .i64 z0.repeats, .int .i64 z0.bonus, .int .i64 z0.keeps, .int .i64 z0.fall] rfl
  have szwb1 : wb1.heap.size = w.heap.size + 1 := by rw [hwb1]; simp
  clear hwb1
  have Kwb1 := K0.trans KB0
  refine (szCode_any _ z0 _ _ (H0.out.kept Kwb1) (by omega) (by omega)).mono ?_
  rintro e w1 ⟨rfl, k1⟩
  replace B0 := B0.kept k1
  have sz1 := k1.size
  have K1 := Kwb1.trans k1
  by_cases hbig0 : ((z0.size : Nat) : Int) ≤ 1048576
  case neg =>
    have e1 : lessOr 1048576 (z0.size) = -1 := by unfold lessOr; exact if_neg (by omega)
    rw [e1]
    go_wp2_with fail
    go_ret
    exact ⟨rfl, K1⟩
  have e1 : lessOr 1048576 (z0.size) = 1048576 - (z0.size : Int) := by unfold lessOr; exact if_pos (by omega)
  rw [e1]
  clear e1
  have hparts0 := code_parts z0
  have hX := drV_len z0 a1
  obtain ⟨x0, y0⟩ := B0.six
  go_wp2_with fail
  clear x0 y0
  refine (toCode_any _ z0 _ (H0.out.kept K1) (by omega) (by omega)).mono ?_
  rintro e w2 ⟨u2, rfl, o2, k2⟩
  replace B0 := B0.kept k2
  have sz2 := k2.size
  have K2 := K1.trans k2
  have R2 := Lib.hid o2.code
  clear o2
  obtain ⟨x0, y0⟩ := B0.six
  go_wp2_with fail
  clear x0 y0
  refine (specDropElement_any _ z0 _ _ R2.out hs1).mono ?_
  rintro e w3 ⟨u3, rfl, o3, k3⟩
  replace B0 := B0.kept k3
  replace R2 := Lib.hid (R2.out.kept k3)
  have sz3 := k3.size
  have K3 := K2.trans k3
  clear R2
  obtain ⟨n3, m3, rfl, p3, q3, nd3⟩ := o3
  obtain ⟨A3, c3, rfl, _⟩ := own_form p3.1
  obtain ⟨D3, d3, rfl, _⟩ := own_form q3
  have o3 : OwnK w3 _ (.agg #[.slice A3 (drV z0 a1).elems.length c3, .slice D3 (drV z0 a1).limits.length d3, .int .i64 (drV z0 a1).repeats, .int .i64 (drV z0 a1).bonus, .int .i64 (drV z0 a1).keeps, .int .i64 (drV z0 a1).fall]) (drV z0 a1) := ⟨_, _, rfl, p3, q3, nd3⟩
  clear p3 q3 nd3
  have RS := Lib.hid o3.code
  clear o3
  have KS := Kept.refl w3
  obtain ⟨x0, y0⟩ := B0.six
  have l0 := B0.lt
  go_wp2_with fail
  clear x0 y0 l0
  obtain ⟨wb2, hwb2⟩ : ∃ w' : World, w' = w3.alloc (.cells #[.slice A3 (drV z0 a1).elems.length c3, .slice D3 (drV z0 a1).limits.length d3, .int .i64 (drV z0 a1).repeats, .int .i64 (drV z0 a1).bonus, .int .i64 (drV z0 a1).keeps, .int .i64 (drV z0 a1).fall] 30) := ⟨_, rfl⟩
  rw [← hwb2]
  have KB3 : Kept w3 wb2 := hwb2 ▸ (Kept.refl w3).alloc _
  have B3 : Box wb2 w3.heap.size 30 #[.slice A3 (drV z0 a1).elems.length c3, .slice D3 (drV z0 a1).limits.length d3, .int .i64 (drV z0 a1).repeats, .int .i64 (drV z0 a1).bonus, .int .i64 (drV z0 a1).keeps, .int .i64 (drV z0 a1).fall] := hwb2 ▸ Box.new w3 w3.heap.size 30 #[.slice A3 (drV z0 a1).elems.length c3, .slice D3 (drV z0 a1).limits.length d3, .int .i64 (drV z0 a1).repeats, .int .i64 (drV z0 a1).bonus, .int .i64 (drV z0 a1).keeps, .int .i64 (drV z0 a1).fall] rfl
  have szwb2 : wb2.heap.size = w3.heap.size + 1 := by rw [hwb2]; simp
  clear hwb2
  replace B0 := B0.kept KB3
  replace KS := KS.trans KB3
  have Kwb2 := K3.trans KB3
  refine (toCode_any _ z0 _ (H0.out.kept Kwb2) (by omega) (by omega)).mono ?_
  rintro e w4 ⟨u4, rfl, o4, k4⟩
  replace B0 := B0.kept k4
  replace B3 := B3.kept k4
  replace KS := KS.trans k4
  have sz4 := k4.size
  have K4 := Kwb2.trans k4
  obtain ⟨n4, m4, rfl, p4, q4, nd4⟩ := o4
  obtain ⟨A4, c4, rfl, _⟩ := own_form p4.1
  obtain ⟨D4, d4, rfl, _⟩ := own_form q4
  have o4 : OwnK w4 _ (.agg #[.slice A4 z0.elems.length c4, .slice D4 z0.limits.length d4, .int .i64 z0.repeats, .int .i64 z0.bonus, .int .i64 z0.keeps, .int .i64 z0.fall]) z0 := ⟨_, _, rfl, p4, q4, nd4⟩
  clear p4 q4 nd4
  have F4 := Lib.hid o4.fps
  have O4 := Lib.hid o4
  clear o4
  obtain ⟨x0, y0⟩ := B0.six
  have l0 := B0.lt
  obtain ⟨x3, y3⟩ := B3.six
  have l3 := B3.lt
  go_wp2_with fail
  clear x0 y0 l0 x3 y3 l3
  obtain ⟨wb3, hwb3⟩ : ∃ w' : World, w' = w4.alloc (.cells #[.slice A4 z0.elems.length c4, .slice D4 z0.limits.length d4, .int .i64 z0.repeats, .int .i64 z0.bonus, .int .i64 z0.keeps, .int .i64 z0.fall] 30) := ⟨_, rfl⟩
  rw [← hwb3]
  have KB4 : Kept w4 wb3 := hwb3 ▸ (Kept.refl w4).alloc _
  have B4 : Box wb3 w4.heap.size 30 #[.slice A4 z0.elems.length c4, .slice D4 z0.limits.length d4, .int .i64 z0.repeats, .int .i64 z0.bonus, .int .i64 z0.keeps, .int .i64 z0.fall] := hwb3 ▸ Box.new w4 w4.heap.size 30 #[.slice A4 z0.elems.length c4, .slice D4 z0.limits.length d4, .int .i64 z0.repeats, .int .i64 z0.bonus, .int .i64 z0.keeps, .int .i64 z0.fall] rfl
  have szwb3 : wb3.heap.size = w4.heap.size + 1 := by rw [hwb3]; simp
  clear hwb3
  replace B0 := B0.kept KB4
  replace B3 := B3.kept KB4
  replace O4 := Lib.hid (O4.out.kept KB4)
  replace KS := KS.trans KB4
  have Kwb3 := K4.trans KB4
  refine (dropElement_any _ z0 _ _ O4.out.code hs1).mono ?_
  rintro e w5 ⟨u5, rfl, o5, k5⟩
  replace B0 := B0.kept k5
  replace B3 := B3.kept k5
  replace B4 := B4.kept k5
  replace O4 := Lib.hid (O4.out.kept k5)
  replace KS := KS.trans k5
  have sz5 := k5.size
  have K5 := Kwb3.trans k5
  obtain ⟨n5, m5, rfl, p5, q5, nd5⟩ := o5
  obtain ⟨A5, c5, rfl, _⟩ := own_form p5.1
  obtain ⟨D5, d5, rfl, _⟩ := own_form q5
  have o5 : OwnK w5 _ (.agg #[.slice A5 (drV z0 a1).elems.length c5, .slice D5 (drV z0 a1).limits.length d5, .int .i64 (drV z0 a1).repeats, .int .i64 (drV z0 a1).bonus, .int .i64 (drV z0 a1).keeps, .int .i64 (drV z0 a1).fall]) (drV z0 a1) := ⟨_, _, rfl, p5, q5, nd5⟩
  clear p5 q5 nd5
  have F5 := Lib.hid o5.fps
  have O5 := Lib.hid o5
  clear o5
  obtain ⟨x0, y0⟩ := B0.six
  have l0 := B0.lt
  obtain ⟨x3, y3⟩ := B3.six
  have l3 := B3.lt
  obtain ⟨x4, y4⟩ := B4.six
  have l4 := B4.lt
  go_wp2_with fail
  clear x0 y0 l0 x3 y3 l3 x4 y4 l4
  obtain ⟨wb4, hwb4⟩ : ∃ w' : World, w' = w5.alloc (.cells #[.slice A5 (drV z0 a1).elems.length c5, .slice D5 (drV z0 a1).limits.length d5, .int .i64 (drV z0 a1).repeats, .int .i64 (drV z0 a1).bonus, .int .i64 (drV z0 a1).keeps, .int .i64 (drV z0 a1).fall] 30) := ⟨_, rfl⟩
  rw [← hwb4]
  have KB5 : Kept w5 wb4 := hwb4 ▸ (Kept.refl w5).alloc _
  have B5 : Box wb4 w5.heap.size 30 #[.slice A5 (drV z0 a1).elems.length c5, .slice D5 (drV z0 a1).limits.length d5, .int .i64 (drV z0 a1).repeats, .int .i64 (drV z0 a1).bonus, .int .i64 (drV z0 a1).keeps, .int .i64 (drV z0 a1).fall] := hwb4 ▸ Box.new w5 w5.heap.size 30 #[.slice A5 (drV z0 a1).elems.length c5, .slice D5 (drV z0 a1).limits.length d5, .int .i64 (drV z0 a1).repeats, .int .i64 (drV z0 a1).bonus, .int .i64 (drV z0 a1).keeps, .int .i64 (drV z0 a1).fall] rfl
  have szwb4 : wb4.heap.size = w5.heap.size + 1 := by rw [hwb4]; simp
  clear hwb4
  replace B0 := B0.kept KB5
  replace B3 := B3.kept KB5
  replace B4 := B4.kept KB5
  replace O4 := Lib.hid (O4.out.kept KB5)
  replace O5 := Lib.hid (O5.out.kept KB5)
  replace KS := KS.trans KB5
  have Kwb4 := K5.trans KB5
  refine (eqCode_any _ _ (drV z0 a1) _ O5.out.code (RS.out.kept KS)).mono ?_
  rintro e w6 ⟨rfl, k6⟩
  replace B0 := B0.kept k6
  replace B3 := B3.kept k6
  replace B4 := B4.kept k6
  replace B5 := B5.kept k6
  replace O4 := Lib.hid (O4.out.kept k6)
  replace O5 := Lib.hid (O5.out.kept k6)
  replace KS := KS.trans k6
  have sz6 := k6.size
  have K6 := Kwb4.trans k6
  obtain ⟨x0, y0⟩ := B0.six
  obtain ⟨x3, y3⟩ := B3.six
  obtain ⟨x4, y4⟩ := B4.six
  obtain ⟨x5, y5⟩ := B5.six
  go_wp2_with fail
  clear x0 y0 x3 y3 x4 y4 x5 y5
  have KDw6 : Kept w6 w6.drew := (Kept.refl _).drew
  replace B0 := B0.kept KDw6
  replace B3 := B3.kept KDw6
  replace B4 := B4.kept KDw6
  replace B5 := B5.kept KDw6
  replace O4 := Lib.hid (O4.out.kept KDw6)
  replace O5 := Lib.hid (O5.out.kept KDw6)
  replace KS := KS.trans KDw6
  have KKw6 := K6.trans KDw6
  have szdw6 : w6.heap.size ≤ w6.drew.heap.size := KDw6.size
  go_region_held3 (fun w' => (w'.cell? ⟨w.heap.size, 0, none⟩ = some (.slice A0 z0.elems.length c0) ∧ w'.cell? ⟨w.heap.size, 1, none⟩ = some (.slice D0 z0.limits.length d0) ∧ w'.cell? ⟨w.heap.size, 2, none⟩ = some (.int .i64 z0.repeats) ∧ w'.cell? ⟨w.heap.size, 3, none⟩ = some (.int .i64 z0.bonus) ∧ w'.cell? ⟨w.heap.size, 4, none⟩ = some (.int .i64 z0.keeps) ∧ w'.cell? ⟨w.heap.size, 5, none⟩ = some (.int .i64 z0.fall)) ∧ (w'.cell? ⟨w4.heap.size, 0, none⟩ = some (.slice A4 z0.elems.length c4) ∧ w'.cell? ⟨w4.heap.size, 1, none⟩ = some (.slice D4 z0.limits.length d4) ∧ w'.cell? ⟨w4.heap.size, 2, none⟩ = some (.int .i64 z0.repeats) ∧ w'.cell? ⟨w4.heap.size, 3, none⟩ = some (.int .i64 z0.bonus) ∧ w'.cell? ⟨w4.heap.size, 4, none⟩ = some (.int .i64 z0.keeps) ∧ w'.cell? ⟨w4.heap.size, 5, none⟩ = some (.int .i64 z0.fall))) (first | exact ⟨B0.six.1, B4.six.1⟩ | exact ⟨(B0.kept (by assumption)).six.1, (B4.kept (by assumption)).six.1⟩)
    (first | (go_at_call 15; refine (toCode_any _ z0 _ (H0.out.kept KKw6) (by omega) (by omega)).mono ?_; rintro e w7 ⟨u7, rfl, o7, k7⟩) | (go_at_call 17; refine (eqCode_any _ _ z0 _ (O4.out.code.kept k7) o7.code).mono ?_; rintro e w8 ⟨rfl, k8⟩; have kk8 := k7.trans k8))
  clear o7
  replace B0 := B0.kept kk8
  replace B3 := B3.kept kk8
  replace B4 := B4.kept kk8
  replace B5 := B5.kept kk8
  replace O4 := Lib.hid (O4.out.kept kk8)
  replace O5 := Lib.hid (O5.out.kept kk8)
  replace KS := KS.trans kk8
  have sz8 := kk8.size
  have K8 := KKw6.trans kk8
  have nb4 : nextC (1) z0 = (1) + 4 * z0.elems.length + z0.limits.length := rfl
  obtain ⟨x0, y0⟩ := B0.six
  obtain ⟨x3, y3⟩ := B3.six
  obtain ⟨x4, y4⟩ := B4.six
  obtain ⟨x5, y5⟩ := B5.six
  go_wp2_with fail
  clear x0 y0 x3 y3 x4 y4 x5 y5
  refine (markCode_any _ z0 _ _ _ O4.out (by omega) (by omega) (by omega) (by omega)).mono ?_
  rintro e w9 ⟨rfl, o9, on9⟩
  have sz9 := on9.size
  replace B0 := B0.only on9 (fun hb => by have := F4.out _ hb; omega)
  replace B3 := B3.only on9 (fun hb => by have := F4.out _ hb; omega)
  replace B4 := B4.only on9 (fun hb => by have := F4.out _ hb; omega)
  replace B5 := B5.only on9 (fun hb => by have := F4.out _ hb; omega)
  replace O5 := Lib.hid (O5.out.only on9 (fun b hb hb' => by have := F5.out b hb; have := F4.out b hb'; omega))
  replace KS := on9.above KS (fun b hb => by have := F4.out b hb; omega)
  have K9 := on9.above K8 (fun b hb => by have := F4.out b hb; omega)
  replace O4 := Lib.hid o9
  clear o9 on9
  obtain ⟨x0, y0⟩ := B0.six
  obtain ⟨x3, y3⟩ := B3.six
  obtain ⟨x4, y4⟩ := B4.six
  obtain ⟨x5, y5⟩ := B5.six
  go_wp2_with fail
  clear x0 y0 x3 y3 x4 y4 x5 y5
  refine (eqCode_any _ _ (drV z0 a1) _ O5.out.code (RS.out.kept KS)).mono ?_
  rintro e w10 ⟨rfl, k10⟩
  replace B0 := B0.kept k10
  replace B3 := B3.kept k10
  replace B4 := B4.kept k10
  replace B5 := B5.kept k10
  replace O4 := Lib.hid (O4.out.kept k10)
  replace O5 := Lib.hid (O5.out.kept k10)
  replace KS := KS.trans k10
  have sz10 := k10.size
  have K10 := K9.trans k10
  have nbR : nextC 1 (drV z0 a1) = 1 + 4 * (drV z0 a1).elems.length + (drV z0 a1).limits.length := rfl
  obtain ⟨x0, y0⟩ := B0.six
  obtain ⟨x3, y3⟩ := B3.six
  obtain ⟨x4, y4⟩ := B4.six
  obtain ⟨x5, y5⟩ := B5.six
  go_wp2_with fail
  clear x0 y0 x3 y3 x4 y4 x5 y5
  refine (markCode_any _ (drV z0 a1) _ _ _ O5.out (by omega) (by omega) (by omega) (by omega)).mono ?_
  rintro e w11 ⟨rfl, o11, on11⟩
  have sz11 := on11.size
  replace B0 := B0.only on11 (fun hb => by have := F5.out _ hb; omega)
  replace B3 := B3.only on11 (fun hb => by have := F5.out _ hb; omega)
  replace B4 := B4.only on11 (fun hb => by have := F5.out _ hb; omega)
  replace B5 := B5.only on11 (fun hb => by have := F5.out _ hb; omega)
  replace O4 := Lib.hid (O4.out.only on11 (fun b hb hb' => by have := F4.out b hb; have := F5.out b hb'; omega))
  replace KS := on11.above KS (fun b hb => by have := F5.out b hb; omega)
  have K11 := on11.above K10 (fun b hb => by have := F5.out b hb; omega)
  replace O5 := Lib.hid o11
  clear o11 on11
  obtain ⟨x0, y0⟩ := B0.six
  obtain ⟨x3, y3⟩ := B3.six
  obtain ⟨x4, y4⟩ := B4.six
  obtain ⟨x5, y5⟩ := B5.six
  go_wp2_with fail
  clear x0 y0 x3 y3 x4 y4 x5 y5
  refine (heldCode_any _ (drV z0 a1) _ _ O5.out.code (by omega) (by omega) (by omega) (by omega)).mono ?_
  rintro e w12 ⟨rfl, k12⟩
  replace B0 := B0.kept k12
  replace B3 := B3.kept k12
  replace B4 := B4.kept k12
  replace B5 := B5.kept k12
  replace O4 := Lib.hid (O4.out.kept k12)
  replace O5 := Lib.hid (O5.out.kept k12)
  replace KS := KS.trans k12
  have sz12 := k12.size
  have K12 := K11.trans k12
  obtain ⟨x0, y0⟩ := B0.six
  obtain ⟨x3, y3⟩ := B3.six
  obtain ⟨x4, y4⟩ := B4.six
  obtain ⟨x5, y5⟩ := B5.six
  go_wp2_with fail
  clear x0 y0 x3 y3 x4 y4 x5 y5
  refine (toCode_any _ z0 _ (H0.out.kept K12) (by omega) (by omega)).mono ?_
  rintro e w13 ⟨u13, rfl, o13, k13⟩
  replace B0 := B0.kept k13
  replace B3 := B3.kept k13
  replace B4 := B4.kept k13
  replace B5 := B5.kept k13
  replace O4 := Lib.hid (O4.out.kept k13)
  replace O5 := Lib.hid (O5.out.kept k13)
  replace KS := KS.trans k13
  have sz13 := k13.size
  have K13 := K12.trans k13
  have R13 := Lib.hid o13.code
  clear o13
  obtain ⟨x0, y0⟩ := B0.six
  obtain ⟨x3, y3⟩ := B3.six
  obtain ⟨x4, y4⟩ := B4.six
  obtain ⟨x5, y5⟩ := B5.six
  go_wp2_with fail
  clear x0 y0 x3 y3 x4 y4 x5 y5
  refine (dropElement_any _ z0 _ _ R13.out hs1).mono ?_
  rintro e w14 ⟨u14, rfl, o14, k14⟩
  replace B0 := B0.kept k14
  replace B3 := B3.kept k14
  replace B4 := B4.kept k14
  replace B5 := B5.kept k14
  replace R13 := Lib.hid (R13.out.kept k14)
  replace O4 := Lib.hid (O4.out.kept k14)
  replace O5 := Lib.hid (O5.out.kept k14)
  replace KS := KS.trans k14
  have sz14 := k14.size
  have K14 := K13.trans k14
  clear R13
  obtain ⟨n14, m14, rfl, p14, q14, nd14⟩ := o14
  obtain ⟨A14, c14, rfl, _⟩ := own_form p14.1
  obtain ⟨D14, d14, rfl, _⟩ := own_form q14
  have o14 : OwnK w14 _ (.agg #[.slice A14 (drV z0 a1).elems.length c14, .slice D14 (drV z0 a1).limits.length d14, .int .i64 (drV z0 a1).repeats, .int .i64 (drV z0 a1).bonus, .int .i64 (drV z0 a1).keeps, .int .i64 (drV z0 a1).fall]) (drV z0 a1) := ⟨_, _, rfl, p14, q14, nd14⟩
  clear p14 q14 nd14
  have RH := Lib.hid o14.code
  clear o14
  obtain ⟨x0, y0⟩ := B0.six
  have l0 := B0.lt
  obtain ⟨x3, y3⟩ := B3.six
  have l3 := B3.lt
  obtain ⟨x4, y4⟩ := B4.six
  have l4 := B4.lt
  obtain ⟨x5, y5⟩ := B5.six
  have l5 := B5.lt
  go_wp2_with fail
  clear x0 y0 l0 x3 y3 l3 x4 y4 l4 x5 y5 l5
  obtain ⟨wb5, hwb5⟩ : ∃ w' : World, w' = w14.alloc (.cells #[.slice A14 (drV z0 a1).elems.length c14, .slice D14 (drV z0 a1).limits.length d14, .int .i64 (drV z0 a1).repeats, .int .i64 (drV z0 a1).bonus, .int .i64 (drV z0 a1).keeps, .int .i64 (drV z0 a1).fall] 30) := ⟨_, rfl⟩
  rw [← hwb5]
  have KB14 : Kept w14 wb5 := hwb5 ▸ (Kept.refl w14).alloc _
  have B14 : Box wb5 w14.heap.size 30 #[.slice A14 (drV z0 a1).elems.length c14, .slice D14 (drV z0 a1).limits.length d14, .int .i64 (drV z0 a1).repeats, .int .i64 (drV z0 a1).bonus, .int .i64 (drV z0 a1).keeps, .int .i64 (drV z0 a1).fall] := hwb5 ▸ Box.new w14 w14.heap.size 30 #[.slice A14 (drV z0 a1).elems.length c14, .slice D14 (drV z0 a1).limits.length d14, .int .i64 (drV z0 a1).repeats, .int .i64 (drV z0 a1).bonus, .int .i64 (drV z0 a1).keeps, .int .i64 (drV z0 a1).fall] rfl
  have szwb5 : wb5.heap.size = w14.heap.size + 1 := by rw [hwb5]; simp
  clear hwb5
  replace B0 := B0.kept KB14
  replace B3 := B3.kept KB14
  replace B4 := B4.kept KB14
  replace B5 := B5.kept KB14
  replace RH := Lib.hid (RH.out.kept KB14)
  replace O4 := Lib.hid (O4.out.kept KB14)
  replace O5 := Lib.hid (O5.out.kept KB14)
  replace KS := KS.trans KB14
  have Kwb5 := K14.trans KB14
  refine (eqCode_any _ _ (drV z0 a1) _ RH.out (RS.out.kept KS)).mono ?_
  rintro e w15 ⟨rfl, k15⟩
  replace B0 := B0.kept k15
  replace B3 := B3.kept k15
  replace B4 := B4.kept k15
  replace B5 := B5.kept k15
  replace B14 := B14.kept k15
  replace RH := Lib.hid (RH.out.kept k15)
  replace O4 := Lib.hid (O4.out.kept k15)
  replace O5 := Lib.hid (O5.out.kept k15)
  replace KS := KS.trans k15
  have sz15 := k15.size
  have K15 := Kwb5.trans k15
  obtain ⟨x0, y0⟩ := B0.six
  obtain ⟨x3, y3⟩ := B3.six
  obtain ⟨x4, y4⟩ := B4.six
  obtain ⟨x5, y5⟩ := B5.six
  obtain ⟨x14, y14⟩ := B14.six
  go_wp2_with fail
  clear x0 y0 x3 y3 x4 y4 x5 y5 x14 y14
  refine (heldCode_any _ (drV z0 a1) _ _ O5.out.code (by omega) (by omega) (by omega) (by omega)).mono ?_
  rintro e w16 ⟨rfl, k16⟩
  replace B0 := B0.kept k16
  replace B3 := B3.kept k16
  replace B4 := B4.kept k16
  replace B5 := B5.kept k16
  replace B14 := B14.kept k16
  replace RH := Lib.hid (RH.out.kept k16)
  replace O4 := Lib.hid (O4.out.kept k16)
  replace O5 := Lib.hid (O5.out.kept k16)
  replace KS := KS.trans k16
  have sz16 := k16.size
  have K16 := K15.trans k16
  go_wp2_with fail
  go_ret
  exact ⟨rfl, K16⟩
end Go.Proofs.Yteebkplldggoiaa
