/- Contracts of functions that the proof leans on. No condition. -/
import Derived.Test.YtkekpolfdmmgeaaGreatDoorM00da53f3fe
/- Codes: DropElement. -/
namespace Go.Proofs.YtkekpolfdmmgeaaGreatDoor
set_option linter.unusedVariables false
set_option linter.unusedSimpArgs false
open Go.RowKit

def dropC (x : CodeD) (k : Nat) : CodeD := { x with elems := x.elems.take k ++ x.elems.drop (k + 1) }
def drB (x : CodeD) (s : ByteArray) : Bool := feOk x s && codeB (dropC x (findV x.elems s).toNat)
def drV (x : CodeD) (s : ByteArray) : CodeD := if feOk x s then ifC (dropC x (findV x.elems s).toNat) else zeroC
theorem drV_no {x : CodeD} {s : ByteArray} (h : feOk x s = false) : drV x s = zeroC := by unfold drV; rw [h]; rfl
theorem drB_no {x : CodeD} {s : ByteArray} (h : feOk x s = false) : drB x s = false := by unfold drB; rw [h]; rfl
theorem drV_yes {x : CodeD} {s : ByteArray} {k : Nat} (h : feOk x s = true) (hk : findV x.elems s = k) : drV x s = ifC (dropC x k) := by unfold drV; rw [h, hk]; rfl
theorem drB_yes {x : CodeD} {s : ByteArray} {k : Nat} (h : feOk x s = true) (hk : findV x.elems s = k) : drB x s = codeB (dropC x k) := by unfold drB; rw [h, hk, Bool.true_and]; rfl
theorem drV_len (x : CodeD) (s : ByteArray) : (drV x s).elems.length ≤ 24 ∧ (drV x s).limits.length ≤ 5 := by
  by_cases h : feOk x s = true
  · unfold drV; rw [h]; exact ifC_len _
  · simp only [Bool.not_eq_true] at h
    rw [drV_no h]
    exact ⟨by simp [zeroC], by simp [zeroC]⟩
theorem feOk_code {x : CodeD} {s : ByteArray} (h : feOk x s = true) : codeB x = true := by unfold feOk at h; rw [Bool.and_eq_true] at h; exact h.1
theorem feOk_at {x : CodeD} {s : ByteArray} (h : feOk x s = true) : ∃ k : Nat, findV x.elems s = k ∧ k < x.elems.length := by
  have h2 : 0 ≤ findV x.elems s := by unfold feOk at h; rw [Bool.and_eq_true] at h; exact of_decide_eq_true h.2
  rcases findV_cases x.elems s with e | ⟨k, y, e, hy, _⟩
  · omega
  · exact ⟨k, e, (List.getElem?_eq_some_iff.1 hy).1⟩
set_option maxRecDepth 100000 in
set_option maxHeartbeats 4000000 in
theorem dropElement_any (v : Value) (x : CodeD) (s : ByteArray) (w : World) (h : CodeAt w v x) (hsz : s.size ≤ maxLen) :
    Calls Tryz.prog 12 #[v, .string s] w fun e w' => ∃ v', e = .returned (.tuple #[v', .bool (drB x s)]) ∧ OwnK w' w.heap.size v' (drV x s) ∧ Kept w w' := by
  have h0 := h
  obtain ⟨nv, mv, rfl, q1, q2⟩ := h
  obtain ⟨A, c, rfl, hnc, hcm, hl⟩ := q1.1.out
  obtain ⟨A2, c2, rfl, _, _, _⟩ := q2.out
  unfold maxLen at hcm
  have HL := Lib.hid hl
  have HS := Lib.hid q1.2
  have H0 := Lib.hid h0
  have HE := Lib.hid q1
  clear h0 q1 q2 hl
  go_enter Tryz.func12, Tryz.ntmps12
  go_wp2_with fail
  have B0 := (Box.new w w.heap.size 26 #[.slice A x.elems.length c, .slice A2 x.limits.length c2, .int .i64 x.repeats, .int .i64 x.bonus, .int .i64 x.keeps, .int .i64 x.fall] rfl).alloc (.cells #[.slice none 0 0, .slice none 0 0, .int .i64 0, .int .i64 0, .int .i64 0, .int .i64 0] 26)
  have B1 := Box.new (w.alloc (.cells #[.slice A x.elems.length c, .slice A2 x.limits.length c2, .int .i64 x.repeats, .int .i64 x.bonus, .int .i64 x.keeps, .int .i64 x.fall] 26)) (w.heap.size + 1) 26 #[.slice none 0 0, .slice none 0 0, .int .i64 0, .int .i64 0, .int .i64 0, .int .i64 0] (by simp)
  have K0 : Kept w ((w.alloc (.cells #[.slice A x.elems.length c, .slice A2 x.limits.length c2, .int .i64 x.repeats, .int .i64 x.bonus, .int .i64 x.keeps, .int .i64 x.fall] 26)).alloc (.cells #[.slice none 0 0, .slice none 0 0, .int .i64 0, .int .i64 0, .int .i64 0, .int .i64 0] 26)) := ((Kept.refl w).alloc _).alloc _
  generalize (w.alloc (.cells #[.slice A x.elems.length c, .slice A2 x.limits.length c2, .int .i64 x.repeats, .int .i64 x.bonus, .int .i64 x.keeps, .int .i64 x.fall] 26)).alloc (.cells #[.slice none 0 0, .slice none 0 0, .int .i64 0, .int .i64 0, .int .i64 0, .int .i64 0] 26) = w0 at *
  have hzw : w.heap.size + 1 < w0.heap.size := B1.lt
  refine (implFindElement_any _ x s _ (H0.out.kept K0) hsz).mono ?_
  rintro e w1 ⟨rfl, k1⟩
  replace B0 := B0.kept k1
  replace B1 := B1.kept k1
  have K1 := K0.trans k1
  have hz1 := k1.size
  clear K0 k1
  by_cases hb : feOk x s = true
  case neg =>
    simp only [Bool.not_eq_true] at hb
    have HB := Lib.hid hb
    rw [hb]
    clear hb
    go_upto_region 3 with (fail)
    obtain ⟨x1, y1⟩ := B1.six
    go_wp2_with fail
    clear x1 y1
    obtain ⟨w3, hw3, B3, Q3⟩ := set6 B1 (.slice none 0 0) (.slice none 0 0) (.int .i64 0) (.int .i64 0) (.int .i64 0) (.int .i64 0)
    rw [← hw3]
    clear hw3
    obtain ⟨cc, ff⟩ := B3.six
    exact bodyPost_ret (v := .tuple #[.agg #[.slice none 0 0, .slice none 0 0, .int .i64 0, .int .i64 0, .int .i64 0, .int .i64 0], .bool false]) (by simp [results, Tryz.results12, go_sem, cc, ff]) rfl ⟨_, by rw [drB_no HB.out], by rw [drV_no HB.out]; exact zeroC_own _ _, Q3.above K1 (by simp)⟩
  obtain ⟨k, hk, hkl⟩ := feOk_at hb
  have hc : codeB x = true := feOk_code hb
  have hl24 := (codeB_heads hc).1.2
  have hl5 : x.limits.length ≤ 5 := Nat.le_of_eq (codeB_heads hc).2
  rw [feV_yes hb, hk, hb]
  have HB := Lib.hid hb
  have HK := Lib.hid hk
  clear hb hc hk
  go_upto_region 4 with (fail)
  obtain ⟨X, hX⟩ : ∃ X, ifC (dropC x k) = X := ⟨_, rfl⟩
  obtain ⟨bb, hbb⟩ : ∃ bb, codeB (dropC x k) = bb := ⟨_, rfl⟩
  have HX := Lib.hid hX
  have HBB := Lib.hid hbb
  clear hX hbb
  have B0d : Box w1.drew w.heap.size 26 #[.slice A x.elems.length c, .slice A2 x.limits.length c2, .int .i64 x.repeats, .int .i64 x.bonus, .int .i64 x.keeps, .int .i64 x.fall] := B0
  have B0a : Box (w1.alloc (.cells #[] 31)).drew w.heap.size 26 #[.slice A x.elems.length c, .slice A2 x.limits.length c2, .int .i64 x.repeats, .int .i64 x.bonus, .int .i64 x.keeps, .int .i64 x.fall] := B0.alloc _
  have B1d : Box w1.drew (w.heap.size + 1) 26 #[.slice none 0 0, .slice none 0 0, .int .i64 0, .int .i64 0, .int .i64 0, .int .i64 0] := B1
  have K1d : Kept w w1.drew := K1.drew
  have hzd : w1.drew.heap.size = w1.heap.size := rfl
  have hzz : w.heap.size + 1 < w1.heap.size := B1.lt
  have hw1 : IntKind.i64.wrap ((k : Int) + 1) = (k : Int) + 1 := IntWalk.i64_in _ (by omega)
  have hkb : (k : Int) ≤ 24 := by omega
  clear B0 B1
  go_region_held3 (fun w' => w'.cell? ⟨w.heap.size, 0, none⟩ = some (.slice A x.elems.length c) ∧ w'.cell? ⟨w.heap.size, 1, none⟩ = some (.slice A2 x.limits.length c2) ∧ w'.cell? ⟨w.heap.size, 2, none⟩ = some (.int .i64 x.repeats) ∧ w'.cell? ⟨w.heap.size, 3, none⟩ = some (.int .i64 x.bonus) ∧ w'.cell? ⟨w.heap.size, 4, none⟩ = some (.int .i64 x.keeps) ∧ w'.cell? ⟨w.heap.size, 5, none⟩ = some (.int .i64 x.fall)) (first | (with_reducible exact B0d.six.1) | (with_reducible exact B0a.six.1) | (with_reducible exact (B0d.kept (by assumption)).six.1) | (with_reducible exact (Box.far6 (B0d.kept (by assumption)) (by omega) _ _ _ _ _ _).six.1)) (first | (refine step_append_E _ rfl _ _ rfl w1.drew.heap.size _ [] rfl ⟨own_made _ _ 4 (Nat.le_refl _) (Box.new _ _ _ _ rfl), (fun _ h => by cases h)⟩ _ x.elems rfl (HE.out.kept (K1d.alloc _)) (by simp; omega) (by simp) ?_; intro v2 w2 o2 hg2; have k2 := ((Kept.refl w1.drew).alloc (.cells #[] 31)).grew (own_made (base := w1.drew.heap.size) _ _ 4 (Nat.le_refl _) (Box.new _ _ _ _ rfl)) hg2 (Nat.le_refl _); clear hg2; rw [List.nil_append] at o2; have O2 := Lib.hid o2; have F2 := Lib.hid (own_fp o2.1); clear o2) | (go_at_call 63; refine (delE_any _ x.elems k _ w1.drew.heap.size O2.out hkl).mono ?_; rintro e w3 ⟨v3, rfl, o3, on3⟩; have k3 := on3.above k2 (fun b hb => (F2.out b hb).1); have O3 := Lib.hid o3; clear o3 on3) | (go_at_call 57; refine (asCode_is X bb _ _ x _ _ w1.drew.heap.size HX.out HBB.out (H0.out.kept (K1d.trans k3)) O3.out k3.size (by omega)).mono ?_; rintro e w4 ⟨v4, rfl, o4, k4⟩; have k14 := k3.trans k4; obtain ⟨na, ma, rfl, pa, qa, nda⟩ := o4; obtain ⟨Aa, ca, rfl, _⟩ := own_form pa.1; obtain ⟨Da, da, rfl, _⟩ := own_form qa; have OR : Hid (OwnK w4 w1.drew.heap.size (.agg #[.slice Aa X.elems.length ca, .slice Da X.limits.length da, .int .i64 X.repeats, .int .i64 X.bonus, .int .i64 X.keeps, .int .i64 X.fall]) X) := (⟨_, _, rfl, pa, qa, nda⟩ : OwnK w4 w1.drew.heap.size _ X); clear pa qa nda; obtain ⟨cc, ff⟩ := (B1d.kept k14).six))
  rename_i hheld
  clear hheld cc ff
  obtain ⟨w9, hw9, B9, Q9⟩ := set6 (B1d.kept k14) (.slice Aa X.elems.length ca) (.slice Da X.limits.length da) (.int .i64 X.repeats) (.int .i64 X.bonus) (.int .i64 X.keeps) (.int .i64 X.fall)
  rw [← hw9]
  clear hw9
  obtain ⟨cc, ff⟩ := B9.six
  go_wp2_with fail
  refine bodyPost_ret (v := .tuple #[.agg #[.slice Aa X.elems.length ca, .slice Da X.limits.length da, .int .i64 X.repeats, .int .i64 X.bonus, .int .i64 X.keeps, .int .i64 X.fall], .bool bb]) (by simp [results, Tryz.results12, go_sem, cc, ff]) rfl ⟨_, by rw [drB_yes HB.out HK.out, HBB.out], ?_, Q9.above (K1d.trans k14) (by simp)⟩
  rw [drV_yes HB.out HK.out, HX.out]
  exact OwnK.far OR.out Q9 (by simp; omega) (by omega)
set_option maxRecDepth 100000 in
set_option maxHeartbeats 4000000 in
theorem specDropElement_any (v : Value) (x : CodeD) (s : ByteArray) (w : World) (h : CodeAt w v x) (hsz : s.size ≤ maxLen) :
    Calls Tryz.prog 13 #[v, .string s] w fun e w' => ∃ v', e = .returned (.tuple #[v', .bool (drB x s)]) ∧ OwnK w' w.heap.size v' (drV x s) ∧ Kept w w' := by
  have h0 := h
  obtain ⟨nv, mv, rfl, q1, q2⟩ := h
  obtain ⟨A, c, rfl, hnc, hcm, hl⟩ := q1.1.out
  obtain ⟨A2, c2, rfl, _, _, _⟩ := q2.out
  unfold maxLen at hcm
  have HL := Lib.hid hl
  have HS := Lib.hid q1.2
  have H0 := Lib.hid h0
  have HE := Lib.hid q1
  clear h0 q1 q2 hl
  go_enter Tryz.func13, Tryz.ntmps13
  go_wp2_with fail
  have B0 := (Box.new w w.heap.size 26 #[.slice A x.elems.length c, .slice A2 x.limits.length c2, .int .i64 x.repeats, .int .i64 x.bonus, .int .i64 x.keeps, .int .i64 x.fall] rfl).alloc (.cells #[.slice none 0 0, .slice none 0 0, .int .i64 0, .int .i64 0, .int .i64 0, .int .i64 0] 26)
  have B1 := Box.new (w.alloc (.cells #[.slice A x.elems.length c, .slice A2 x.limits.length c2, .int .i64 x.repeats, .int .i64 x.bonus, .int .i64 x.keeps, .int .i64 x.fall] 26)) (w.heap.size + 1) 26 #[.slice none 0 0, .slice none 0 0, .int .i64 0, .int .i64 0, .int .i64 0, .int .i64 0] (by simp)
  have K0 : Kept w ((w.alloc (.cells #[.slice A x.elems.length c, .slice A2 x.limits.length c2, .int .i64 x.repeats, .int .i64 x.bonus, .int .i64 x.keeps, .int .i64 x.fall] 26)).alloc (.cells #[.slice none 0 0, .slice none 0 0, .int .i64 0, .int .i64 0, .int .i64 0, .int .i64 0] 26)) := ((Kept.refl w).alloc _).alloc _
  generalize (w.alloc (.cells #[.slice A x.elems.length c, .slice A2 x.limits.length c2, .int .i64 x.repeats, .int .i64 x.bonus, .int .i64 x.keeps, .int .i64 x.fall] 26)).alloc (.cells #[.slice none 0 0, .slice none 0 0, .int .i64 0, .int .i64 0, .int .i64 0, .int .i64 0] 26) = w0 at *
  have hzw : w.heap.size + 1 < w0.heap.size := B1.lt
  refine (cdFind_any _ x s _ (H0.out.kept K0)).mono ?_
  rintro e wf ⟨rfl, kf⟩
  replace B0 := B0.kept kf
  replace B1 := B1.kept kf
  have Kf := K0.trans kf
  have hzf := kf.size
  clear K0 kf
  obtain ⟨x0, y0⟩ := B0.six
  go_wp2_with fail
  clear x0 y0
  refine (cdGood_any _ x _ (H0.out.kept Kf)).mono ?_
  rintro e w1 ⟨rfl, k1⟩
  replace B0 := B0.kept k1
  replace B1 := B1.kept k1
  have K1 := Kf.trans k1
  have hz1 := k1.size
  clear Kf k1
  by_cases hb : feOk x s = true
  case neg =>
    simp only [Bool.not_eq_true] at hb
    have HB := Lib.hid hb
    by_cases hc : codeB x = true
    · rw [hc]
      have hneg : findV x.elems s < 0 := by
        unfold feOk at hb
        rw [hc, Bool.true_and] at hb
        have := of_decide_eq_false hb
        omega
      clear hb
      go_upto_region 3 with (fail)
      obtain ⟨x1, y1⟩ := B1.six
      go_wp2_with fail
      clear x1 y1
      obtain ⟨w3, hw3, B3, Q3⟩ := set6 B1 (.slice none 0 0) (.slice none 0 0) (.int .i64 0) (.int .i64 0) (.int .i64 0) (.int .i64 0)
      rw [← hw3]
      clear hw3
      obtain ⟨cc, ff⟩ := B3.six
      exact bodyPost_ret (v := .tuple #[.agg #[.slice none 0 0, .slice none 0 0, .int .i64 0, .int .i64 0, .int .i64 0, .int .i64 0], .bool false]) (by simp [results, Tryz.results13, go_sem, cc, ff]) rfl ⟨_, by rw [drB_no HB.out], by rw [drV_no HB.out]; exact zeroC_own _ _, Q3.above K1 (by simp)⟩
    · simp only [Bool.not_eq_true] at hc
      rw [hc]
      clear hb
      go_upto_region 3 with (fail)
      obtain ⟨x1, y1⟩ := B1.six
      go_wp2_with fail
      clear x1 y1
      obtain ⟨w3, hw3, B3, Q3⟩ := set6 B1 (.slice none 0 0) (.slice none 0 0) (.int .i64 0) (.int .i64 0) (.int .i64 0) (.int .i64 0)
      rw [← hw3]
      clear hw3
      obtain ⟨cc, ff⟩ := B3.six
      exact bodyPost_ret (v := .tuple #[.agg #[.slice none 0 0, .slice none 0 0, .int .i64 0, .int .i64 0, .int .i64 0, .int .i64 0], .bool false]) (by simp [results, Tryz.results13, go_sem, cc, ff]) rfl ⟨_, by rw [drB_no HB.out], by rw [drV_no HB.out]; exact zeroC_own _ _, Q3.above K1 (by simp)⟩
  obtain ⟨k, hk, hkl⟩ := feOk_at hb
  have hc : codeB x = true := feOk_code hb
  have hl24 := (codeB_heads hc).1.2
  have hl1 := (codeB_heads hc).1.1
  have hl5 : x.limits.length ≤ 5 := Nat.le_of_eq (codeB_heads hc).2
  rw [hc]
  have HB := Lib.hid hb
  have HK := Lib.hid hk
  rw [hk]
  clear hb hc hk
  have hzb : w.heap.size < w1.heap.size := B0.lt
  obtain ⟨x0, y0⟩ := B0.six
  go_wp2_with fail
  clear x0 y0
  refine (cdOwn_any _ x _ (H0.out.kept K1) (by omega) (by omega)).mono ?_
  rintro e w2 ⟨v2, rfl, o2, k2⟩
  have F2 := Lib.hid o2.fps
  obtain ⟨n2, m2, rfl, p2, q2, nd2⟩ := o2
  obtain ⟨A3, c3, rfl, _, _, hA3⟩ := own_form p2.1
  obtain ⟨A4, c4, rfl, _⟩ := own_form q2
  have Q2 := Lib.hid q2
  clear p2 q2 nd2 hA3
  replace B0 := B0.kept k2
  replace B1 := B1.kept k2
  have K2 := K1.trans k2
  have hz2 := k2.size
  have hzb2 : w.heap.size < w2.heap.size := B0.lt
  go_upto_region 5 with (fail)
  obtain ⟨w3, hw3⟩ : ∃ w' : World, w' = w2.alloc (.cells #[.slice A3 x.elems.length c3, .slice A4 x.limits.length c4, .int .i64 x.repeats, .int .i64 x.bonus, .int .i64 x.keeps, .int .i64 x.fall] 26) := ⟨_, rfl⟩
  rw [← hw3]
  have k3 : Kept w2 w3 := hw3 ▸ (Kept.refl w2).alloc _
  have B6 : Box w3 w2.heap.size 26 #[.slice A3 x.elems.length c3, .slice A4 x.limits.length c4, .int .i64 x.repeats, .int .i64 x.bonus, .int .i64 x.keeps, .int .i64 x.fall] := hw3 ▸ Box.new w2 w2.heap.size 26 _ rfl
  have hz3 : w2.heap.size < w3.heap.size := B6.lt
  clear hw3
  replace B0 := B0.kept k3
  replace B1 := B1.kept k3
  replace Q2 := Lib.hid (Q2.out.kept k3)
  have K3 := K2.trans k3
  obtain ⟨b, o, _, rfl, hbl, _, _⟩ := elems_at (HL.out.kept K3) hkl
  have hnl : x.elems.length = x.elems.length := rfl
  have E3 := HE.out.kept K3
  have T3 := Lib.hid (elems_to E3 rfl (i := k) (by omega))
  have HE3 := Lib.hid E3
  clear E3
  have hw1 : IntKind.i64.wrap ((k : Int) + 1) = (k : Int) + 1 := IntWalk.i64_in _ (by omega)
  have h0k : (0 : Int) ≤ (k : Int) + 1 := by omega
  have htn : ((k : Int) + 1).toNat = k + 1 := by omega
  have hkn : (k : Int) + 1 ≤ (x.elems.length : Int) := by omega
  have hkc : (k : Int) ≤ (c : Int) := by omega
  have hkc' : k ≤ c := by omega
  have B0d : Box w3.drew w.heap.size 26 #[.slice (some ⟨b, o, none⟩) x.elems.length c, .slice A2 x.limits.length c2, .int .i64 x.repeats, .int .i64 x.bonus, .int .i64 x.keeps, .int .i64 x.fall] := B0
  have B0a : Box (w3.alloc (.cells #[] 31)).drew w.heap.size 26 #[.slice (some ⟨b, o, none⟩) x.elems.length c, .slice A2 x.limits.length c2, .int .i64 x.repeats, .int .i64 x.bonus, .int .i64 x.keeps, .int .i64 x.fall] := B0.alloc _
  have B6d : Box w3.drew w2.heap.size 26 #[.slice A3 x.elems.length c3, .slice A4 x.limits.length c4, .int .i64 x.repeats, .int .i64 x.bonus, .int .i64 x.keeps, .int .i64 x.fall] := B6
  have K3d : Kept w3 w3.drew := (Kept.refl w3).drew
  obtain ⟨ED, hED⟩ : ∃ ED, x.elems.take k ++ x.elems.drop (k + 1) = ED := ⟨_, rfl⟩
  have HED := Lib.hid hED
  clear hED
  by_cases hck : c = k + 1
  · subst hck
    have hii1 : (k : Int) ≤ (k : Int) + 1 := by omega
    have U3 : Hid (Elems w3 (.slice (some ⟨b, o, none⟩) 0 0) (x.elems.drop (k + 1))) := elems_none (by omega)
    go_region_held3 (fun w' => w'.cell? ⟨w.heap.size, 0, none⟩ = some (.slice (some ⟨b, o, none⟩) x.elems.length (k + 1))) (first | (with_reducible exact B0d.six.1.1) | (with_reducible exact B0a.six.1.1) | (with_reducible exact (B0d.kept (by assumption)).six.1.1) | (with_reducible exact ((B0d.kept (by assumption)).far ⟨w2.heap.size, 0, none⟩ (by dsimp only; omega) _).six.1.1)) (first | (refine step_append_E _ rfl (.tmp 21) (.tmp 25) rfl w3.drew.heap.size _ [] rfl ⟨own_made _ _ 4 (Nat.le_refl _) (Box.new _ _ _ _ rfl), (fun _ h => by cases h)⟩ _ (x.elems.take k) rfl (T3.out.kept (K3d.alloc _)) (by simp; omega) (by simp) ?_; intro v6 w6 o6 hg6; have k6 := ((Kept.refl w3.drew).alloc (.cells #[] 31)).grew (own_made (base := w3.drew.heap.size) _ _ 4 (Nat.le_refl _) (Box.new _ _ _ _ rfl)) hg6 (Nat.le_refl _); clear hg6; rw [List.nil_append] at o6; have O6 := Lib.hid o6; clear o6) | (refine step_append_E _ rfl (.tmp 26) (.tmp 31) rfl w3.drew.heap.size _ _ rfl O6.out _ (x.elems.drop (k + 1)) rfl (U3.out.kept (K3d.trans k6)) (by rw [List.length_take, List.length_drop]; omega) k6.size ?_; intro v7 w7 o7 hg7; have k7 := k6.grew O6.out.1 hg7 (Nat.le_refl _); clear hg7; rw [HED.out] at o7; obtain ⟨A7, c7, rfl, _⟩ := own_form o7.1; have O7 := Lib.hid o7; clear o7; have h7c : w7.cell? ⟨w2.heap.size, 0, none⟩ = some (.slice A3 x.elems.length c3) := (B6d.kept k7).six.1.1; have h7f : w7.frozen? ⟨w2.heap.size, 0, none⟩ = false := (B6d.kept k7).six.2.1))
    rename_i hheld
    clear hheld h7c h7f
    have F7 := Lib.hid (own_fp O7.out.1)
    have FQ := Lib.hid (own_fp Q2.out)
    have hz7 := k7.size
    have hzd : w3.drew.heap.size = w3.heap.size := rfl
    obtain ⟨w8, hw8⟩ : ∃ w8, w8 = w7.setCell ⟨w2.heap.size, 0, none⟩ (.slice A7 ED.length c7) := ⟨_, rfl⟩
    have Q8 : Only [w2.heap.size] w7 w8 := by rw [hw8]; exact Only.setCell (Only.refl _ _) (by simp) _
    have B68 : Box w8 w2.heap.size 26 #[.slice A7 ED.length c7, .slice A4 x.limits.length c4, .int .i64 x.repeats, .int .i64 x.bonus, .int .i64 x.keeps, .int .i64 x.fall] := hw8 ▸ (B6d.kept k7).set 0 _
    have B18 := (B1.kept (K3d.trans k7)).only Q8 (by simp; omega)
    have K8 : Kept w w8 := Q8.above (K3.trans (K3d.trans k7)) (by simp; omega)
    have HDC : Hid (dropC x k = { x with elems := ED }) := by unfold dropC; rw [HED.out]; rfl
    have HKK : Hid (OwnK w8 w1.heap.size (.agg #[.slice A7 ED.length c7, .slice A4 x.limits.length c4, .int .i64 x.repeats, .int .i64 x.bonus, .int .i64 x.keeps, .int .i64 x.fall]) (dropC x k)) := by
      rw [HDC.out]
      refine ⟨_, _, rfl, (OwnE.base O7.out (by omega)).only Q8 (fun b hb hs => ?_), (Q2.out.kept (K3d.trans k7)).only Q8 (fun b hb hs => ?_), ?_⟩
      · have := F7.out b hb; simp at hs; omega
      · have := F2.out b (by rw [fpA_code]; exact List.mem_append_right _ hb); simp at hs; omega
      · rw [fpA_code, List.nodup_append]
        refine ⟨nodup_one _, nodup_one _, fun y hy z hz e => ?_⟩
        have h1 := F7.out y hy
        have h2 := F2.out z (by rw [fpA_code]; exact List.mem_append_right _ hz)
        omega
    have hz8 := K8.size
    have hz8' : w1.heap.size ≤ w8.heap.size := by have := Q8.size; omega
    rw [← hw8]
    clear hw8
    obtain ⟨x0, y0⟩ := B68.six
    go_wp2_with fail
    clear x0 y0
    obtain ⟨X, hX⟩ : ∃ X, ifC (dropC x k) = X := ⟨_, rfl⟩
    obtain ⟨bb, hbb⟩ : ∃ bb, codeB (dropC x k) = bb := ⟨_, rfl⟩
    have HX := Lib.hid hX
    have HBB := Lib.hid hbb
    clear hX hbb
    refine (cdIf_is X bb _ (dropC x k) _ w1.heap.size HX.out HBB.out HKK.out hz8').mono ?_
    rintro e w4 ⟨v4, rfl, o4, k4⟩
    replace B1 := B18.kept k4
    have K4 := K8.trans k4
    have HNE : Hid (∀ b ∈ fpA v4, b ≠ w.heap.size + 1) := fun b hb e => by have := o4.fps b hb; omega
    replace o4 := o4.base (base' := w.heap.size) (by omega)
    have FR := Lib.hid (o4.fps)
    obtain ⟨na, ma, rfl, pa, qa, nda⟩ := o4
    obtain ⟨Aa, ca, rfl, _⟩ := own_form pa.1
    obtain ⟨Da, da, rfl, _⟩ := own_form qa
    have OR : Hid (OwnK w4 w.heap.size (.agg #[.slice Aa X.elems.length ca, .slice Da X.limits.length da, .int .i64 X.repeats, .int .i64 X.bonus, .int .i64 X.keeps, .int .i64 X.fall]) (X)) := ⟨_, _, rfl, pa, qa, nda⟩
    clear pa qa nda
    obtain ⟨x1, y1⟩ := B1.six
    go_wp2_with fail
    clear x1 y1
    obtain ⟨w9, hw9, B9, Q9⟩ := set6 B1 (.slice Aa X.elems.length ca) (.slice Da X.limits.length da) (.int .i64 X.repeats) (.int .i64 X.bonus) (.int .i64 X.keeps) (.int .i64 X.fall)
    rw [← hw9]
    clear hw9
    obtain ⟨cc, ff⟩ := B9.six
    refine bodyPost_ret (v := .tuple #[.agg #[.slice Aa X.elems.length ca, .slice Da X.limits.length da, .int .i64 X.repeats, .int .i64 X.bonus, .int .i64 X.keeps, .int .i64 X.fall], .bool bb]) (by simp [results, Tryz.results13, go_sem, cc, ff]) rfl ⟨_, by rw [drB_yes HB.out HK.out, HBB.out], ?_, Q9.above K4 (by simp)⟩
    rw [drV_yes HB.out HK.out, HX.out]
    exact OR.out.only Q9 (fun b hb hs => HNE.out b hb (by simpa using hs))
  · have U3 := Lib.hid (elems_from HE3.out rfl (k := k + 1) (by omega))
    go_region_held3 (fun w' => w'.cell? ⟨w.heap.size, 0, none⟩ = some (.slice (some ⟨b, o, none⟩) x.elems.length c)) (first | (with_reducible exact B0d.six.1.1) | (with_reducible exact B0a.six.1.1) | (with_reducible exact (B0d.kept (by assumption)).six.1.1) | (with_reducible exact ((B0d.kept (by assumption)).far ⟨w2.heap.size, 0, none⟩ (by dsimp only; omega) _).six.1.1)) (first | (refine step_append_E _ rfl (.tmp 21) (.tmp 25) rfl w3.drew.heap.size _ [] rfl ⟨own_made _ _ 4 (Nat.le_refl _) (Box.new _ _ _ _ rfl), (fun _ h => by cases h)⟩ _ (x.elems.take k) rfl (T3.out.kept (K3d.alloc _)) (by simp; omega) (by simp) ?_; intro v6 w6 o6 hg6; have k6 := ((Kept.refl w3.drew).alloc (.cells #[] 31)).grew (own_made (base := w3.drew.heap.size) _ _ 4 (Nat.le_refl _) (Box.new _ _ _ _ rfl)) hg6 (Nat.le_refl _); clear hg6; rw [List.nil_append] at o6; have O6 := Lib.hid o6; clear o6) | (refine step_append_E _ rfl (.tmp 26) (.tmp 31) rfl w3.drew.heap.size _ _ rfl O6.out _ (x.elems.drop (k + 1)) rfl (U3.out.kept (K3d.trans k6)) (by rw [List.length_take, List.length_drop]; omega) k6.size ?_; intro v7 w7 o7 hg7; have k7 := k6.grew O6.out.1 hg7 (Nat.le_refl _); clear hg7; rw [HED.out] at o7; obtain ⟨A7, c7, rfl, _⟩ := own_form o7.1; have O7 := Lib.hid o7; clear o7; have h7c : w7.cell? ⟨w2.heap.size, 0, none⟩ = some (.slice A3 x.elems.length c3) := (B6d.kept k7).six.1.1; have h7f : w7.frozen? ⟨w2.heap.size, 0, none⟩ = false := (B6d.kept k7).six.2.1))
    rename_i hheld
    clear hheld h7c h7f
    have F7 := Lib.hid (own_fp O7.out.1)
    have FQ := Lib.hid (own_fp Q2.out)
    have hz7 := k7.size
    have hzd : w3.drew.heap.size = w3.heap.size := rfl
    obtain ⟨w8, hw8⟩ : ∃ w8, w8 = w7.setCell ⟨w2.heap.size, 0, none⟩ (.slice A7 ED.length c7) := ⟨_, rfl⟩
    have Q8 : Only [w2.heap.size] w7 w8 := by rw [hw8]; exact Only.setCell (Only.refl _ _) (by simp) _
    have B68 : Box w8 w2.heap.size 26 #[.slice A7 ED.length c7, .slice A4 x.limits.length c4, .int .i64 x.repeats, .int .i64 x.bonus, .int .i64 x.keeps, .int .i64 x.fall] := hw8 ▸ (B6d.kept k7).set 0 _
    have B18 := (B1.kept (K3d.trans k7)).only Q8 (by simp; omega)
    have K8 : Kept w w8 := Q8.above (K3.trans (K3d.trans k7)) (by simp; omega)
    have HDC : Hid (dropC x k = { x with elems := ED }) := by unfold dropC; rw [HED.out]; rfl
    have HKK : Hid (OwnK w8 w1.heap.size (.agg #[.slice A7 ED.length c7, .slice A4 x.limits.length c4, .int .i64 x.repeats, .int .i64 x.bonus, .int .i64 x.keeps, .int .i64 x.fall]) (dropC x k)) := by
      rw [HDC.out]
      refine ⟨_, _, rfl, (OwnE.base O7.out (by omega)).only Q8 (fun b hb hs => ?_), (Q2.out.kept (K3d.trans k7)).only Q8 (fun b hb hs => ?_), ?_⟩
      · have := F7.out b hb; simp at hs; omega
      · have := F2.out b (by rw [fpA_code]; exact List.mem_append_right _ hb); simp at hs; omega
      · rw [fpA_code, List.nodup_append]
        refine ⟨nodup_one _, nodup_one _, fun y hy z hz e => ?_⟩
        have h1 := F7.out y hy
        have h2 := F2.out z (by rw [fpA_code]; exact List.mem_append_right _ hz)
        omega
    have hz8 := K8.size
    have hz8' : w1.heap.size ≤ w8.heap.size := by have := Q8.size; omega
    rw [← hw8]
    clear hw8
    obtain ⟨x0, y0⟩ := B68.six
    go_wp2_with fail
    clear x0 y0
    obtain ⟨X, hX⟩ : ∃ X, ifC (dropC x k) = X := ⟨_, rfl⟩
    obtain ⟨bb, hbb⟩ : ∃ bb, codeB (dropC x k) = bb := ⟨_, rfl⟩
    have HX := Lib.hid hX
    have HBB := Lib.hid hbb
    clear hX hbb
    refine (cdIf_is X bb _ (dropC x k) _ w1.heap.size HX.out HBB.out HKK.out hz8').mono ?_
    rintro e w4 ⟨v4, rfl, o4, k4⟩
    replace B1 := B18.kept k4
    have K4 := K8.trans k4
    have HNE : Hid (∀ b ∈ fpA v4, b ≠ w.heap.size + 1) := fun b hb e => by have := o4.fps b hb; omega
    replace o4 := o4.base (base' := w.heap.size) (by omega)
    have FR := Lib.hid (o4.fps)
    obtain ⟨na, ma, rfl, pa, qa, nda⟩ := o4
    obtain ⟨Aa, ca, rfl, _⟩ := own_form pa.1
    obtain ⟨Da, da, rfl, _⟩ := own_form qa
    have OR : Hid (OwnK w4 w.heap.size (.agg #[.slice Aa X.elems.length ca, .slice Da X.limits.length da, .int .i64 X.repeats, .int .i64 X.bonus, .int .i64 X.keeps, .int .i64 X.fall]) (X)) := ⟨_, _, rfl, pa, qa, nda⟩
    clear pa qa nda
    obtain ⟨x1, y1⟩ := B1.six
    go_wp2_with fail
    clear x1 y1
    obtain ⟨w9, hw9, B9, Q9⟩ := set6 B1 (.slice Aa X.elems.length ca) (.slice Da X.limits.length da) (.int .i64 X.repeats) (.int .i64 X.bonus) (.int .i64 X.keeps) (.int .i64 X.fall)
    rw [← hw9]
    clear hw9
    obtain ⟨cc, ff⟩ := B9.six
    refine bodyPost_ret (v := .tuple #[.agg #[.slice Aa X.elems.length ca, .slice Da X.limits.length da, .int .i64 X.repeats, .int .i64 X.bonus, .int .i64 X.keeps, .int .i64 X.fall], .bool bb]) (by simp [results, Tryz.results13, go_sem, cc, ff]) rfl ⟨_, by rw [drB_yes HB.out HK.out, HBB.out], ?_, Q9.above K4 (by simp)⟩
    rw [drV_yes HB.out HK.out, HX.out]
    exact OR.out.only Q9 (fun b hb hs => HNE.out b hb (by simpa using hs))
end Go.Proofs.YtkekpolfdmmgeaaGreatDoor

/- append to a row just built of no element, in a region that draws its order: where the new row lies. -/
namespace Go.Proofs.YtkekpolfdmmgeaaGreatDoor
set_option linter.unusedVariables false
set_option linter.unusedSimpArgs false
open Go.RowKit

theorem run_append_loc {P : Program} (w : World) (base : Nat) (t ty e : TypeId) (i : TypeInfo) (z : Value) (size bytes : Nat) (ht : P.underlying t = some (.slice e)) (hi : P.info? e = some i) (hz : i.zero = some z)
    (hsize : i.size = size) (hby : i.bytes = bytes) (hzs : z.cells.size = size) (hsz : 0 < size)
    (v : Value) (n : Nat) (xs : List Value) (hown : w.ownsRow base e size v n xs)
    (u : Value) (m : Nat) (news : List Value) (hr : Seq w u m news) (hl : news.length = m * size) (h1 : ∀ y ∈ news, y.oneCell' = true)
    (h63 : n + m ≤ maxLen) (hbytes : (n + m) * bytes ≤ 140737488355328) (hbase : base ≤ w.heap.size) :
    ∃ v' w', (Builtin.append_ #[t, t] ty #[v, u]).run P w = .ok v' w' ∧ w'.ownsRow base e size v' (n + m) (xs ++ news) ∧ w.grownBy w' v.ownBlock ∧ (v'.ownBlock = v.ownBlock ∨ v'.ownBlock = some w.heap.size) := by
  obtain ⟨A, c, rfl, hnc, hcm, hA, hc⟩ := hr
  rcases A with _ | ad
  · obtain rfl := hA rfl
    obtain rfl : m = 0 := by omega
    obtain rfl : news = [] := List.eq_nil_of_length_eq_zero (by simpa using hl)
    exact ⟨v, w, run_append_of_nil w base t ty e i size ht hi v n xs hown 0, by simpa using hown, World.grownBy.refl w _, .inl rfl⟩
  · have hcells : ∀ j y, news[j]? = some y → w.cell? (ad.add j) = some y := by
      intro j y hy
      have hm : 0 < m := by
        rcases Nat.eq_zero_or_pos m with h0 | h0
        · subst h0
          have : news = [] := List.eq_nil_of_length_eq_zero (by simpa using hl)
          subst this
          simp at hy
        · exact h0
      obtain ⟨b, o', e1, hb, hcell⟩ := hc hm
      injection e1 with e1
      subst e1
      have := hcell j y hy
      rwa [show (⟨b, o', none⟩ : Addr).add j = ⟨b, o' + j, none⟩ from by unfold Addr.add; split <;> simp_all]
    obtain ⟨v', w', hrun, h2, h3, _, h5⟩ := run_append_own_at (P := P) w base t ty e i z size bytes ht hi hz hsize hby hzs hsz v n xs hown ad m c news hl hcells h1 h63 hbytes hbase
    exact ⟨v', w', hrun, h2, h3, h5⟩
set_option maxRecDepth 100000 in
theorem step_append_E0 (a0 w : World) {ops : Array Oper} {o : Oper} {a : Act} {K : Act → World → Prop} {Q : Exit → Act → World → Prop} {E : Prop} (hgd : o.guard = none) (s x : Operand)
    (ho : o.op = .call { callee := .builtin .append, args := #[s, x], argTypes := #[23, 23] })
    (g : Nat) (hs : a.eval s = .slice (some ⟨g, 0, none⟩) 0 0) (hB : Box w g 31 #[]) (hk : Kept a0 w) (hg : a0.heap.size ≤ g) (u : Value) (ys : List ElemD) (hx : a.eval x = u) (hr : Elems a0 u ys)
    (hl : ys.length ≤ 16777216)
    (h : ∀ v' w', OwnE w' a0.heap.size v' ys → Kept a0 w' → Only [g] w w' → (∀ b ∈ fp v', b = g ∨ b = w.heap.size) → K (a.put o.dst v') w') :
    if Region.wanted o (yielded ops a.tmps) = true then Oper.wp Tryz.prog o a w K Q else E := by
  have hw : Region.wanted o (yielded ops a.tmps) = true := by simp [Region.wanted, hgd]
  rw [if_pos hw]
  obtain ⟨i0, hi, hz0, hz1, hz2⟩ := info_parts info_elem
  have hr' := hr.kept hk
  have hown : w.ownsRow a0.heap.size 31 4 (.slice (some ⟨g, 0, none⟩) 0 0) 0 [] := own_made g _ 4 hg hB
  have h1 : ∀ y ∈ ys.flatMap cells4, y.oneCell' = true := by
    intro y hy
    obtain ⟨e, _, he⟩ := List.mem_flatMap.1 hy
    simp only [cells4, List.mem_cons, List.not_mem_nil, or_false] at he
    rcases he with rfl | rfl | rfl | rfl <;> rfl
  obtain ⟨v', w', hrun, h2, h3, h4⟩ := run_append_loc (P := Tryz.prog) w a0.heap.size 23 o.type 31 i0 _ 4 40 Tryz.underlying23 hi hz0 hz1 hz2 rfl (by omega) _ 0 [] hown u ys.length (ys.flatMap cells4) hr'.1 (flat_length cells4 4 (fun _ => rfl) ys) h1 (by unfold maxLen; omega) (by omega) hk.size
  have hon : Only [g] w w' := only_of_grown (v := .slice (some ⟨g, 0, none⟩) 0 0) h3
  unfold Oper.wp execOp
  simp only [ho, resolve, invoke, builtin, Sem.run_bind, Sem.run_pure, Result.andThen_ok, List.map_toArray, List.map_cons, List.map_nil, hs, hx, hrun]
  refine h v' w' ⟨by simpa using h2, hr.2⟩ (hon.above hk (by simpa using hg)) hon (fun b hb => ?_)
  have hb' : v'.ownBlock = some b := by simpa [fp] using hb
  rcases h4 with h4 | h4
  · rw [h4] at hb'
    left
    have : (Value.slice (some ⟨g, 0, none⟩) 0 0).ownBlock = some g := rfl
    rw [this] at hb'
    injection hb' with hb'
    exact hb'.symm
  · rw [h4] at hb'
    right
    injection hb' with hb'
    exact hb'.symm
end Go.Proofs.YtkekpolfdmmgeaaGreatDoor
