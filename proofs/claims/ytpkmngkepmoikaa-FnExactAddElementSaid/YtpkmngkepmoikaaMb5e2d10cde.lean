/- Contracts of functions that the proof leans on. No condition. -/
import Derived.Test.YtpkmngkepmoikaaM1d56b91441
/- Codes: AddElement, the reference's side, and the law. -/
namespace Go.Proofs.Ytpkmngkepmoikaa
set_option linter.unusedVariables false
set_option linter.unusedSimpArgs false
open Go.RowKit

set_option maxRecDepth 100000 in
set_option maxHeartbeats 8000000 in
theorem specAddElement_any (v ve : Value) (x : CodeD) (y : ElemD) (w : World) (h : CodeAt w v x) (he : ElemAt w ve y) :
    Calls Try.prog 10 #[v, ve] w fun e w' => ∃ v', e = .returned (.tuple #[v', .bool (adB x y)]) ∧ OwnK w' w.heap.size v' (adV x y) ∧ Kept w w' := by
  have h0 := h
  obtain ⟨nv, mv, rfl, q1, q2⟩ := h
  obtain ⟨A, c, rfl, hnc, hcm, hl⟩ := q1.1.out
  obtain ⟨A2, c2, rfl, _, _, _⟩ := q2.out
  unfold maxLen at hcm
  have HL := Lib.hid hl
  have HS := Lib.hid q1.2
  have H0 := Lib.hid h0
  have HE := Lib.hid q1
  clear h0 q1 q2 hl
  obtain ⟨rfl, hys⟩ := he
  go_enter Try.func10, Try.ntmps10
  go_wp2_with fail
  have B0 := ((Box.new w w.heap.size 32 #[.slice A x.elems.length c, .slice A2 x.limits.length c2, .int .i64 x.repeats, .int .i64 x.bonus, .int .i64 x.keeps, .int .i64 x.fall] rfl).alloc (.cells #[.string y.name, .int .i64 y.family, .int .i64 y.level, .int .i64 y.base] 36)).alloc (.cells #[.slice none 0 0, .slice none 0 0, .int .i64 0, .int .i64 0, .int .i64 0, .int .i64 0] 32)
  have BE := (Box.new (w.alloc (.cells #[.slice A x.elems.length c, .slice A2 x.limits.length c2, .int .i64 x.repeats, .int .i64 x.bonus, .int .i64 x.keeps, .int .i64 x.fall] 32)) (w.heap.size + 1) 36 #[.string y.name, .int .i64 y.family, .int .i64 y.level, .int .i64 y.base] (by simp)).alloc (.cells #[.slice none 0 0, .slice none 0 0, .int .i64 0, .int .i64 0, .int .i64 0, .int .i64 0] 32)
  have B1 := Box.new ((w.alloc (.cells #[.slice A x.elems.length c, .slice A2 x.limits.length c2, .int .i64 x.repeats, .int .i64 x.bonus, .int .i64 x.keeps, .int .i64 x.fall] 32)).alloc (.cells #[.string y.name, .int .i64 y.family, .int .i64 y.level, .int .i64 y.base] 36)) (w.heap.size + 1 + 1) 32 #[.slice none 0 0, .slice none 0 0, .int .i64 0, .int .i64 0, .int .i64 0, .int .i64 0] (by simp)
  have K0 : Kept w (((w.alloc (.cells #[.slice A x.elems.length c, .slice A2 x.limits.length c2, .int .i64 x.repeats, .int .i64 x.bonus, .int .i64 x.keeps, .int .i64 x.fall] 32)).alloc (.cells #[.string y.name, .int .i64 y.family, .int .i64 y.level, .int .i64 y.base] 36)).alloc (.cells #[.slice none 0 0, .slice none 0 0, .int .i64 0, .int .i64 0, .int .i64 0, .int .i64 0] 32)) := (((Kept.refl w).alloc _).alloc _).alloc _
  generalize ((w.alloc (.cells #[.slice A x.elems.length c, .slice A2 x.limits.length c2, .int .i64 x.repeats, .int .i64 x.bonus, .int .i64 x.keeps, .int .i64 x.fall] 32)).alloc (.cells #[.string y.name, .int .i64 y.family, .int .i64 y.level, .int .i64 y.base] 36)).alloc (.cells #[.slice none 0 0, .slice none 0 0, .int .i64 0, .int .i64 0, .int .i64 0, .int .i64 0] 32) = w0 at *
  have hzw : w.heap.size + 1 + 1 < w0.heap.size := B1.lt
  refine (cdGood_any _ x _ (H0.out.kept K0)).mono ?_
  rintro e w1 ⟨rfl, k1⟩
  replace B0 := B0.kept k1
  replace BE := BE.kept k1
  replace B1 := B1.kept k1
  have K1 := K0.trans k1
  have hz1 := k1.size
  clear K0 k1
  by_cases hb : codeB x = true
  case neg =>
    simp only [Bool.not_eq_true] at hb
    have HB := Lib.hid hb
    rw [hb]
    clear hb
    go_upto_region 2 with (fail)
    obtain ⟨x1, y1⟩ := B1.six
    go_wp2_with fail
    clear x1 y1
    obtain ⟨w3, hw3, B3, Q3⟩ := set6 B1 (.slice none 0 0) (.slice none 0 0) (.int .i64 0) (.int .i64 0) (.int .i64 0) (.int .i64 0)
    rw [← hw3]
    clear hw3
    obtain ⟨cc, ff⟩ := B3.six
    exact bodyPost_ret (v := .tuple #[.agg #[.slice none 0 0, .slice none 0 0, .int .i64 0, .int .i64 0, .int .i64 0, .int .i64 0], .bool false]) (by simp [results, Try.results10, go_sem, cc, ff]) rfl ⟨_, by rw [adB_no HB.out], by rw [adV_no HB.out]; exact zeroC_own _ _, Q3.above K1 (by simp <;> omega)⟩
  have HB := Lib.hid hb
  have hl24 := (codeB_heads hb).1.2
  have hl1 := (codeB_heads hb).1.1
  have hl5 : x.limits.length ≤ 5 := Nat.le_of_eq (codeB_heads hb).2
  rw [hb]
  clear hb
  obtain ⟨x0, y0⟩ := B0.six
  go_wp2_with fail
  clear x0 y0
  refine (cdOwn_any _ x _ (H0.out.kept K1) (by omega) (by omega)).mono ?_
  rintro e w2 ⟨v2, rfl, o2, k2⟩
  have F2 := Lib.hid o2.fps
  obtain ⟨n2, m2, rfl, p2, q2, nd2⟩ := o2
  obtain ⟨A3, c3, rfl, _, _, hA3⟩ := own_form p2.1
  obtain ⟨A4, c4, rfl, _⟩ := own_form q2
  have Q2 := Lib.hid q2
  clear p2 q2 nd2 hA3
  replace B0 := B0.kept k2
  replace BE := BE.kept k2
  replace B1 := B1.kept k2
  have K2 := K1.trans k2
  have hz2 := k2.size
  go_upto_region 4 with (fail)
  obtain ⟨w3, hw3⟩ : ∃ w' : World, w' = w2.alloc (.cells #[.slice A3 x.elems.length c3, .slice A4 x.limits.length c4, .int .i64 x.repeats, .int .i64 x.bonus, .int .i64 x.keeps, .int .i64 x.fall] 32) := ⟨_, rfl⟩
  rw [← hw3]
  have k3 : Kept w2 w3 := hw3 ▸ (Kept.refl w2).alloc _
  have B6 : Box w3 w2.heap.size 32 #[.slice A3 x.elems.length c3, .slice A4 x.limits.length c4, .int .i64 x.repeats, .int .i64 x.bonus, .int .i64 x.keeps, .int .i64 x.fall] := hw3 ▸ Box.new w2 w2.heap.size 32 _ rfl
  clear hw3
  replace B0 := B0.kept k3
  replace BE := BE.kept k3
  replace B1 := B1.kept k3
  have K3 := K2.trans k3
  have hz3 : w2.heap.size < w3.heap.size := B6.lt
  go_wp2_with fail
  go_loopw [7] (fun i wr => ∃ k : Nat, k ≤ x.elems.length ∧ i = .int .i64 k ∧ (∀ j z, j < k → x.elems[j]? = some z → lessB y z = true) ∧ Kept w3 wr) (fun i _ => x.elems.length - (intOf i).toNat)
  case atStart => exact ⟨0, Nat.zero_le _, rfl, (fun j _ hj => absurd hj (Nat.not_lt_zero j)), Kept.refl _⟩
  case round =>
    obtain ⟨k, hk, rfl, ha, hkept⟩ := hrel
    have HA := Lib.hid ha
    clear ha
    have B0r := B0.kept hkept
    have BEr := BE.kept hkept
    obtain ⟨x0, y0⟩ := B0r.six
    obtain ⟨xe, ye⟩ := BEr.four
    obtain ⟨b, o, _, rfl, hbl, _, _⟩ := elems_at (HL.out.kept (K3.trans hkept)) (k := 0) (by omega)
    by_cases hP : ∃ e, x.elems[k]? = some e ∧ lessB y e = true
    · obtain ⟨e, h2, he⟩ := hP
      have hlt : k < x.elems.length := (List.getElem?_eq_some_iff.1 h2).1
      obtain ⟨b', o', e', eA, hb', h2', q0, q1, q2, q3⟩ := elems_at (HL.out.kept (K3.trans hkept)) hlt
      injection eA with eA
      injection eA with eA1 eA2
      subst eA1 eA2
      rw [h2] at h2'
      injection h2' with h2'
      subst h2'
      have HE2 := Lib.hid h2
      have HEE := Lib.hid he
      have hd : decide ((k : Int) < (x.elems.length : Int)) = true := by simp; omega
      have hlt' : (k : Int) < (x.elems.length : Int) := by omega
      unfold lessB at he
      clear h2
      go_wp2_with fail
      go_quiet (fail)
      go_wp2_with fail
      go_roundw
      case rel => exact ⟨k + 1, by omega, by go_num, less_snoc HE2.out HEE.out HA.out, hkept.drewN _⟩
      case measure => simp [intOf]; omega
    · have HAT : Hid (insAt x.elems y = k) := insAt_is HA.out hk (fun z hz => by
        cases hq : lessB y z with
        | false => rfl
        | true => exact absurd ⟨z, hz, hq⟩ hP)
      have hdis : k < x.elems.length ∨ ¬ k < x.elems.length := Nat.lt_or_ge k x.elems.length |>.imp id Nat.not_lt.2
      have HSTOP : Hid (∀ hlt : k < x.elems.length, ∀ e, x.elems[k]? = some e → lessB y e = false) := fun _ e he => by
        cases hq : lessB y e with
        | false => rfl
        | true => exact absurd ⟨e, he, hq⟩ hP
      clear hP
      rcases hdis with hlt | hge
      · obtain ⟨b', o', e, eA, hb', h2, q0, q1, q2, q3⟩ := elems_at (HL.out.kept (K3.trans hkept)) hlt
        injection eA with eA
        injection eA with eA1 eA2
        subst eA1 eA2
        have he := HSTOP.out hlt e h2
        have hd : decide ((k : Int) < (x.elems.length : Int)) = true := by simp; omega
        have hlt' : (k : Int) < (x.elems.length : Int) := by omega
        unfold lessB at he
        clear h2
        go_wp2_with fail
        go_quiet (fail)
        rename_i nq
        clear x0 y0 xe ye q0 q1 q2 q3 he hd
        go_upto_region 7 with (fail)
        have kq : Kept w3 (wr.drewN nq) := hkept.drewN nq
        have B0q : Box (wr.drewN nq) w.heap.size 32 #[.slice (some ⟨b, o, none⟩) x.elems.length c, .slice A2 x.limits.length c2, .int .i64 x.repeats, .int .i64 x.bonus, .int .i64 x.keeps, .int .i64 x.fall] := B0r
        have BEq : Box (wr.drewN nq) (w.heap.size + 1) 36 #[.string y.name, .int .i64 y.family, .int .i64 y.level, .int .i64 y.base] := BEr
        have B1q : Box (wr.drewN nq) (w.heap.size + 1 + 1) 32 #[.slice none 0 0, .slice none 0 0, .int .i64 0, .int .i64 0, .int .i64 0, .int .i64 0] := B1.kept kq
        have B6q : Box (wr.drewN nq) w2.heap.size 32 #[.slice A3 x.elems.length c3, .slice A4 x.limits.length c4, .int .i64 x.repeats, .int .i64 x.bonus, .int .i64 x.keeps, .int .i64 x.fall] := B6.kept kq
        clear B0r BEr hkept
        generalize wr.drewN nq = wq at *
        have K3q : Kept w wq := K3.trans kq
        have hzq : w.heap.size + 1 + 1 < wq.heap.size := B1q.lt
        have hz6 : w2.heap.size < wq.heap.size := B6q.lt
        have hzw2 : w.heap.size + 1 + 1 < w2.heap.size := by omega
        have E3 := HE.out.kept K3q
        have T3 := Lib.hid (elems_to E3 rfl (i := k) hk)
        have HE3 := Lib.hid E3
        clear E3
        have hkc : (k : Int) ≤ (c : Int) := by omega
        have hkc' : k ≤ c := by omega
        have hkn : (k : Int) ≤ (x.elems.length : Int) := by omega
        have HSK : Hid (∀ w' : World, Kept wq w' → (w'.cell? ⟨w.heap.size, 0, none⟩ = some (.slice (some ⟨b, o, none⟩) x.elems.length c)) ∧ (w'.cell? ⟨w.heap.size + 1, 0, none⟩ = some (.string y.name) ∧ w'.cell? ⟨w.heap.size + 1, 1, none⟩ = some (.int .i64 y.family) ∧ w'.cell? ⟨w.heap.size + 1, 2, none⟩ = some (.int .i64 y.level) ∧ w'.cell? ⟨w.heap.size + 1, 3, none⟩ = some (.int .i64 y.base))) := fun w' hk => ⟨(B0q.kept hk).six.1.1, (BEq.kept hk).four.1⟩
        have HSK6 : Hid (∀ W : World, Kept wq W → ∀ u, ((W.setCell ⟨w2.heap.size, 0, none⟩ u).cell? ⟨w.heap.size, 0, none⟩ = some (.slice (some ⟨b, o, none⟩) x.elems.length c)) ∧ ((W.setCell ⟨w2.heap.size, 0, none⟩ u).cell? ⟨w.heap.size + 1, 0, none⟩ = some (.string y.name) ∧ (W.setCell ⟨w2.heap.size, 0, none⟩ u).cell? ⟨w.heap.size + 1, 1, none⟩ = some (.int .i64 y.family) ∧ (W.setCell ⟨w2.heap.size, 0, none⟩ u).cell? ⟨w.heap.size + 1, 2, none⟩ = some (.int .i64 y.level) ∧ (W.setCell ⟨w2.heap.size, 0, none⟩ u).cell? ⟨w.heap.size + 1, 3, none⟩ = some (.int .i64 y.base))) := fun W hk u => ⟨((B0q.kept hk).far ⟨w2.heap.size, 0, none⟩ (by dsimp only; omega) u).six.1.1, ((BEq.kept hk).far ⟨w2.heap.size, 0, none⟩ (by dsimp only; omega) u).four.1⟩
        have bA : Box (wq.alloc (.cells #[] 36)).drew wq.heap.size 36 #[] := Box.new wq _ _ _ rfl
        have bB : Box ((wq.alloc (.cells #[] 36)).alloc (.cells #[.string y.name, .int .i64 y.family, .int .i64 y.level, .int .i64 y.base] 36)).drew wq.heap.size 36 #[] := (Box.new wq wq.heap.size _ _ rfl).alloc _
        have bC : Box ((wq.alloc (.cells #[.string y.name, .int .i64 y.family, .int .i64 y.level, .int .i64 y.base] 36)).alloc (.cells #[] 36)).drew (wq.heap.size + 1) 36 #[] := Box.new (wq.alloc (.cells #[.string y.name, .int .i64 y.family, .int .i64 y.level, .int .i64 y.base] 36)) _ _ _ (by simp)
        have vB : Box ((wq.alloc (.cells #[] 36)).alloc (.cells #[.string y.name, .int .i64 y.family, .int .i64 y.level, .int .i64 y.base] 36)).drew (wq.heap.size + 1) 36 #[.string y.name, .int .i64 y.family, .int .i64 y.level, .int .i64 y.base] := Box.new (wq.alloc (.cells #[] 36)) _ _ _ (by simp)
        have vC : Box ((wq.alloc (.cells #[.string y.name, .int .i64 y.family, .int .i64 y.level, .int .i64 y.base] 36)).alloc (.cells #[] 36)).drew wq.heap.size 36 #[.string y.name, .int .i64 y.family, .int .i64 y.level, .int .i64 y.base] := (Box.new wq wq.heap.size _ _ rfl).alloc _
        have HED : Hid (x.elems.take k ++ [y] ++ x.elems.drop k = x.elems.take k ++ y :: x.elems.drop k) := by rw [List.append_assoc]; rfl
        obtain ⟨ED, hED⟩ : ∃ ED, x.elems.take k ++ [y] ++ x.elems.drop k = ED := ⟨_, rfl⟩
        have HED2 := Lib.hid hED
        clear hED
        have HDC : Hid (addC x y k = { x with elems := ED }) := by unfold addC; rw [← HED.out, HED2.out]; rfl
        obtain ⟨X, hX⟩ : ∃ X, ifC (addC x y k) = X := ⟨_, rfl⟩
        obtain ⟨bb, hbb⟩ : ∃ bb, codeB (addC x y k) = bb := ⟨_, rfl⟩
        have HX := Lib.hid hX
        have HBB := Lib.hid hbb
        clear hX hbb
        by_cases hck : c = k
        · omega
        · have U3 := Lib.hid (elems_from HE3.out rfl (k := k) hk)
          go_region_held3 (fun w' => (w'.cell? ⟨w.heap.size, 0, none⟩ = some (.slice (some ⟨b, o, none⟩) x.elems.length c)) ∧ (w'.cell? ⟨w.heap.size + 1, 0, none⟩ = some (.string y.name) ∧ w'.cell? ⟨w.heap.size + 1, 1, none⟩ = some (.int .i64 y.family) ∧ w'.cell? ⟨w.heap.size + 1, 2, none⟩ = some (.int .i64 y.level) ∧ w'.cell? ⟨w.heap.size + 1, 3, none⟩ = some (.int .i64 y.base))) (first | (with_reducible exact hS6 _) | (with_reducible exact HSK.out _ (Kept.refl wq).drew) | (with_reducible exact HSK.out _ ((Kept.refl wq).alloc _).drew) | (with_reducible exact HSK.out _ (((Kept.refl wq).alloc _).alloc _).drew) | (with_reducible exact HSK.out _ (by assumption)) | (with_reducible exact HSK.out _ (Kept.alloc (by assumption) _))) (first | (refine step_append_E0 wq _ rfl (.tmp 32) (.tmp 36) rfl _ rfl (by first | with_reducible exact bA | with_reducible exact bB | with_reducible exact bC) (by first | with_reducible exact ((Kept.refl wq).alloc _).drew | with_reducible exact (((Kept.refl wq).alloc _).alloc _).drew) (by first | exact Nat.le_refl _ | omega) _ (x.elems.take k) rfl T3.out (by rw [List.length_take]; omega) ?_; intro v5 w5 o5 k5 on5 loc5; have O5 := Lib.hid o5; clear o5 loc5) | (refine step_append_E _ rfl (.tmp 37) (.tmp 39) rfl wq.heap.size _ _ rfl (O5.out.kept ((Kept.refl w5).alloc (.cells #[.string y.name, .int .i64 y.family, .int .i64 y.level, .int .i64 y.base] 36))) _ [y] rfl (elems_one y (Box.new w5 w5.heap.size _ _ rfl) hys) (by simp; omega) (k5.alloc (.cells #[.string y.name, .int .i64 y.family, .int .i64 y.level, .int .i64 y.base] 36)).size ?_; intro v6 w6 o6 hg6; have k6 := (k5.alloc (.cells #[.string y.name, .int .i64 y.family, .int .i64 y.level, .int .i64 y.base] 36)).grew (O5.out.kept ((Kept.refl w5).alloc (.cells #[.string y.name, .int .i64 y.family, .int .i64 y.level, .int .i64 y.base] 36))).1 hg6 (Nat.le_refl _); clear hg6; have O6 := Lib.hid o6; clear o6) | (refine step_append_E _ rfl (.tmp 37) (.tmp 39) rfl wq.heap.size _ _ rfl O5.out _ [y] rfl (elems_one y (vB.only on5 (by simp)) hys) (by simp; omega) k5.size ?_; intro v6 w6 o6 hg6; have k6 := k5.grew O5.out.1 hg6 (Nat.le_refl _); clear hg6; have O6 := Lib.hid o6; clear o6) | (refine step_append_E _ rfl (.tmp 37) (.tmp 39) rfl wq.heap.size _ _ rfl O5.out _ [y] rfl (elems_one y (vC.only on5 (by simp)) hys) (by simp; omega) k5.size ?_; intro v6 w6 o6 hg6; have k6 := k5.grew O5.out.1 hg6 (Nat.le_refl _); clear hg6; have O6 := Lib.hid o6; clear o6) | (refine step_append_E _ rfl (.tmp 40) (.tmp 44) rfl wq.heap.size _ _ rfl O6.out _ (x.elems.drop k) rfl (U3.out.kept k6) (by simp; omega) k6.size ?_; intro v7 w7 o7 hg7; have k7 := k6.grew O6.out.1 hg7 (Nat.le_refl _); clear hg7; rw [HED2.out] at o7; obtain ⟨A7, c7, rfl, _⟩ := own_form o7.1; have O7 := Lib.hid o7; clear o7; have hS6 := HSK6.out _ k7; have h7c : w7.cell? ⟨w2.heap.size, 0, none⟩ = some (.slice A3 x.elems.length c3) := (B6q.kept k7).six.1.1; have h7f : w7.frozen? ⟨w2.heap.size, 0, none⟩ = false := (B6q.kept k7).six.2.1))
          all_goals
            rename_i hheld
            clear hheld h7c h7f hS6
            have F7 := Lib.hid (own_fp O7.out.1)
            have hz7 := k7.size
            obtain ⟨w8, hw8⟩ : ∃ w8, w8 = w7.setCell ⟨w2.heap.size, 0, none⟩ (.slice A7 ED.length c7) := ⟨_, rfl⟩
            have Q8 : Only [w2.heap.size] w7 w8 := by rw [hw8]; exact Only.setCell (Only.refl _ _) (by simp) _
            have B68 : Box w8 w2.heap.size 32 #[.slice A7 ED.length c7, .slice A4 x.limits.length c4, .int .i64 x.repeats, .int .i64 x.bonus, .int .i64 x.keeps, .int .i64 x.fall] := hw8 ▸ (B6q.kept k7).set 0 _
            have B18 := (B1q.kept k7).only Q8 (by simp; omega)
            have K8 : Kept w w8 := Q8.above (K3q.trans k7) (by simp; omega)
            have HKK : Hid (OwnK w8 w1.heap.size (.agg #[.slice A7 ED.length c7, .slice A4 x.limits.length c4, .int .i64 x.repeats, .int .i64 x.bonus, .int .i64 x.keeps, .int .i64 x.fall]) (addC x y k)) := by
              rw [HDC.out]
              refine ⟨_, _, rfl, (OwnE.base O7.out (by omega)).only Q8 (fun b hb hs => ?_), (((Q2.out.kept k3).kept kq).kept k7).only Q8 (fun b hb hs => ?_), ?_⟩
              · have := F7.out b hb; simp at hs; omega
              · have := F2.out b (by rw [fpA_code]; exact List.mem_append_right _ hb); simp at hs; omega
              · rw [fpA_code, List.nodup_append]
                refine ⟨nodup_one _, nodup_one _, fun y hy z hz e => ?_⟩
                have h1 := F7.out y hy
                have h2 := F2.out z (by rw [fpA_code]; exact List.mem_append_right _ hz)
                omega
            have hz8' : w1.heap.size ≤ w8.heap.size := by have := Q8.size; omega
            rw [← hw8]
            clear hw8
            obtain ⟨x0, y0⟩ := B68.six
            go_wp2_with fail
            clear x0 y0
            refine (cdIf_is X bb _ (addC x y k) _ w1.heap.size HX.out HBB.out HKK.out hz8').mono ?_
            rintro e w4 ⟨v4, rfl, o4, k4⟩
            replace B1 := B18.kept k4
            have K4 := K8.trans k4
            have HNE : Hid (∀ b ∈ fpA v4, b ≠ w.heap.size + 1 + 1) := fun b hb e => by have := o4.fps b hb; omega
            replace o4 := o4.base (base' := w.heap.size) (by omega)
            have FR := Lib.hid (o4.fps)
            obtain ⟨na, ma, rfl, pa, qa, nda⟩ := o4
            obtain ⟨Aa, ca, rfl, _⟩ := own_form pa.1
            obtain ⟨Da, da, rfl, _⟩ := own_form qa
            have OR : Hid (OwnK w4 w.heap.size (.agg #[.slice Aa X.elems.length ca, .slice Da X.limits.length da, .int .i64 X.repeats, .int .i64 X.bonus, .int .i64 X.keeps, .int .i64 X.fall]) (X)) := ⟨_, _, rfl, pa, qa, nda⟩
            clear pa qa nda
            obtain ⟨x1, y1⟩ := B1.six
            go_wp2_with fail
            clear x1 y1
            obtain ⟨w9, hw9, B9, Q9⟩ := set6 B1 (.slice Aa X.elems.length ca) (.slice Da X.limits.length da) (.int .i64 X.repeats) (.int .i64 X.bonus) (.int .i64 X.keeps) (.int .i64 X.fall)
            rw [← hw9]
            clear hw9
            obtain ⟨cc, ff⟩ := B9.six
            refine bodyPost_ret (v := .tuple #[.agg #[.slice Aa X.elems.length ca, .slice Da X.limits.length da, .int .i64 X.repeats, .int .i64 X.bonus, .int .i64 X.keeps, .int .i64 X.fall], .bool bb]) (by simp [results, Try.results10, go_sem, cc, ff]) rfl ⟨_, by rw [adB_yes HB.out HAT.out, HBB.out], ?_, Q9.above K4 (by simp <;> omega)⟩
            rw [adV_yes HB.out HAT.out, HX.out]
            exact OR.out.only Q9 (fun b hb hs => HNE.out b hb (by simpa using hs))
      · have hd : decide ((k : Int) < (x.elems.length : Int)) = false := by simp; omega
        have hd2 : decide (k < x.elems.length) = false := by simp; omega
        go_wp2_with fail
        go_quiet (fail)
        rename_i nq
        clear x0 y0 xe ye hd hd2
        go_upto_region 7 with (fail)
        have kq : Kept w3 (wr.drewN nq) := hkept.drewN nq
        have B0q : Box (wr.drewN nq) w.heap.size 32 #[.slice (some ⟨b, o, none⟩) x.elems.length c, .slice A2 x.limits.length c2, .int .i64 x.repeats, .int .i64 x.bonus, .int .i64 x.keeps, .int .i64 x.fall] := B0r
        have BEq : Box (wr.drewN nq) (w.heap.size + 1) 36 #[.string y.name, .int .i64 y.family, .int .i64 y.level, .int .i64 y.base] := BEr
        have B1q : Box (wr.drewN nq) (w.heap.size + 1 + 1) 32 #[.slice none 0 0, .slice none 0 0, .int .i64 0, .int .i64 0, .int .i64 0, .int .i64 0] := B1.kept kq
        have B6q : Box (wr.drewN nq) w2.heap.size 32 #[.slice A3 x.elems.length c3, .slice A4 x.limits.length c4, .int .i64 x.repeats, .int .i64 x.bonus, .int .i64 x.keeps, .int .i64 x.fall] := B6.kept kq
        clear B0r BEr hkept
        generalize wr.drewN nq = wq at *
        have K3q : Kept w wq := K3.trans kq
        have hzq : w.heap.size + 1 + 1 < wq.heap.size := B1q.lt
        have hz6 : w2.heap.size < wq.heap.size := B6q.lt
        have hzw2 : w.heap.size + 1 + 1 < w2.heap.size := by omega
        have E3 := HE.out.kept K3q
        have T3 := Lib.hid (elems_to E3 rfl (i := k) hk)
        have HE3 := Lib.hid E3
        clear E3
        have hkc : (k : Int) ≤ (c : Int) := by omega
        have hkc' : k ≤ c := by omega
        have hkn : (k : Int) ≤ (x.elems.length : Int) := by omega
        have HSK : Hid (∀ w' : World, Kept wq w' → (w'.cell? ⟨w.heap.size, 0, none⟩ = some (.slice (some ⟨b, o, none⟩) x.elems.length c)) ∧ (w'.cell? ⟨w.heap.size + 1, 0, none⟩ = some (.string y.name) ∧ w'.cell? ⟨w.heap.size + 1, 1, none⟩ = some (.int .i64 y.family) ∧ w'.cell? ⟨w.heap.size + 1, 2, none⟩ = some (.int .i64 y.level) ∧ w'.cell? ⟨w.heap.size + 1, 3, none⟩ = some (.int .i64 y.base))) := fun w' hk => ⟨(B0q.kept hk).six.1.1, (BEq.kept hk).four.1⟩
        have HSK6 : Hid (∀ W : World, Kept wq W → ∀ u, ((W.setCell ⟨w2.heap.size, 0, none⟩ u).cell? ⟨w.heap.size, 0, none⟩ = some (.slice (some ⟨b, o, none⟩) x.elems.length c)) ∧ ((W.setCell ⟨w2.heap.size, 0, none⟩ u).cell? ⟨w.heap.size + 1, 0, none⟩ = some (.string y.name) ∧ (W.setCell ⟨w2.heap.size, 0, none⟩ u).cell? ⟨w.heap.size + 1, 1, none⟩ = some (.int .i64 y.family) ∧ (W.setCell ⟨w2.heap.size, 0, none⟩ u).cell? ⟨w.heap.size + 1, 2, none⟩ = some (.int .i64 y.level) ∧ (W.setCell ⟨w2.heap.size, 0, none⟩ u).cell? ⟨w.heap.size + 1, 3, none⟩ = some (.int .i64 y.base))) := fun W hk u => ⟨((B0q.kept hk).far ⟨w2.heap.size, 0, none⟩ (by dsimp only; omega) u).six.1.1, ((BEq.kept hk).far ⟨w2.heap.size, 0, none⟩ (by dsimp only; omega) u).four.1⟩
        have bA : Box (wq.alloc (.cells #[] 36)).drew wq.heap.size 36 #[] := Box.new wq _ _ _ rfl
        have bB : Box ((wq.alloc (.cells #[] 36)).alloc (.cells #[.string y.name, .int .i64 y.family, .int .i64 y.level, .int .i64 y.base] 36)).drew wq.heap.size 36 #[] := (Box.new wq wq.heap.size _ _ rfl).alloc _
        have bC : Box ((wq.alloc (.cells #[.string y.name, .int .i64 y.family, .int .i64 y.level, .int .i64 y.base] 36)).alloc (.cells #[] 36)).drew (wq.heap.size + 1) 36 #[] := Box.new (wq.alloc (.cells #[.string y.name, .int .i64 y.family, .int .i64 y.level, .int .i64 y.base] 36)) _ _ _ (by simp)
        have vB : Box ((wq.alloc (.cells #[] 36)).alloc (.cells #[.string y.name, .int .i64 y.family, .int .i64 y.level, .int .i64 y.base] 36)).drew (wq.heap.size + 1) 36 #[.string y.name, .int .i64 y.family, .int .i64 y.level, .int .i64 y.base] := Box.new (wq.alloc (.cells #[] 36)) _ _ _ (by simp)
        have vC : Box ((wq.alloc (.cells #[.string y.name, .int .i64 y.family, .int .i64 y.level, .int .i64 y.base] 36)).alloc (.cells #[] 36)).drew wq.heap.size 36 #[.string y.name, .int .i64 y.family, .int .i64 y.level, .int .i64 y.base] := (Box.new wq wq.heap.size _ _ rfl).alloc _
        have HED : Hid (x.elems.take k ++ [y] ++ x.elems.drop k = x.elems.take k ++ y :: x.elems.drop k) := by rw [List.append_assoc]; rfl
        obtain ⟨ED, hED⟩ : ∃ ED, x.elems.take k ++ [y] ++ x.elems.drop k = ED := ⟨_, rfl⟩
        have HED2 := Lib.hid hED
        clear hED
        have HDC : Hid (addC x y k = { x with elems := ED }) := by unfold addC; rw [← HED.out, HED2.out]; rfl
        obtain ⟨X, hX⟩ : ∃ X, ifC (addC x y k) = X := ⟨_, rfl⟩
        obtain ⟨bb, hbb⟩ : ∃ bb, codeB (addC x y k) = bb := ⟨_, rfl⟩
        have HX := Lib.hid hX
        have HBB := Lib.hid hbb
        clear hX hbb
        by_cases hck : c = k
        · subst hck
          have U3 : Hid (Elems wq (.slice (some ⟨b, o, none⟩) 0 0) (x.elems.drop c)) := elems_none (by omega)
          go_region_held3 (fun w' => (w'.cell? ⟨w.heap.size, 0, none⟩ = some (.slice (some ⟨b, o, none⟩) x.elems.length c)) ∧ (w'.cell? ⟨w.heap.size + 1, 0, none⟩ = some (.string y.name) ∧ w'.cell? ⟨w.heap.size + 1, 1, none⟩ = some (.int .i64 y.family) ∧ w'.cell? ⟨w.heap.size + 1, 2, none⟩ = some (.int .i64 y.level) ∧ w'.cell? ⟨w.heap.size + 1, 3, none⟩ = some (.int .i64 y.base))) (first | (with_reducible exact hS6 _) | (with_reducible exact HSK.out _ (Kept.refl wq).drew) | (with_reducible exact HSK.out _ ((Kept.refl wq).alloc _).drew) | (with_reducible exact HSK.out _ (((Kept.refl wq).alloc _).alloc _).drew) | (with_reducible exact HSK.out _ (by assumption)) | (with_reducible exact HSK.out _ (Kept.alloc (by assumption) _))) (first | (refine step_append_E0 wq _ rfl (.tmp 32) (.tmp 36) rfl _ rfl (by first | with_reducible exact bA | with_reducible exact bB | with_reducible exact bC) (by first | with_reducible exact ((Kept.refl wq).alloc _).drew | with_reducible exact (((Kept.refl wq).alloc _).alloc _).drew) (by first | exact Nat.le_refl _ | omega) _ (x.elems.take c) rfl T3.out (by rw [List.length_take]; omega) ?_; intro v5 w5 o5 k5 on5 loc5; have O5 := Lib.hid o5; clear o5 loc5) | (refine step_append_E _ rfl (.tmp 37) (.tmp 39) rfl wq.heap.size _ _ rfl (O5.out.kept ((Kept.refl w5).alloc (.cells #[.string y.name, .int .i64 y.family, .int .i64 y.level, .int .i64 y.base] 36))) _ [y] rfl (elems_one y (Box.new w5 w5.heap.size _ _ rfl) hys) (by simp; omega) (k5.alloc (.cells #[.string y.name, .int .i64 y.family, .int .i64 y.level, .int .i64 y.base] 36)).size ?_; intro v6 w6 o6 hg6; have k6 := (k5.alloc (.cells #[.string y.name, .int .i64 y.family, .int .i64 y.level, .int .i64 y.base] 36)).grew (O5.out.kept ((Kept.refl w5).alloc (.cells #[.string y.name, .int .i64 y.family, .int .i64 y.level, .int .i64 y.base] 36))).1 hg6 (Nat.le_refl _); clear hg6; have O6 := Lib.hid o6; clear o6) | (refine step_append_E _ rfl (.tmp 37) (.tmp 39) rfl wq.heap.size _ _ rfl O5.out _ [y] rfl (elems_one y (vB.only on5 (by simp)) hys) (by simp; omega) k5.size ?_; intro v6 w6 o6 hg6; have k6 := k5.grew O5.out.1 hg6 (Nat.le_refl _); clear hg6; have O6 := Lib.hid o6; clear o6) | (refine step_append_E _ rfl (.tmp 37) (.tmp 39) rfl wq.heap.size _ _ rfl O5.out _ [y] rfl (elems_one y (vC.only on5 (by simp)) hys) (by simp; omega) k5.size ?_; intro v6 w6 o6 hg6; have k6 := k5.grew O5.out.1 hg6 (Nat.le_refl _); clear hg6; have O6 := Lib.hid o6; clear o6) | (refine step_append_E _ rfl (.tmp 40) (.tmp 44) rfl wq.heap.size _ _ rfl O6.out _ (x.elems.drop c) rfl (U3.out.kept k6) (by simp; omega) k6.size ?_; intro v7 w7 o7 hg7; have k7 := k6.grew O6.out.1 hg7 (Nat.le_refl _); clear hg7; rw [HED2.out] at o7; obtain ⟨A7, c7, rfl, _⟩ := own_form o7.1; have O7 := Lib.hid o7; clear o7; have hS6 := HSK6.out _ k7; have h7c : w7.cell? ⟨w2.heap.size, 0, none⟩ = some (.slice A3 x.elems.length c3) := (B6q.kept k7).six.1.1; have h7f : w7.frozen? ⟨w2.heap.size, 0, none⟩ = false := (B6q.kept k7).six.2.1))
          all_goals
            rename_i hheld
            clear hheld h7c h7f hS6
            have F7 := Lib.hid (own_fp O7.out.1)
            have hz7 := k7.size
            obtain ⟨w8, hw8⟩ : ∃ w8, w8 = w7.setCell ⟨w2.heap.size, 0, none⟩ (.slice A7 ED.length c7) := ⟨_, rfl⟩
            have Q8 : Only [w2.heap.size] w7 w8 := by rw [hw8]; exact Only.setCell (Only.refl _ _) (by simp) _
            have B68 : Box w8 w2.heap.size 32 #[.slice A7 ED.length c7, .slice A4 x.limits.length c4, .int .i64 x.repeats, .int .i64 x.bonus, .int .i64 x.keeps, .int .i64 x.fall] := hw8 ▸ (B6q.kept k7).set 0 _
            have B18 := (B1q.kept k7).only Q8 (by simp; omega)
            have K8 : Kept w w8 := Q8.above (K3q.trans k7) (by simp; omega)
            have HKK : Hid (OwnK w8 w1.heap.size (.agg #[.slice A7 ED.length c7, .slice A4 x.limits.length c4, .int .i64 x.repeats, .int .i64 x.bonus, .int .i64 x.keeps, .int .i64 x.fall]) (addC x y c)) := by
              rw [HDC.out]
              refine ⟨_, _, rfl, (OwnE.base O7.out (by omega)).only Q8 (fun b hb hs => ?_), (((Q2.out.kept k3).kept kq).kept k7).only Q8 (fun b hb hs => ?_), ?_⟩
              · have := F7.out b hb; simp at hs; omega
              · have := F2.out b (by rw [fpA_code]; exact List.mem_append_right _ hb); simp at hs; omega
              · rw [fpA_code, List.nodup_append]
                refine ⟨nodup_one _, nodup_one _, fun y hy z hz e => ?_⟩
                have h1 := F7.out y hy
                have h2 := F2.out z (by rw [fpA_code]; exact List.mem_append_right _ hz)
                omega
            have hz8' : w1.heap.size ≤ w8.heap.size := by have := Q8.size; omega
            rw [← hw8]
            clear hw8
            obtain ⟨x0, y0⟩ := B68.six
            go_wp2_with fail
            clear x0 y0
            refine (cdIf_is X bb _ (addC x y c) _ w1.heap.size HX.out HBB.out HKK.out hz8').mono ?_
            rintro e w4 ⟨v4, rfl, o4, k4⟩
            replace B1 := B18.kept k4
            have K4 := K8.trans k4
            have HNE : Hid (∀ b ∈ fpA v4, b ≠ w.heap.size + 1 + 1) := fun b hb e => by have := o4.fps b hb; omega
            replace o4 := o4.base (base' := w.heap.size) (by omega)
            have FR := Lib.hid (o4.fps)
            obtain ⟨na, ma, rfl, pa, qa, nda⟩ := o4
            obtain ⟨Aa, ca, rfl, _⟩ := own_form pa.1
            obtain ⟨Da, da, rfl, _⟩ := own_form qa
            have OR : Hid (OwnK w4 w.heap.size (.agg #[.slice Aa X.elems.length ca, .slice Da X.limits.length da, .int .i64 X.repeats, .int .i64 X.bonus, .int .i64 X.keeps, .int .i64 X.fall]) (X)) := ⟨_, _, rfl, pa, qa, nda⟩
            clear pa qa nda
            obtain ⟨x1, y1⟩ := B1.six
            go_wp2_with fail
            clear x1 y1
            obtain ⟨w9, hw9, B9, Q9⟩ := set6 B1 (.slice Aa X.elems.length ca) (.slice Da X.limits.length da) (.int .i64 X.repeats) (.int .i64 X.bonus) (.int .i64 X.keeps) (.int .i64 X.fall)
            rw [← hw9]
            clear hw9
            obtain ⟨cc, ff⟩ := B9.six
            refine bodyPost_ret (v := .tuple #[.agg #[.slice Aa X.elems.length ca, .slice Da X.limits.length da, .int .i64 X.repeats, .int .i64 X.bonus, .int .i64 X.keeps, .int .i64 X.fall], .bool bb]) (by simp [results, Try.results10, go_sem, cc, ff]) rfl ⟨_, by rw [adB_yes HB.out HAT.out, HBB.out], ?_, Q9.above K4 (by simp <;> omega)⟩
            rw [adV_yes HB.out HAT.out, HX.out]
            exact OR.out.only Q9 (fun b hb hs => HNE.out b hb (by simpa using hs))
        · have U3 := Lib.hid (elems_from HE3.out rfl (k := k) hk)
          go_region_held3 (fun w' => (w'.cell? ⟨w.heap.size, 0, none⟩ = some (.slice (some ⟨b, o, none⟩) x.elems.length c)) ∧ (w'.cell? ⟨w.heap.size + 1, 0, none⟩ = some (.string y.name) ∧ w'.cell? ⟨w.heap.size + 1, 1, none⟩ = some (.int .i64 y.family) ∧ w'.cell? ⟨w.heap.size + 1, 2, none⟩ = some (.int .i64 y.level) ∧ w'.cell? ⟨w.heap.size + 1, 3, none⟩ = some (.int .i64 y.base))) (first | (with_reducible exact hS6 _) | (with_reducible exact HSK.out _ (Kept.refl wq).drew) | (with_reducible exact HSK.out _ ((Kept.refl wq).alloc _).drew) | (with_reducible exact HSK.out _ (((Kept.refl wq).alloc _).alloc _).drew) | (with_reducible exact HSK.out _ (by assumption)) | (with_reducible exact HSK.out _ (Kept.alloc (by assumption) _))) (first | (refine step_append_E0 wq _ rfl (.tmp 32) (.tmp 36) rfl _ rfl (by first | with_reducible exact bA | with_reducible exact bB | with_reducible exact bC) (by first | with_reducible exact ((Kept.refl wq).alloc _).drew | with_reducible exact (((Kept.refl wq).alloc _).alloc _).drew) (by first | exact Nat.le_refl _ | omega) _ (x.elems.take k) rfl T3.out (by rw [List.length_take]; omega) ?_; intro v5 w5 o5 k5 on5 loc5; have O5 := Lib.hid o5; clear o5 loc5) | (refine step_append_E _ rfl (.tmp 37) (.tmp 39) rfl wq.heap.size _ _ rfl (O5.out.kept ((Kept.refl w5).alloc (.cells #[.string y.name, .int .i64 y.family, .int .i64 y.level, .int .i64 y.base] 36))) _ [y] rfl (elems_one y (Box.new w5 w5.heap.size _ _ rfl) hys) (by simp; omega) (k5.alloc (.cells #[.string y.name, .int .i64 y.family, .int .i64 y.level, .int .i64 y.base] 36)).size ?_; intro v6 w6 o6 hg6; have k6 := (k5.alloc (.cells #[.string y.name, .int .i64 y.family, .int .i64 y.level, .int .i64 y.base] 36)).grew (O5.out.kept ((Kept.refl w5).alloc (.cells #[.string y.name, .int .i64 y.family, .int .i64 y.level, .int .i64 y.base] 36))).1 hg6 (Nat.le_refl _); clear hg6; have O6 := Lib.hid o6; clear o6) | (refine step_append_E _ rfl (.tmp 37) (.tmp 39) rfl wq.heap.size _ _ rfl O5.out _ [y] rfl (elems_one y (vB.only on5 (by simp)) hys) (by simp; omega) k5.size ?_; intro v6 w6 o6 hg6; have k6 := k5.grew O5.out.1 hg6 (Nat.le_refl _); clear hg6; have O6 := Lib.hid o6; clear o6) | (refine step_append_E _ rfl (.tmp 37) (.tmp 39) rfl wq.heap.size _ _ rfl O5.out _ [y] rfl (elems_one y (vC.only on5 (by simp)) hys) (by simp; omega) k5.size ?_; intro v6 w6 o6 hg6; have k6 := k5.grew O5.out.1 hg6 (Nat.le_refl _); clear hg6; have O6 := Lib.hid o6; clear o6) | (refine step_append_E _ rfl (.tmp 40) (.tmp 44) rfl wq.heap.size _ _ rfl O6.out _ (x.elems.drop k) rfl (U3.out.kept k6) (by simp; omega) k6.size ?_; intro v7 w7 o7 hg7; have k7 := k6.grew O6.out.1 hg7 (Nat.le_refl _); clear hg7; rw [HED2.out] at o7; obtain ⟨A7, c7, rfl, _⟩ := own_form o7.1; have O7 := Lib.hid o7; clear o7; have hS6 := HSK6.out _ k7; have h7c : w7.cell? ⟨w2.heap.size, 0, none⟩ = some (.slice A3 x.elems.length c3) := (B6q.kept k7).six.1.1; have h7f : w7.frozen? ⟨w2.heap.size, 0, none⟩ = false := (B6q.kept k7).six.2.1))
          all_goals
            rename_i hheld
            clear hheld h7c h7f hS6
            have F7 := Lib.hid (own_fp O7.out.1)
            have hz7 := k7.size
            obtain ⟨w8, hw8⟩ : ∃ w8, w8 = w7.setCell ⟨w2.heap.size, 0, none⟩ (.slice A7 ED.length c7) := ⟨_, rfl⟩
            have Q8 : Only [w2.heap.size] w7 w8 := by rw [hw8]; exact Only.setCell (Only.refl _ _) (by simp) _
            have B68 : Box w8 w2.heap.size 32 #[.slice A7 ED.length c7, .slice A4 x.limits.length c4, .int .i64 x.repeats, .int .i64 x.bonus, .int .i64 x.keeps, .int .i64 x.fall] := hw8 ▸ (B6q.kept k7).set 0 _
            have B18 := (B1q.kept k7).only Q8 (by simp; omega)
            have K8 : Kept w w8 := Q8.above (K3q.trans k7) (by simp; omega)
            have HKK : Hid (OwnK w8 w1.heap.size (.agg #[.slice A7 ED.length c7, .slice A4 x.limits.length c4, .int .i64 x.repeats, .int .i64 x.bonus, .int .i64 x.keeps, .int .i64 x.fall]) (addC x y k)) := by
              rw [HDC.out]
              refine ⟨_, _, rfl, (OwnE.base O7.out (by omega)).only Q8 (fun b hb hs => ?_), (((Q2.out.kept k3).kept kq).kept k7).only Q8 (fun b hb hs => ?_), ?_⟩
              · have := F7.out b hb; simp at hs; omega
              · have := F2.out b (by rw [fpA_code]; exact List.mem_append_right _ hb); simp at hs; omega
              · rw [fpA_code, List.nodup_append]
                refine ⟨nodup_one _, nodup_one _, fun y hy z hz e => ?_⟩
                have h1 := F7.out y hy
                have h2 := F2.out z (by rw [fpA_code]; exact List.mem_append_right _ hz)
                omega
            have hz8' : w1.heap.size ≤ w8.heap.size := by have := Q8.size; omega
            rw [← hw8]
            clear hw8
            obtain ⟨x0, y0⟩ := B68.six
            go_wp2_with fail
            clear x0 y0
            refine (cdIf_is X bb _ (addC x y k) _ w1.heap.size HX.out HBB.out HKK.out hz8').mono ?_
            rintro e w4 ⟨v4, rfl, o4, k4⟩
            replace B1 := B18.kept k4
            have K4 := K8.trans k4
            have HNE : Hid (∀ b ∈ fpA v4, b ≠ w.heap.size + 1 + 1) := fun b hb e => by have := o4.fps b hb; omega
            replace o4 := o4.base (base' := w.heap.size) (by omega)
            have FR := Lib.hid (o4.fps)
            obtain ⟨na, ma, rfl, pa, qa, nda⟩ := o4
            obtain ⟨Aa, ca, rfl, _⟩ := own_form pa.1
            obtain ⟨Da, da, rfl, _⟩ := own_form qa
            have OR : Hid (OwnK w4 w.heap.size (.agg #[.slice Aa X.elems.length ca, .slice Da X.limits.length da, .int .i64 X.repeats, .int .i64 X.bonus, .int .i64 X.keeps, .int .i64 X.fall]) (X)) := ⟨_, _, rfl, pa, qa, nda⟩
            clear pa qa nda
            obtain ⟨x1, y1⟩ := B1.six
            go_wp2_with fail
            clear x1 y1
            obtain ⟨w9, hw9, B9, Q9⟩ := set6 B1 (.slice Aa X.elems.length ca) (.slice Da X.limits.length da) (.int .i64 X.repeats) (.int .i64 X.bonus) (.int .i64 X.keeps) (.int .i64 X.fall)
            rw [← hw9]
            clear hw9
            obtain ⟨cc, ff⟩ := B9.six
            refine bodyPost_ret (v := .tuple #[.agg #[.slice Aa X.elems.length ca, .slice Da X.limits.length da, .int .i64 X.repeats, .int .i64 X.bonus, .int .i64 X.keeps, .int .i64 X.fall], .bool bb]) (by simp [results, Try.results10, go_sem, cc, ff]) rfl ⟨_, by rw [adB_yes HB.out HAT.out, HBB.out], ?_, Q9.above K4 (by simp <;> omega)⟩
            rw [adV_yes HB.out HAT.out, HX.out]
            exact OR.out.only Q9 (fun b hb hs => HNE.out b hb (by simpa using hs))
end Go.Proofs.Ytpkmngkepmoikaa
