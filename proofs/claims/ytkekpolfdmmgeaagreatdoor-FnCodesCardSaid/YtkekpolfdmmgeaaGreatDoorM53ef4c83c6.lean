/- Contracts of functions that the proof leans on. No condition. -/
import Derived.Test.YtkekpolfdmmgeaaGreatDoorMdd878cecf5
import Derived.Shelf.Strings.OnBuilder
import Derived.Test.YtkekpolfdmmgeaaGreatDoorChecked
import Derived.Shelf.Sort.Plain
import Derived.Shelf.Slices.CompactS
import Derived.Test.YtkekpolfdmmgeaaGreatDoorShelf
import Derived.Deep.RegionHeld3
import Derived.Deep.DeepCutAuto
/- Codes: AddElement, the reference's side, and the law. -/
namespace Go.Proofs.YtkekpolfdmmgeaaGreatDoor
set_option linter.unusedVariables false
set_option linter.unusedSimpArgs false
open Go.RowKit

set_option maxRecDepth 100000 in
set_option maxHeartbeats 8000000 in
theorem specAddElement_any (v ve : Value) (x : CodeD) (y : ElemD) (w : World) (h : CodeAt w v x) (he : ElemAt w ve y) :
    Calls Tryz.prog 10 #[v, ve] w fun e w' => ∃ v', e = .returned (.tuple #[v', .bool (adB x y)]) ∧ OwnK w' w.heap.size v' (adV x y) ∧ Kept w w' := by
  have h0 := h
  obtain ⟨nv, mv, rfl, q1, q2⟩ := h
  obtain ⟨A, c, rfl, hnc, hcm, hl⟩ := q1.1.out
  obtain ⟨A2, c2, rfl, _, _, _⟩ := q2.out
  unfold maxLen at hcm
  have HL := Lib.hid hl
  have HS := Lib.hid q1.2
  have H0 := Lib.hid h0
  have HE := Lib.hid q1
  clear h0 q1 q2 hl
  obtain ⟨rfl, hys⟩ := he
  go_enter Tryz.func10, Tryz.ntmps10
  go_wp2_with fail
  have B0 := ((Box.new w w.heap.size 26 #[.slice A x.elems.length c, .slice A2 x.limits.length c2, .int .i64 x.repeats, .int .i64 x.bonus, .int .i64 x.keeps, .int .i64 x.fall] rfl).alloc (.cells #[.string y.name, .int .i64 y.family, .int .i64 y.level, .int .i64 y.base] 31)).alloc (.cells #[.slice none 0 0, .slice none 0 0, .int .i64 0, .int .i64 0, .int .i64 0, .int .i64 0] 26)
  have BE := (Box.new (w.alloc (.cells #[.slice A x.elems.length c, .slice A2 x.limits.length c2, .int .i64 x.repeats, .int .i64 x.bonus, .int .i64 x.keeps, .int .i64 x.fall] 26)) (w.heap.size + 1) 31 #[.string y.name, .int .i64 y.family, .int .i64 y.level, .int .i64 y.base] (by simp)).alloc (.cells #[.slice none 0 0, .slice none 0 0, .int .i64 0, .int .i64 0, .int .i64 0, .int .i64 0] 26)
  have B1 := Box.new ((w.alloc (.cells #[.slice A x.elems.length c, .slice A2 x.limits.length c2, .int .i64 x.repeats, .int .i64 x.bonus, .int .i64 x.keeps, .int .i64 x.fall] 26)).alloc (.cells #[.string y.name, .int .i64 y.family, .int .i64 y.level, .int .i64 y.base] 31)) (w.heap.size + 1 + 1) 26 #[.slice none 0 0, .slice none 0 0, .int .i64 0, .int .i64 0, .int .i64 0, .int .i64 0] (by simp)
  have K0 : Kept w (((w.alloc (.cells #[.slice A x.elems.length c, .slice A2 x.limits.length c2, .int .i64 x.repeats, .int .i64 x.bonus, .int .i64 x.keeps, .int .i64 x.fall] 26)).alloc (.cells #[.string y.name, .int .i64 y.family, .int .i64 y.level, .int .i64 y.base] 31)).alloc (.cells #[.slice none 0 0, .slice none 0 0, .int .i64 0, .int .i64 0, .int .i64 0, .int .i64 0] 26)) := (((Kept.refl w).alloc _).alloc _).alloc _
  generalize ((w.alloc (.cells #[.slice A x.elems.length c, .slice A2 x.limits.length c2, .int .i64 x.repeats, .int .i64 x.bonus, .int .i64 x.keeps, .int .i64 x.fall] 26)).alloc (.cells #[.string y.name, .int .i64 y.family, .int .i64 y.level, .int .i64 y.base] 31)).alloc (.cells #[.slice none 0 0, .slice none 0 0, .int .i64 0, .int .i64 0, .int .i64 0, .int .i64 0] 26) = w0 at *
  have hzw : w.heap.size + 1 + 1 < w0.heap.size := B1.lt
  refine (cdGood_any _ x _ (H0.out.kept K0)).mono ?_
  rintro e w1 ⟨rfl, k1⟩
  replace B0 := B0.kept k1
  replace BE := BE.kept k1
  replace B1 := B1.kept k1
  have K1 := K0.trans k1
  have hz1 := k1.size
  clear K0 k1
  by_cases hb : codeB x = true
  case neg =>
    simp only [Bool.not_eq_true] at hb
    have HB := Lib.hid hb
    rw [hb]
    clear hb
    go_upto_region 2 with (fail)
    obtain ⟨x1, y1⟩ := B1.six
    go_wp2_with fail
    clear x1 y1
    obtain ⟨w3, hw3, B3, Q3⟩ := set6 B1 (.slice none 0 0) (.slice none 0 0) (.int .i64 0) (.int .i64 0) (.int .i64 0) (.int .i64 0)
    rw [← hw3]
    clear hw3
    obtain ⟨cc, ff⟩ := B3.six
    exact bodyPost_ret (v := .tuple #[.agg #[.slice none 0 0, .slice none 0 0, .int .i64 0, .int .i64 0, .int .i64 0, .int .i64 0], .bool false]) (by simp [results, Tryz.results10, go_sem, cc, ff]) rfl ⟨_, by rw [adB_no HB.out], by rw [adV_no HB.out]; exact zeroC_own _ _, Q3.above K1 (by simp <;> omega)⟩
  have HB := Lib.hid hb
  have hl24 := (codeB_heads hb).1.2
  have hl1 := (codeB_heads hb).1.1
  have hl5 : x.limits.length ≤ 5 := Nat.le_of_eq (codeB_heads hb).2
  rw [hb]
  clear hb
  obtain ⟨x0, y0⟩ := B0.six
  go_wp2_with fail
  clear x0 y0
  refine (cdOwn_any _ x _ (H0.out.kept K1) (by omega) (by omega)).mono ?_
  rintro e w2 ⟨v2, rfl, o2, k2⟩
  have F2 := Lib.hid o2.fps
  obtain ⟨n2, m2, rfl, p2, q2, nd2⟩ := o2
  obtain ⟨A3, c3, rfl, _, _, hA3⟩ := own_form p2.1
  obtain ⟨A4, c4, rfl, _⟩ := own_form q2
  have Q2 := Lib.hid q2
  clear p2 q2 nd2 hA3
  replace B0 := B0.kept k2
  replace BE := BE.kept k2
  replace B1 := B1.kept k2
  have K2 := K1.trans k2
  have hz2 := k2.size
  go_upto_region 4 with (fail)
  obtain ⟨w3, hw3⟩ : ∃ w' : World, w' = w2.alloc (.cells #[.slice A3 x.elems.length c3, .slice A4 x.limits.length c4, .int .i64 x.repeats, .int .i64 x.bonus, .int .i64 x.keeps, .int .i64 x.fall] 26) := ⟨_, rfl⟩
  rw [← hw3]
  have k3 : Kept w2 w3 := hw3 ▸ (Kept.refl w2).alloc _
  have B6 : Box w3 w2.heap.size 26 #[.slice A3 x.elems.length c3, .slice A4 x.limits.length c4, .int .i64 x.repeats, .int .i64 x.bonus, .int .i64 x.keeps, .int .i64 x.fall] := hw3 ▸ Box.new w2 w2.heap.size 26 _ rfl
  clear hw3
  replace B0 := B0.kept k3
  replace BE := BE.kept k3
  replace B1 := B1.kept k3
  have K3 := K2.trans k3
  have hz3 : w2.heap.size < w3.heap.size := B6.lt
  go_wp2_with fail
  go_loopw [7] (fun i wr => ∃ k : Nat, k ≤ x.elems.length ∧ i = .int .i64 k ∧ (∀ j z, j < k → x.elems[j]? = some z → lessB y z = true) ∧ Kept w3 wr) (fun i _ => x.elems.length - (intOf i).toNat)
  case atStart => exact ⟨0, Nat.zero_le _, rfl, (fun j _ hj => absurd hj (Nat.not_lt_zero j)), Kept.refl _⟩
  case round =>
    obtain ⟨k, hk, rfl, ha, hkept⟩ := hrel
    have HA := Lib.hid ha
    clear ha
    have B0r := B0.kept hkept
    have BEr := BE.kept hkept
    obtain ⟨x0, y0⟩ := B0r.six
    obtain ⟨xe, ye⟩ := BEr.four
    obtain ⟨b, o, _, rfl, hbl, _, _⟩ := elems_at (HL.out.kept (K3.trans hkept)) (k := 0) (by omega)
    by_cases hP : ∃ e, x.elems[k]? = some e ∧ lessB y e = true
    · obtain ⟨e, h2, he⟩ := hP
      have hlt : k < x.elems.length := (List.getElem?_eq_some_iff.1 h2).1
      obtain ⟨b', o', e', eA, hb', h2', q0, q1, q2, q3⟩ := elems_at (HL.out.kept (K3.trans hkept)) hlt
      injection eA with eA
      injection eA with eA1 eA2
      subst eA1 eA2
      rw [h2] at h2'
      injection h2' with h2'
      subst h2'
      have HE2 := Lib.hid h2
      have HEE := Lib.hid he
      have hd : decide ((k : Int) < (x.elems.length : Int)) = true := by simp; omega
      have hlt' : (k : Int) < (x.elems.length : Int) := by omega
      unfold lessB at he
      clear h2
      go_wp2_with fail
      go_quiet (fail)
      go_wp2_with fail
      go_roundw
      case rel => exact ⟨k + 1, by omega, by go_num, less_snoc HE2.out HEE.out HA.out, hkept.drewN _⟩
      case measure => simp [intOf]; omega
    · have HAT : Hid (insAt x.elems y = k) := insAt_is HA.out hk (fun z hz => by
        cases hq : lessB y z with
        | false => rfl
        | true => exact absurd ⟨z, hz, hq⟩ hP)
      have hdis : k < x.elems.length ∨ ¬ k < x.elems.length := Nat.lt_or_ge k x.elems.length |>.imp id Nat.not_lt.2
      have HSTOP : Hid (∀ hlt : k < x.elems.length, ∀ e, x.elems[k]? = some e → lessB y e = false) := fun _ e he => by
        cases hq : lessB y e with
        | false => rfl
        | true => exact absurd ⟨e, he, hq⟩ hP
      clear hP
      rcases hdis with hlt | hge
      · obtain ⟨b', o', e, eA, hb', h2, q0, q1, q2, q3⟩ := elems_at (HL.out.kept (K3.trans hkept)) hlt
        injection eA with eA
        injection eA with eA1 eA2
        subst eA1 eA2
        have he := HSTOP.out hlt e h2
        have hd : decide ((k : Int) < (x.elems.length : Int)) = true := by simp; omega
        have hlt' : (k : Int) < (x.elems.length : Int) := by omega
        unfold lessB at he
        clear h2
        go_wp2_with fail
        go_quiet (fail)
        rename_i nq
        clear x0 y0 xe ye q0 q1 q2 q3 he hd
        go_upto_region 7 with (fail)
        have kq : Kept w3 (wr.drewN nq) := hkept.drewN nq
        have B0q : Box (wr.drewN nq) w.heap.size 26 #[.slice (some ⟨b, o, none⟩) x.elems.length c, .slice A2 x.limits.length c2, .int .i64 x.repeats, .int .i64 x.bonus, .int .i64 x.keeps, .int .i64 x.fall] := B0r
        have BEq : Box (wr.drewN nq) (w.heap.size + 1) 31 #[.string y.name, .int .i64 y.family, .int .i64 y.level, .int .i64 y.base] := BEr
        have B1q : Box (wr.drewN nq) (w.heap.size + 1 + 1) 26 #[.slice none 0 0, .slice none 0 0, .int .i64 0, .int .i64 0, .int .i64 0, .int .i64 0] := B1.kept kq
        have B6q : Box (wr.drewN nq) w2.heap.size 26 #[.slice A3 x.elems.length c3, .slice A4 x.limits.length c4, .int .i64 x.repeats, .int .i64 x.bonus, .int .i64 x.keeps, .int .i64 x.fall] := B6.kept kq
        clear B0r BEr hkept
        generalize wr.drewN nq = wq at *
        have K3q : Kept w wq := K3.trans kq
        have hzq : w.heap.size + 1 + 1 < wq.heap.size := B1q.lt
        have hz6 : w2.heap.size < wq.heap.size := B6q.lt
        have hzw2 : w.heap.size + 1 + 1 < w2.heap.size := by omega
        have E3 := HE.out.kept K3q
        have T3 := Lib.hid (elems_to E3 rfl (i := k) hk)
        have HE3 := Lib.hid E3
        clear E3
        have hkc : (k : Int) ≤ (c : Int) := by omega
        have hkc' : k ≤ c := by omega
        have hkn : (k : Int) ≤ (x.elems.length : Int) := by omega
        have HSK : Hid (∀ w' : World, Kept wq w' → (w'.cell? ⟨w.heap.size, 0, none⟩ = some (.slice (some ⟨b, o, none⟩) x.elems.length c)) ∧ (w'.cell? ⟨w.heap.size + 1, 0, none⟩ = some (.string y.name) ∧ w'.cell? ⟨w.heap.size + 1, 1, none⟩ = some (.int .i64 y.family) ∧ w'.cell? ⟨w.heap.size + 1, 2, none⟩ = some (.int .i64 y.level) ∧ w'.cell? ⟨w.heap.size + 1, 3, none⟩ = some (.int .i64 y.base))) := fun w' hk => ⟨(B0q.kept hk).six.1.1, (BEq.kept hk).four.1⟩
        have HSK6 : Hid (∀ W : World, Kept wq W → ∀ u, ((W.setCell ⟨w2.heap.size, 0, none⟩ u).cell? ⟨w.heap.size, 0, none⟩ = some (.slice (some ⟨b, o, none⟩) x.elems.length c)) ∧ ((W.setCell ⟨w2.heap.size, 0, none⟩ u).cell? ⟨w.heap.size + 1, 0, none⟩ = some (.string y.name) ∧ (W.setCell ⟨w2.heap.size, 0, none⟩ u).cell? ⟨w.heap.size + 1, 1, none⟩ = some (.int .i64 y.family) ∧ (W.setCell ⟨w2.heap.size, 0, none⟩ u).cell? ⟨w.heap.size + 1, 2, none⟩ = some (.int .i64 y.level) ∧ (W.setCell ⟨w2.heap.size, 0, none⟩ u).cell? ⟨w.heap.size + 1, 3, none⟩ = some (.int .i64 y.base))) := fun W hk u => ⟨((B0q.kept hk).far ⟨w2.heap.size, 0, none⟩ (by dsimp only; omega) u).six.1.1, ((BEq.kept hk).far ⟨w2.heap.size, 0, none⟩ (by dsimp only; omega) u).four.1⟩
        have bA : Box (wq.alloc (.cells #[] 31)).drew wq.heap.size 31 #[] := Box.new wq _ _ _ rfl
        have bB : Box ((wq.alloc (.cells #[] 31)).alloc (.cells #[.string y.name, .int .i64 y.family, .int .i64 y.level, .int .i64 y.base] 31)).drew wq.heap.size 31 #[] := (Box.new wq wq.heap.size _ _ rfl).alloc _
        have bC : Box ((wq.alloc (.cells #[.string y.name, .int .i64 y.family, .int .i64 y.level, .int .i64 y.base] 31)).alloc (.cells #[] 31)).drew (wq.heap.size + 1) 31 #[] := Box.new (wq.alloc (.cells #[.string y.name, .int .i64 y.family, .int .i64 y.level, .int .i64 y.base] 31)) _ _ _ (by simp)
        have vB : Box ((wq.alloc (.cells #[] 31)).alloc (.cells #[.string y.name, .int .i64 y.family, .int .i64 y.level, .int .i64 y.base] 31)).drew (wq.heap.size + 1) 31 #[.string y.name, .int .i64 y.family, .int .i64 y.level, .int .i64 y.base] := Box.new (wq.alloc (.cells #[] 31)) _ _ _ (by simp)
        have vC : Box ((wq.alloc (.cells #[.string y.name, .int .i64 y.family, .int .i64 y.level, .int .i64 y.base] 31)).alloc (.cells #[] 31)).drew wq.heap.size 31 #[.string y.name, .int .i64 y.family, .int .i64 y.level, .int .i64 y.base] := (Box.new wq wq.heap.size _ _ rfl).alloc _
        have HED : Hid (x.elems.take k ++ [y] ++ x.elems.drop k = x.elems.take k ++ y :: x.elems.drop k) := by rw [List.append_assoc]; rfl
        obtain ⟨ED, hED⟩ : ∃ ED, x.elems.take k ++ [y] ++ x.elems.drop k = ED := ⟨_, rfl⟩
        have HED2 := Lib.hid hED
        clear hED
        have HDC : Hid (addC x y k = { x with elems := ED }) := by unfold addC; rw [← HED.out, HED2.out]; rfl
        obtain ⟨X, hX⟩ : ∃ X, ifC (addC x y k) = X := ⟨_, rfl⟩
        obtain ⟨bb, hbb⟩ : ∃ bb, codeB (addC x y k) = bb := ⟨_, rfl⟩
        have HX := Lib.hid hX
        have HBB := Lib.hid hbb
        clear hX hbb
        by_cases hck : c = k
        · omega
        · have U3 := Lib.hid (elems_from HE3.out rfl (k := k) hk)
          go_region_held3 (fun w' => (w'.cell? ⟨w.heap.size, 0, none⟩ = some (.slice (some ⟨b, o, none⟩) x.elems.length c)) ∧ (w'.cell? ⟨w.heap.size + 1, 0, none⟩ = some (.string y.name) ∧ w'.cell? ⟨w.heap.size + 1, 1, none⟩ = some (.int .i64 y.family) ∧ w'.cell? ⟨w.heap.size + 1, 2, none⟩ = some (.int .i64 y.level) ∧ w'.cell? ⟨w.heap.size + 1, 3, none⟩ = some (.int .i64 y.base))) (first | (with_reducible exact hS6 _) | (with_reducible exact HSK.out _ (Kept.refl wq).drew) | (with_reducible exact HSK.out _ ((Kept.refl wq).alloc _).drew) | (with_reducible exact HSK.out _ (((Kept.refl wq).alloc _).alloc _).drew) | (with_reducible exact HSK.out _ (by assumption)) | (with_reducible exact HSK.out _ (Kept.alloc (by assumption) _))) (first | (refine step_append_E0 wq _ rfl (.tmp 32) (.tmp 36) rfl _ rfl (by first | with_reducible exact bA | with_reducible exact bB | with_reducible exact bC) (by first | with_reducible exact ((Kept.refl wq).alloc _).drew | with_reducible exact (((Kept.refl wq).alloc _).alloc _).drew) (by first | exact Nat.le_refl _ | omega) _ (x.elems.take k) rfl T3.out (by rw [List.length_take]; omega) ?_; intro v5 w5 o5 k5 on5 loc5; have O5 := Lib.hid o5; clear o5 loc5) | (refine step_append_E _ rfl (.tmp 37) (.tmp 39) rfl wq.heap.size _ _ rfl (O5.out.kept ((Kept.refl w5).alloc (.cells #[.string y.name, .int .i64 y.family, .int .i64 y.level, .int .i64 y.base] 31))) _ [y] rfl (elems_one y (Box.new w5 w5.heap.size _ _ rfl) hys) (by simp; omega) (k5.alloc (.cells #[.string y.name, .int .i64 y.family, .int .i64 y.level, .int .i64 y.base] 31)).size ?_; intro v6 w6 o6 hg6; have k6 := (k5.alloc (.cells #[.string y.name, .int .i64 y.family, .int .i64 y.level, .int .i64 y.base] 31)).grew (O5.out.kept ((Kept.refl w5).alloc (.cells #[.string y.name, .int .i64 y.family, .int .i64 y.level, .int .i64 y.base] 31))).1 hg6 (Nat.le_refl _); clear hg6; have O6 := Lib.hid o6; clear o6) | (refine step_append_E _ rfl (.tmp 37) (.tmp 39) rfl wq.heap.size _ _ rfl O5.out _ [y] rfl (elems_one y (vB.only on5 (by simp)) hys) (by simp; omega) k5.size ?_; intro v6 w6 o6 hg6; have k6 := k5.grew O5.out.1 hg6 (Nat.le_refl _); clear hg6; have O6 := Lib.hid o6; clear o6) | (refine step_append_E _ rfl (.tmp 37) (.tmp 39) rfl wq.heap.size _ _ rfl O5.out _ [y] rfl (elems_one y (vC.only on5 (by simp)) hys) (by simp; omega) k5.size ?_; intro v6 w6 o6 hg6; have k6 := k5.grew O5.out.1 hg6 (Nat.le_refl _); clear hg6; have O6 := Lib.hid o6; clear o6) | (refine step_append_E _ rfl (.tmp 40) (.tmp 44) rfl wq.heap.size _ _ rfl O6.out _ (x.elems.drop k) rfl (U3.out.kept k6) (by simp; omega) k6.size ?_; intro v7 w7 o7 hg7; have k7 := k6.grew O6.out.1 hg7 (Nat.le_refl _); clear hg7; rw [HED2.out] at o7; obtain ⟨A7, c7, rfl, _⟩ := own_form o7.1; have O7 := Lib.hid o7; clear o7; have hS6 := HSK6.out _ k7; have h7c : w7.cell? ⟨w2.heap.size, 0, none⟩ = some (.slice A3 x.elems.length c3) := (B6q.kept k7).six.1.1; have h7f : w7.frozen? ⟨w2.heap.size, 0, none⟩ = false := (B6q.kept k7).six.2.1))
          all_goals
            rename_i hheld
            clear hheld h7c h7f hS6
            have F7 := Lib.hid (own_fp O7.out.1)
            have hz7 := k7.size
            obtain ⟨w8, hw8⟩ : ∃ w8, w8 = w7.setCell ⟨w2.heap.size, 0, none⟩ (.slice A7 ED.length c7) := ⟨_, rfl⟩
            have Q8 : Only [w2.heap.size] w7 w8 := by rw [hw8]; exact Only.setCell (Only.refl _ _) (by simp) _
            have B68 : Box w8 w2.heap.size 26 #[.slice A7 ED.length c7, .slice A4 x.limits.length c4, .int .i64 x.repeats, .int .i64 x.bonus, .int .i64 x.keeps, .int .i64 x.fall] := hw8 ▸ (B6q.kept k7).set 0 _
            have B18 := (B1q.kept k7).only Q8 (by simp; omega)
            have K8 : Kept w w8 := Q8.above (K3q.trans k7) (by simp; omega)
            have HKK : Hid (OwnK w8 w1.heap.size (.agg #[.slice A7 ED.length c7, .slice A4 x.limits.length c4, .int .i64 x.repeats, .int .i64 x.bonus, .int .i64 x.keeps, .int .i64 x.fall]) (addC x y k)) := by
              rw [HDC.out]
              refine ⟨_, _, rfl, (OwnE.base O7.out (by omega)).only Q8 (fun b hb hs => ?_), (((Q2.out.kept k3).kept kq).kept k7).only Q8 (fun b hb hs => ?_), ?_⟩
              · have := F7.out b hb; simp at hs; omega
              · have := F2.out b (by rw [fpA_code]; exact List.mem_append_right _ hb); simp at hs; omega
              · rw [fpA_code, List.nodup_append]
                refine ⟨nodup_one _, nodup_one _, fun y hy z hz e => ?_⟩
                have h1 := F7.out y hy
                have h2 := F2.out z (by rw [fpA_code]; exact List.mem_append_right _ hz)
                omega
            have hz8' : w1.heap.size ≤ w8.heap.size := by have := Q8.size; omega
            rw [← hw8]
            clear hw8
            obtain ⟨x0, y0⟩ := B68.six
            go_wp2_with fail
            clear x0 y0
            refine (cdIf_is X bb _ (addC x y k) _ w1.heap.size HX.out HBB.out HKK.out hz8').mono ?_
            rintro e w4 ⟨v4, rfl, o4, k4⟩
            replace B1 := B18.kept k4
            have K4 := K8.trans k4
            have HNE : Hid (∀ b ∈ fpA v4, b ≠ w.heap.size + 1 + 1) := fun b hb e => by have := o4.fps b hb; omega
            replace o4 := o4.base (base' := w.heap.size) (by omega)
            have FR := Lib.hid (o4.fps)
            obtain ⟨na, ma, rfl, pa, qa, nda⟩ := o4
            obtain ⟨Aa, ca, rfl, _⟩ := own_form pa.1
            obtain ⟨Da, da, rfl, _⟩ := own_form qa
            have OR : Hid (OwnK w4 w.heap.size (.agg #[.slice Aa X.elems.length ca, .slice Da X.limits.length da, .int .i64 X.repeats, .int .i64 X.bonus, .int .i64 X.keeps, .int .i64 X.fall]) (X)) := ⟨_, _, rfl, pa, qa, nda⟩
            clear pa qa nda
            obtain ⟨x1, y1⟩ := B1.six
            go_wp2_with fail
            clear x1 y1
            obtain ⟨w9, hw9, B9, Q9⟩ := set6 B1 (.slice Aa X.elems.length ca) (.slice Da X.limits.length da) (.int .i64 X.repeats) (.int .i64 X.bonus) (.int .i64 X.keeps) (.int .i64 X.fall)
            rw [← hw9]
            clear hw9
            obtain ⟨cc, ff⟩ := B9.six
            refine bodyPost_ret (v := .tuple #[.agg #[.slice Aa X.elems.length ca, .slice Da X.limits.length da, .int .i64 X.repeats, .int .i64 X.bonus, .int .i64 X.keeps, .int .i64 X.fall], .bool bb]) (by simp [results, Tryz.results10, go_sem, cc, ff]) rfl ⟨_, by rw [adB_yes HB.out HAT.out, HBB.out], ?_, Q9.above K4 (by simp <;> omega)⟩
            rw [adV_yes HB.out HAT.out, HX.out]
            exact OR.out.only Q9 (fun b hb hs => HNE.out b hb (by simpa using hs))
      · have hd : decide ((k : Int) < (x.elems.length : Int)) = false := by simp; omega
        have hd2 : decide (k < x.elems.length) = false := by simp; omega
        go_wp2_with fail
        go_quiet (fail)
        rename_i nq
        clear x0 y0 xe ye hd hd2
        go_upto_region 7 with (fail)
        have kq : Kept w3 (wr.drewN nq) := hkept.drewN nq
        have B0q : Box (wr.drewN nq) w.heap.size 26 #[.slice (some ⟨b, o, none⟩) x.elems.length c, .slice A2 x.limits.length c2, .int .i64 x.repeats, .int .i64 x.bonus, .int .i64 x.keeps, .int .i64 x.fall] := B0r
        have BEq : Box (wr.drewN nq) (w.heap.size + 1) 31 #[.string y.name, .int .i64 y.family, .int .i64 y.level, .int .i64 y.base] := BEr
        have B1q : Box (wr.drewN nq) (w.heap.size + 1 + 1) 26 #[.slice none 0 0, .slice none 0 0, .int .i64 0, .int .i64 0, .int .i64 0, .int .i64 0] := B1.kept kq
        have B6q : Box (wr.drewN nq) w2.heap.size 26 #[.slice A3 x.elems.length c3, .slice A4 x.limits.length c4, .int .i64 x.repeats, .int .i64 x.bonus, .int .i64 x.keeps, .int .i64 x.fall] := B6.kept kq
        clear B0r BEr hkept
        generalize wr.drewN nq = wq at *
        have K3q : Kept w wq := K3.trans kq
        have hzq : w.heap.size + 1 + 1 < wq.heap.size := B1q.lt
        have hz6 : w2.heap.size < wq.heap.size := B6q.lt
        have hzw2 : w.heap.size + 1 + 1 < w2.heap.size := by omega
        have E3 := HE.out.kept K3q
        have T3 := Lib.hid (elems_to E3 rfl (i := k) hk)
        have HE3 := Lib.hid E3
        clear E3
        have hkc : (k : Int) ≤ (c : Int) := by omega
        have hkc' : k ≤ c := by omega
        have hkn : (k : Int) ≤ (x.elems.length : Int) := by omega
        have HSK : Hid (∀ w' : World, Kept wq w' → (w'.cell? ⟨w.heap.size, 0, none⟩ = some (.slice (some ⟨b, o, none⟩) x.elems.length c)) ∧ (w'.cell? ⟨w.heap.size + 1, 0, none⟩ = some (.string y.name) ∧ w'.cell? ⟨w.heap.size + 1, 1, none⟩ = some (.int .i64 y.family) ∧ w'.cell? ⟨w.heap.size + 1, 2, none⟩ = some (.int .i64 y.level) ∧ w'.cell? ⟨w.heap.size + 1, 3, none⟩ = some (.int .i64 y.base))) := fun w' hk => ⟨(B0q.kept hk).six.1.1, (BEq.kept hk).four.1⟩
        have HSK6 : Hid (∀ W : World, Kept wq W → ∀ u, ((W.setCell ⟨w2.heap.size, 0, none⟩ u).cell? ⟨w.heap.size, 0, none⟩ = some (.slice (some ⟨b, o, none⟩) x.elems.length c)) ∧ ((W.setCell ⟨w2.heap.size, 0, none⟩ u).cell? ⟨w.heap.size + 1, 0, none⟩ = some (.string y.name) ∧ (W.setCell ⟨w2.heap.size, 0, none⟩ u).cell? ⟨w.heap.size + 1, 1, none⟩ = some (.int .i64 y.family) ∧ (W.setCell ⟨w2.heap.size, 0, none⟩ u).cell? ⟨w.heap.size + 1, 2, none⟩ = some (.int .i64 y.level) ∧ (W.setCell ⟨w2.heap.size, 0, none⟩ u).cell? ⟨w.heap.size + 1, 3, none⟩ = some (.int .i64 y.base))) := fun W hk u => ⟨((B0q.kept hk).far ⟨w2.heap.size, 0, none⟩ (by dsimp only; omega) u).six.1.1, ((BEq.kept hk).far ⟨w2.heap.size, 0, none⟩ (by dsimp only; omega) u).four.1⟩
        have bA : Box (wq.alloc (.cells #[] 31)).drew wq.heap.size 31 #[] := Box.new wq _ _ _ rfl
        have bB : Box ((wq.alloc (.cells #[] 31)).alloc (.cells #[.string y.name, .int .i64 y.family, .int .i64 y.level, .int .i64 y.base] 31)).drew wq.heap.size 31 #[] := (Box.new wq wq.heap.size _ _ rfl).alloc _
        have bC : Box ((wq.alloc (.cells #[.string y.name, .int .i64 y.family, .int .i64 y.level, .int .i64 y.base] 31)).alloc (.cells #[] 31)).drew (wq.heap.size + 1) 31 #[] := Box.new (wq.alloc (.cells #[.string y.name, .int .i64 y.family, .int .i64 y.level, .int .i64 y.base] 31)) _ _ _ (by simp)
        have vB : Box ((wq.alloc (.cells #[] 31)).alloc (.cells #[.string y.name, .int .i64 y.family, .int .i64 y.level, .int .i64 y.base] 31)).drew (wq.heap.size + 1) 31 #[.string y.name, .int .i64 y.family, .int .i64 y.level, .int .i64 y.base] := Box.new (wq.alloc (.cells #[] 31)) _ _ _ (by simp)
        have vC : Box ((wq.alloc (.cells #[.string y.name, .int .i64 y.family, .int .i64 y.level, .int .i64 y.base] 31)).alloc (.cells #[] 31)).drew wq.heap.size 31 #[.string y.name, .int .i64 y.family, .int .i64 y.level, .int .i64 y.base] := (Box.new wq wq.heap.size _ _ rfl).alloc _
        have HED : Hid (x.elems.take k ++ [y] ++ x.elems.drop k = x.elems.take k ++ y :: x.elems.drop k) := by rw [List.append_assoc]; rfl
        obtain ⟨ED, hED⟩ : ∃ ED, x.elems.take k ++ [y] ++ x.elems.drop k = ED := ⟨_, rfl⟩
        have HED2 := Lib.hid hED
        clear hED
        have HDC : Hid (addC x y k = { x with elems := ED }) := by unfold addC; rw [← HED.out, HED2.out]; rfl
        obtain ⟨X, hX⟩ : ∃ X, ifC (addC x y k) = X := ⟨_, rfl⟩
        obtain ⟨bb, hbb⟩ : ∃ bb, codeB (addC x y k) = bb := ⟨_, rfl⟩
        have HX := Lib.hid hX
        have HBB := Lib.hid hbb
        clear hX hbb
        by_cases hck : c = k
        · subst hck
          have U3 : Hid (Elems wq (.slice (some ⟨b, o, none⟩) 0 0) (x.elems.drop c)) := elems_none (by omega)
          go_region_held3 (fun w' => (w'.cell? ⟨w.heap.size, 0, none⟩ = some (.slice (some ⟨b, o, none⟩) x.elems.length c)) ∧ (w'.cell? ⟨w.heap.size + 1, 0, none⟩ = some (.string y.name) ∧ w'.cell? ⟨w.heap.size + 1, 1, none⟩ = some (.int .i64 y.family) ∧ w'.cell? ⟨w.heap.size + 1, 2, none⟩ = some (.int .i64 y.level) ∧ w'.cell? ⟨w.heap.size + 1, 3, none⟩ = some (.int .i64 y.base))) (first | (with_reducible exact hS6 _) | (with_reducible exact HSK.out _ (Kept.refl wq).drew) | (with_reducible exact HSK.out _ ((Kept.refl wq).alloc _).drew) | (with_reducible exact HSK.out _ (((Kept.refl wq).alloc _).alloc _).drew) | (with_reducible exact HSK.out _ (by assumption)) | (with_reducible exact HSK.out _ (Kept.alloc (by assumption) _))) (first | (refine step_append_E0 wq _ rfl (.tmp 32) (.tmp 36) rfl _ rfl (by first | with_reducible exact bA | with_reducible exact bB | with_reducible exact bC) (by first | with_reducible exact ((Kept.refl wq).alloc _).drew | with_reducible exact (((Kept.refl wq).alloc _).alloc _).drew) (by first | exact Nat.le_refl _ | omega) _ (x.elems.take c) rfl T3.out (by rw [List.length_take]; omega) ?_; intro v5 w5 o5 k5 on5 loc5; have O5 := Lib.hid o5; clear o5 loc5) | (refine step_append_E _ rfl (.tmp 37) (.tmp 39) rfl wq.heap.size _ _ rfl (O5.out.kept ((Kept.refl w5).alloc (.cells #[.string y.name, .int .i64 y.family, .int .i64 y.level, .int .i64 y.base] 31))) _ [y] rfl (elems_one y (Box.new w5 w5.heap.size _ _ rfl) hys) (by simp; omega) (k5.alloc (.cells #[.string y.name, .int .i64 y.family, .int .i64 y.level, .int .i64 y.base] 31)).size ?_; intro v6 w6 o6 hg6; have k6 := (k5.alloc (.cells #[.string y.name, .int .i64 y.family, .int .i64 y.level, .int .i64 y.base] 31)).grew (O5.out.kept ((Kept.refl w5).alloc (.cells #[.string y.name, .int .i64 y.family, .int .i64 y.level, .int .i64 y.base] 31))).1 hg6 (Nat.le_refl _); clear hg6; have O6 := Lib.hid o6; clear o6) | (refine step_append_E _ rfl (.tmp 37) (.tmp 39) rfl wq.heap.size _ _ rfl O5.out _ [y] rfl (elems_one y (vB.only on5 (by simp)) hys) (by simp; omega) k5.size ?_; intro v6 w6 o6 hg6; have k6 := k5.grew O5.out.1 hg6 (Nat.le_refl _); clear hg6; have O6 := Lib.hid o6; clear o6) | (refine step_append_E _ rfl (.tmp 37) (.tmp 39) rfl wq.heap.size _ _ rfl O5.out _ [y] rfl (elems_one y (vC.only on5 (by simp)) hys) (by simp; omega) k5.size ?_; intro v6 w6 o6 hg6; have k6 := k5.grew O5.out.1 hg6 (Nat.le_refl _); clear hg6; have O6 := Lib.hid o6; clear o6) | (refine step_append_E _ rfl (.tmp 40) (.tmp 44) rfl wq.heap.size _ _ rfl O6.out _ (x.elems.drop c) rfl (U3.out.kept k6) (by simp; omega) k6.size ?_; intro v7 w7 o7 hg7; have k7 := k6.grew O6.out.1 hg7 (Nat.le_refl _); clear hg7; rw [HED2.out] at o7; obtain ⟨A7, c7, rfl, _⟩ := own_form o7.1; have O7 := Lib.hid o7; clear o7; have hS6 := HSK6.out _ k7; have h7c : w7.cell? ⟨w2.heap.size, 0, none⟩ = some (.slice A3 x.elems.length c3) := (B6q.kept k7).six.1.1; have h7f : w7.frozen? ⟨w2.heap.size, 0, none⟩ = false := (B6q.kept k7).six.2.1))
          all_goals
            rename_i hheld
            clear hheld h7c h7f hS6
            have F7 := Lib.hid (own_fp O7.out.1)
            have hz7 := k7.size
            obtain ⟨w8, hw8⟩ : ∃ w8, w8 = w7.setCell ⟨w2.heap.size, 0, none⟩ (.slice A7 ED.length c7) := ⟨_, rfl⟩
            have Q8 : Only [w2.heap.size] w7 w8 := by rw [hw8]; exact Only.setCell (Only.refl _ _) (by simp) _
            have B68 : Box w8 w2.heap.size 26 #[.slice A7 ED.length c7, .slice A4 x.limits.length c4, .int .i64 x.repeats, .int .i64 x.bonus, .int .i64 x.keeps, .int .i64 x.fall] := hw8 ▸ (B6q.kept k7).set 0 _
            have B18 := (B1q.kept k7).only Q8 (by simp; omega)
            have K8 : Kept w w8 := Q8.above (K3q.trans k7) (by simp; omega)
            have HKK : Hid (OwnK w8 w1.heap.size (.agg #[.slice A7 ED.length c7, .slice A4 x.limits.length c4, .int .i64 x.repeats, .int .i64 x.bonus, .int .i64 x.keeps, .int .i64 x.fall]) (addC x y c)) := by
              rw [HDC.out]
              refine ⟨_, _, rfl, (OwnE.base O7.out (by omega)).only Q8 (fun b hb hs => ?_), (((Q2.out.kept k3).kept kq).kept k7).only Q8 (fun b hb hs => ?_), ?_⟩
              · have := F7.out b hb; simp at hs; omega
              · have := F2.out b (by rw [fpA_code]; exact List.mem_append_right _ hb); simp at hs; omega
              · rw [fpA_code, List.nodup_append]
                refine ⟨nodup_one _, nodup_one _, fun y hy z hz e => ?_⟩
                have h1 := F7.out y hy
                have h2 := F2.out z (by rw [fpA_code]; exact List.mem_append_right _ hz)
                omega
            have hz8' : w1.heap.size ≤ w8.heap.size := by have := Q8.size; omega
            rw [← hw8]
            clear hw8
            obtain ⟨x0, y0⟩ := B68.six
            go_wp2_with fail
            clear x0 y0
            refine (cdIf_is X bb _ (addC x y c) _ w1.heap.size HX.out HBB.out HKK.out hz8').mono ?_
            rintro e w4 ⟨v4, rfl, o4, k4⟩
            replace B1 := B18.kept k4
            have K4 := K8.trans k4
            have HNE : Hid (∀ b ∈ fpA v4, b ≠ w.heap.size + 1 + 1) := fun b hb e => by have := o4.fps b hb; omega
            replace o4 := o4.base (base' := w.heap.size) (by omega)
            have FR := Lib.hid (o4.fps)
            obtain ⟨na, ma, rfl, pa, qa, nda⟩ := o4
            obtain ⟨Aa, ca, rfl, _⟩ := own_form pa.1
            obtain ⟨Da, da, rfl, _⟩ := own_form qa
            have OR : Hid (OwnK w4 w.heap.size (.agg #[.slice Aa X.elems.length ca, .slice Da X.limits.length da, .int .i64 X.repeats, .int .i64 X.bonus, .int .i64 X.keeps, .int .i64 X.fall]) (X)) := ⟨_, _, rfl, pa, qa, nda⟩
            clear pa qa nda
            obtain ⟨x1, y1⟩ := B1.six
            go_wp2_with fail
            clear x1 y1
            obtain ⟨w9, hw9, B9, Q9⟩ := set6 B1 (.slice Aa X.elems.length ca) (.slice Da X.limits.length da) (.int .i64 X.repeats) (.int .i64 X.bonus) (.int .i64 X.keeps) (.int .i64 X.fall)
            rw [← hw9]
            clear hw9
            obtain ⟨cc, ff⟩ := B9.six
            refine bodyPost_ret (v := .tuple #[.agg #[.slice Aa X.elems.length ca, .slice Da X.limits.length da, .int .i64 X.repeats, .int .i64 X.bonus, .int .i64 X.keeps, .int .i64 X.fall], .bool bb]) (by simp [results, Tryz.results10, go_sem, cc, ff]) rfl ⟨_, by rw [adB_yes HB.out HAT.out, HBB.out], ?_, Q9.above K4 (by simp <;> omega)⟩
            rw [adV_yes HB.out HAT.out, HX.out]
            exact OR.out.only Q9 (fun b hb hs => HNE.out b hb (by simpa using hs))
        · have U3 := Lib.hid (elems_from HE3.out rfl (k := k) hk)
          go_region_held3 (fun w' => (w'.cell? ⟨w.heap.size, 0, none⟩ = some (.slice (some ⟨b, o, none⟩) x.elems.length c)) ∧ (w'.cell? ⟨w.heap.size + 1, 0, none⟩ = some (.string y.name) ∧ w'.cell? ⟨w.heap.size + 1, 1, none⟩ = some (.int .i64 y.family) ∧ w'.cell? ⟨w.heap.size + 1, 2, none⟩ = some (.int .i64 y.level) ∧ w'.cell? ⟨w.heap.size + 1, 3, none⟩ = some (.int .i64 y.base))) (first | (with_reducible exact hS6 _) | (with_reducible exact HSK.out _ (Kept.refl wq).drew) | (with_reducible exact HSK.out _ ((Kept.refl wq).alloc _).drew) | (with_reducible exact HSK.out _ (((Kept.refl wq).alloc _).alloc _).drew) | (with_reducible exact HSK.out _ (by assumption)) | (with_reducible exact HSK.out _ (Kept.alloc (by assumption) _))) (first | (refine step_append_E0 wq _ rfl (.tmp 32) (.tmp 36) rfl _ rfl (by first | with_reducible exact bA | with_reducible exact bB | with_reducible exact bC) (by first | with_reducible exact ((Kept.refl wq).alloc _).drew | with_reducible exact (((Kept.refl wq).alloc _).alloc _).drew) (by first | exact Nat.le_refl _ | omega) _ (x.elems.take k) rfl T3.out (by rw [List.length_take]; omega) ?_; intro v5 w5 o5 k5 on5 loc5; have O5 := Lib.hid o5; clear o5 loc5) | (refine step_append_E _ rfl (.tmp 37) (.tmp 39) rfl wq.heap.size _ _ rfl (O5.out.kept ((Kept.refl w5).alloc (.cells #[.string y.name, .int .i64 y.family, .int .i64 y.level, .int .i64 y.base] 31))) _ [y] rfl (elems_one y (Box.new w5 w5.heap.size _ _ rfl) hys) (by simp; omega) (k5.alloc (.cells #[.string y.name, .int .i64 y.family, .int .i64 y.level, .int .i64 y.base] 31)).size ?_; intro v6 w6 o6 hg6; have k6 := (k5.alloc (.cells #[.string y.name, .int .i64 y.family, .int .i64 y.level, .int .i64 y.base] 31)).grew (O5.out.kept ((Kept.refl w5).alloc (.cells #[.string y.name, .int .i64 y.family, .int .i64 y.level, .int .i64 y.base] 31))).1 hg6 (Nat.le_refl _); clear hg6; have O6 := Lib.hid o6; clear o6) | (refine step_append_E _ rfl (.tmp 37) (.tmp 39) rfl wq.heap.size _ _ rfl O5.out _ [y] rfl (elems_one y (vB.only on5 (by simp)) hys) (by simp; omega) k5.size ?_; intro v6 w6 o6 hg6; have k6 := k5.grew O5.out.1 hg6 (Nat.le_refl _); clear hg6; have O6 := Lib.hid o6; clear o6) | (refine step_append_E _ rfl (.tmp 37) (.tmp 39) rfl wq.heap.size _ _ rfl O5.out _ [y] rfl (elems_one y (vC.only on5 (by simp)) hys) (by simp; omega) k5.size ?_; intro v6 w6 o6 hg6; have k6 := k5.grew O5.out.1 hg6 (Nat.le_refl _); clear hg6; have O6 := Lib.hid o6; clear o6) | (refine step_append_E _ rfl (.tmp 40) (.tmp 44) rfl wq.heap.size _ _ rfl O6.out _ (x.elems.drop k) rfl (U3.out.kept k6) (by simp; omega) k6.size ?_; intro v7 w7 o7 hg7; have k7 := k6.grew O6.out.1 hg7 (Nat.le_refl _); clear hg7; rw [HED2.out] at o7; obtain ⟨A7, c7, rfl, _⟩ := own_form o7.1; have O7 := Lib.hid o7; clear o7; have hS6 := HSK6.out _ k7; have h7c : w7.cell? ⟨w2.heap.size, 0, none⟩ = some (.slice A3 x.elems.length c3) := (B6q.kept k7).six.1.1; have h7f : w7.frozen? ⟨w2.heap.size, 0, none⟩ = false := (B6q.kept k7).six.2.1))
          all_goals
            rename_i hheld
            clear hheld h7c h7f hS6
            have F7 := Lib.hid (own_fp O7.out.1)
            have hz7 := k7.size
            obtain ⟨w8, hw8⟩ : ∃ w8, w8 = w7.setCell ⟨w2.heap.size, 0, none⟩ (.slice A7 ED.length c7) := ⟨_, rfl⟩
            have Q8 : Only [w2.heap.size] w7 w8 := by rw [hw8]; exact Only.setCell (Only.refl _ _) (by simp) _
            have B68 : Box w8 w2.heap.size 26 #[.slice A7 ED.length c7, .slice A4 x.limits.length c4, .int .i64 x.repeats, .int .i64 x.bonus, .int .i64 x.keeps, .int .i64 x.fall] := hw8 ▸ (B6q.kept k7).set 0 _
            have B18 := (B1q.kept k7).only Q8 (by simp; omega)
            have K8 : Kept w w8 := Q8.above (K3q.trans k7) (by simp; omega)
            have HKK : Hid (OwnK w8 w1.heap.size (.agg #[.slice A7 ED.length c7, .slice A4 x.limits.length c4, .int .i64 x.repeats, .int .i64 x.bonus, .int .i64 x.keeps, .int .i64 x.fall]) (addC x y k)) := by
              rw [HDC.out]
              refine ⟨_, _, rfl, (OwnE.base O7.out (by omega)).only Q8 (fun b hb hs => ?_), (((Q2.out.kept k3).kept kq).kept k7).only Q8 (fun b hb hs => ?_), ?_⟩
              · have := F7.out b hb; simp at hs; omega
              · have := F2.out b (by rw [fpA_code]; exact List.mem_append_right _ hb); simp at hs; omega
              · rw [fpA_code, List.nodup_append]
                refine ⟨nodup_one _, nodup_one _, fun y hy z hz e => ?_⟩
                have h1 := F7.out y hy
                have h2 := F2.out z (by rw [fpA_code]; exact List.mem_append_right _ hz)
                omega
            have hz8' : w1.heap.size ≤ w8.heap.size := by have := Q8.size; omega
            rw [← hw8]
            clear hw8
            obtain ⟨x0, y0⟩ := B68.six
            go_wp2_with fail
            clear x0 y0
            refine (cdIf_is X bb _ (addC x y k) _ w1.heap.size HX.out HBB.out HKK.out hz8').mono ?_
            rintro e w4 ⟨v4, rfl, o4, k4⟩
            replace B1 := B18.kept k4
            have K4 := K8.trans k4
            have HNE : Hid (∀ b ∈ fpA v4, b ≠ w.heap.size + 1 + 1) := fun b hb e => by have := o4.fps b hb; omega
            replace o4 := o4.base (base' := w.heap.size) (by omega)
            have FR := Lib.hid (o4.fps)
            obtain ⟨na, ma, rfl, pa, qa, nda⟩ := o4
            obtain ⟨Aa, ca, rfl, _⟩ := own_form pa.1
            obtain ⟨Da, da, rfl, _⟩ := own_form qa
            have OR : Hid (OwnK w4 w.heap.size (.agg #[.slice Aa X.elems.length ca, .slice Da X.limits.length da, .int .i64 X.repeats, .int .i64 X.bonus, .int .i64 X.keeps, .int .i64 X.fall]) (X)) := ⟨_, _, rfl, pa, qa, nda⟩
            clear pa qa nda
            obtain ⟨x1, y1⟩ := B1.six
            go_wp2_with fail
            clear x1 y1
            obtain ⟨w9, hw9, B9, Q9⟩ := set6 B1 (.slice Aa X.elems.length ca) (.slice Da X.limits.length da) (.int .i64 X.repeats) (.int .i64 X.bonus) (.int .i64 X.keeps) (.int .i64 X.fall)
            rw [← hw9]
            clear hw9
            obtain ⟨cc, ff⟩ := B9.six
            refine bodyPost_ret (v := .tuple #[.agg #[.slice Aa X.elems.length ca, .slice Da X.limits.length da, .int .i64 X.repeats, .int .i64 X.bonus, .int .i64 X.keeps, .int .i64 X.fall], .bool bb]) (by simp [results, Tryz.results10, go_sem, cc, ff]) rfl ⟨_, by rw [adB_yes HB.out HAT.out, HBB.out], ?_, Q9.above K4 (by simp <;> omega)⟩
            rw [adV_yes HB.out HAT.out, HX.out]
            exact OR.out.only Q9 (fun b hb hs => HNE.out b hb (by simpa using hs))
end Go.Proofs.YtkekpolfdmmgeaaGreatDoor

/- strings.Builder's WriteString at this program, laid by hand: two of the numbers that the structures name stand in no body of the closure here. -/
namespace Go.Proofs
set_option linter.unusedVariables false
set_option linter.unusedSimpArgs false
open Go Go.Shelf Go.RowKit
def Tryz.b166_ren : Go.Shelf.Ren := ⟨fun | 166 => 48 | 240 => 96 | 276 => 123 | n => n, fun | 0 => 0 | 3 => 3 | 4 => 4 | 5 => 5 | 9 => 9 | 20 => 20 | 37 => 22 | 70 => 73 | 72 => 75 | 75 => 77 | 80 => 81 | 164 => 136 | n => n, fun | n => n⟩
theorem Tryz.b166 : Go.Proofs.Lays.n166 Tryz.prog Tryz.b166_ren := {
  mixed := by kernel_rfl
  f166 := Tryz.func48.trans (congrArg some (by kernel_rfl))
  f240 := Tryz.func96.trans (congrArg some (by kernel_rfl))
  f276 := Tryz.func123.trans (congrArg some (by kernel_rfl))
  t0 := Tryz.underlying0
  a0 := Tryz.isAgg0
  z0 := Tryz.sizeOf0
  v0 := Tryz.zeroValue0
  t3 := Tryz.underlying3
  a3 := Tryz.isAgg3
  z3 := Tryz.sizeOf3
  v3 := Tryz.zeroValue3
  t4 := Tryz.underlying4
  a4 := Tryz.isAgg4
  z4 := Tryz.sizeOf4
  v4 := Tryz.zeroValue4
  t9 := Tryz.underlying9
  a9 := Tryz.isAgg9
  z9 := Tryz.sizeOf9
  v9 := Tryz.zeroValue9
  t20 := Tryz.underlying20
  a20 := Tryz.isAgg20
  z20 := Tryz.sizeOf20
  v20 := Tryz.zeroValue20
  t37 := Tryz.underlying22
  a37 := Tryz.isAgg22
  z37 := Tryz.sizeOf22
  v37 := Tryz.zeroValue22
  t70 := Tryz.underlying73
  a70 := Tryz.isAgg73
  z70 := Tryz.sizeOf73
  v70 := Tryz.zeroValue73
  t72 := Tryz.underlying75
  a72 := Tryz.isAgg75
  z72 := Tryz.sizeOf75
  v72 := Tryz.zeroValue75
  t75 := Tryz.underlying77
  a75 := Tryz.isAgg77
  z75 := Tryz.sizeOf77
  v75 := Tryz.zeroValue77
  t164 := Tryz.underlying136
  a164 := Tryz.isAgg136
  z164 := Tryz.sizeOf136
  v164 := Tryz.zeroValue136 }
theorem Tryz.bX : Builder.Extra Tryz.prog Tryz.b166_ren := {
  sizeBuilder := by kernel_rfl
  liesBuilder := by kernel_rfl
  t5 := Tryz.underlying5
  a5 := Tryz.isAgg5
  z5 := Tryz.sizeOf5
  v5 := Tryz.zeroValue5
  infoByte := by kernel_rfl
  cellsByte := by kernel_rfl
  sizeByte := by kernel_rfl
  neB5 := by decide }
theorem Tryz.Builder_WriteString (B b : Nat) (bs : List Value) (s : ByteArray) (w : World) (h : Lib.IsBuilder 75 5 B b bs w) (hlen : bs.length + s.size ≤ 140737488355328) (hBw : B ≤ w.heap.size) :
    Calls Tryz.prog 48 #[.pointer (some ⟨b, 0, none⟩), .string s] w fun e w' => e = .returned (.tuple #[.int .i64 s.size, .nilIface]) ∧ (Lib.BuilderAt 75 5 B b (.pointer (some ⟨b, 0, none⟩)) (bs ++ Lib.strCells s) w' ∧ Below B w w') :=
  Any.Builder_WriteString Tryz.b166 Tryz.bX B b bs s w h hlen hBw
end Go.Proofs

/- Items: slices.Sort and slices.Compact at rows of strings; NamesIn, both sides. -/
namespace Go.Proofs.YtkekpolfdmmgeaaGreatDoor
set_option linter.unusedVariables false
set_option linter.unusedSimpArgs false
open Go.RowKit Go.Lib Go.Sort

theorem ownS_cases {w : World} {base : Nat} {v : Value} {zs : List ByteArray} (h : OwnS w base v zs) : (v = .slice none 0 0 ∧ zs = []) ∨ ∃ g cap, v = .slice (some ⟨g, 0, none⟩) zs.length cap ∧ zs.length ≤ cap ∧ cap ≤ maxLen := by
  rcases h.1.2 with ⟨e1, e2⟩ | ⟨g, cap, cur, e1, _, _, e4, e5, _⟩
  · exact .inl ⟨e1, List.eq_nil_of_length_eq_zero e2⟩
  · exact .inr ⟨g, cap, e1, e4, e5⟩
theorem own_shrink {w : World} {base g cap n m : Nat} {e : TypeId} {xs : List Value} (h : w.ownsRow base e 1 (.slice (some ⟨g, 0, none⟩) n cap) n xs) (hm : m ≤ n) : w.ownsRow base e 1 (.slice (some ⟨g, 0, none⟩) m cap) m (xs.take m) := by
  obtain ⟨hl, h2⟩ := h
  rcases h2 with ⟨e1, _⟩ | ⟨g', cap', cur, e1, hb, hg, hnc, hcm, hcs, ht⟩
  · cases e1
  · injection e1 with e1 e2 e3
    injection e1 with e1
    injection e1 with e1
    subst e1 e3
    refine ⟨by rw [List.length_take, hl]; omega, .inr ⟨g, cap, cur, rfl, hb, hg, by omega, hcm, hcs, ?_⟩⟩
    rw [← ht, List.take_take]
    congr 1
    omega
theorem enc_bl (zs : List ByteArray) : (zs.map bl).map encStr = zs.map Value.string := by
  rw [List.map_map]
  exact List.map_congr_left fun z _ => congrArg Value.string (bs_bl z)
theorem enc_bs (ls : List LB) : ls.map encStr = (ls.map bs).map Value.string := by
  rw [List.map_map]
  rfl
theorem names_len {zs : List LB} : (compact zs).length ≤ zs.length := by
  unfold compact compactUpTo
  rw [List.length_map]
  exact Nat.le_trans (List.length_filter_le _ _) (by simp)
theorem sortS_any (g cap : Nat) (zs : List ByteArray) (w : World) (base : Nat) (h : OwnS w base (.slice (some ⟨g, 0, none⟩) zs.length cap) zs) (hl : zs.length ≤ 1000000) :
    Calls Tryz.prog 84 #[.slice (some ⟨g, 0, none⟩) zs.length cap] w fun e w' => e = .returned (.tuple #[]) ∧ OwnS w' base (.slice (some ⟨g, 0, none⟩) zs.length cap) ((sortL (zs.map bl)).map bs) ∧ Only [g] w w' := by
  have h1 := h.1
  rw [← enc_bl] at h1
  have h2 : w.ownsRow base 9 1 (.slice (some ⟨g, 0, none⟩) (zs.map bl).length cap) (zs.map bl).length ((zs.map bl).map encStr) := by rw [List.length_map]; exact h1
  have c := Tryz.slices_Sort_string g 0 cap (zs.map bl) w (holds_own h2) (own_lt h1) (by rw [List.length_map]; omega)
  rw [List.length_map] at c
  refine c.mono ?_
  rintro e w' ⟨rfl, n, os, rfl⟩
  have q := putRow_own encStr h1 (ys := sortL (zs.map bl)) (by unfold sortL; rw [List.length_mergeSort, List.length_map]) n os
  refine ⟨rfl, ⟨?_, fun z hz => ?_⟩, q.2⟩
  · rw [← enc_bs, List.length_map, show (sortL (zs.map bl)).length = zs.length by unfold sortL; rw [List.length_mergeSort, List.length_map]]
    exact q.1
  · obtain ⟨l, hm, rfl⟩ := List.mem_map.1 hz
    obtain ⟨y, hy, e⟩ := List.mem_map.1 ((List.mergeSort_perm _ _).mem_iff.1 hm)
    subst e
    rw [bs_bl]
    exact h.2 y hy
theorem compactS_any (g cap : Nat) (zs : List ByteArray) (w : World) (base : Nat) (h : OwnS w base (.slice (some ⟨g, 0, none⟩) zs.length cap) ((sortL (zs.map bl)).map bs)) (hl : zs.length ≤ 1000000) (hcap : zs.length ≤ cap) (hsz : ∀ z ∈ zs, z.size ≤ maxLen) :
    Calls Tryz.prog 85 #[.slice (some ⟨g, 0, none⟩) zs.length cap] w fun e w' => ∃ v', e = .returned v' ∧ OwnS w' base v' (namesD zs) ∧ Only [g] w w' := by
  have hlen : (sortL (zs.map bl)).length = zs.length := by unfold sortL; rw [List.length_mergeSort, List.length_map]
  have h1 := h.1
  rw [List.length_map, hlen, ← enc_bs] at h1
  have h2 : w.ownsRow base 9 1 (.slice (some ⟨g, 0, none⟩) (sortL (zs.map bl)).length cap) (sortL (zs.map bl)).length ((sortL (zs.map bl)).map encStr) := by rw [hlen]; exact h1
  have c := Tryz.slices_Compact_string g 0 cap (sortL (zs.map bl)) w (holds_own h2) (by rw [hlen]; omega) (by rw [hlen]; exact hcap)
  have hcl := names_len (zs := sortL (zs.map bl))
  rw [hlen] at c hcl
  refine c.mono ?_
  rintro e w' ⟨rfl, n, rfl⟩
  have q := putRow_own encStr h1 (ys := compact (sortL (zs.map bl)) ++ List.replicate (zs.length - (compact (sortL (zs.map bl))).length) []) (by rw [List.length_append, List.length_replicate]; omega) n #[]
  rw [Go.Sort.grow_empty] at q
  refine ⟨_, rfl, ⟨?_, fun z hz => hsz z (names_mem hz)⟩, q.2⟩
  have s := own_shrink q.1 hcl
  have e1 : (namesD zs).length = (compact (sortL (zs.map bl))).length := by unfold namesD; rw [List.length_map]
  have e2 : ((compact (sortL (zs.map bl)) ++ List.replicate (zs.length - (compact (sortL (zs.map bl))).length) []).map encStr).take (compact (sortL (zs.map bl))).length = (namesD zs).map Value.string := by
    rw [← List.map_take, List.take_left, enc_bs]
    rfl
  rw [e2] at s
  rw [e1]
  exact s
theorem ret_vbN {v : Value} {b b' : Bool} (h : b = b') : Ending.returned (.tuple #[v, .bool b]) = .returned (.tuple #[v, .bool b']) := by rw [h]
theorem nilS (w : World) (base : Nat) : OwnS w base (.slice none 0 0) [] := ⟨⟨by simp, .inl ⟨rfl, rfl⟩⟩, fun _ h => by cases h⟩
theorem OwnS.base {w : World} {base base' : Nat} {v : Value} {zs : List ByteArray} (h : OwnS w base v zs) (hb : base' ≤ base) : OwnS w base' v zs := ⟨own_base h.1 hb, h.2⟩
theorem Only.above' {g : Nat} {a0 a b : World} (h : Only [g] a b) (k : Kept a0 a) (hg : a0.heap.size ≤ g) : Kept a0 b :=
  h.above k (fun x hx => by rw [List.mem_singleton] at hx; subst hx; exact hg)
set_option maxRecDepth 100000 in
theorem wpList_append_SL (w : World) {ops : Array Oper} {rest : List Oper} {o : Oper} {a : Act} {Q : Exit → Act → World → Prop} (hgd : o.guard = none) (s x : Operand)
    (ho : o.op = .call { callee := .builtin .append, args := #[s, x], argTypes := #[57, 57] })
    (base : Nat) (v : Value) (zs : List ByteArray) (hs : a.eval s = v) (hown : OwnS w base v zs) (u : Value) (ys : List ByteArray) (hx : a.eval x = u) (hr : Strs w u ys)
    (hl : zs.length + ys.length ≤ 16777216) (hbase : base ≤ w.heap.size)
    (h : ∀ v' w', OwnS w' base v' (zs ++ ys) → w.grownBy w' v.ownBlock → (v.ownBlock ≠ none → v'.ownBlock ≠ none) → wpList Tryz.prog ops Q rest (a.put o.dst v') w') : wpList Tryz.prog ops Q (o :: rest) a w := by
  refine wpList_plain hgd fun K hK => ?_
  obtain ⟨i0, hi, hz0, hz1, hz2⟩ := info_parts info_str
  obtain ⟨v', w', hrun, h2, h3, h4⟩ := run_append_locG (P := Tryz.prog) w base 57 o.type 9 i0 _ 1 16 Tryz.underlying57 hi hz0 hz1 hz2 rfl (by omega) v zs.length _ hown.1 u ys.length (ys.map Value.string) hr.1 (by simp) (fun y hy => by obtain ⟨_, _, rfl⟩ := List.mem_map.1 hy; rfl) (by unfold maxLen; omega) (by omega) hbase
  unfold Oper.wp execOp
  simp only [ho, resolve, invoke, builtin, Sem.run_bind, Sem.run_pure, Result.andThen_ok, List.map_toArray, List.map_cons, List.map_nil, hs, hx, hrun]
  refine hK _ _ (h v' w' ?_ h3 (fun hv => ?_))
  · refine ⟨by rw [List.length_append, List.map_append]; exact h2, fun e he => ?_⟩
    rcases List.mem_append.1 he with he | he
    · exact hown.2 e he
    · exact hr.2 e he
  · rcases h4 with h4 | h4
    · rw [h4]; exact hv
    · rw [h4]; simp
end Go.Proofs.YtkekpolfdmmgeaaGreatDoor
