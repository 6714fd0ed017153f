/- Contracts of functions that the proof leans on. No condition. -/
import Derived.Test.YtkekpolfdmmgeaaGreatDoorMdca3fd5b5d
/- Items: NamesIn, the reference's side. -/
namespace Go.Proofs.YtkekpolfdmmgeaaGreatDoor
set_option linter.unusedVariables false
set_option linter.unusedSimpArgs false
open Go.RowKit Go.Lib

set_option maxRecDepth 100000 in
set_option maxHeartbeats 32000000 in
theorem specNamesIn_any (v0 : Value) (its : List ItemD) (w : World) (h0 : ItemsAt w v0 its)  :
    Calls Tryz.prog 33 #[v0] w fun e w' => ∃ v', e = .returned (.tuple #[v', .bool (itemsB its)]) ∧ OwnS w' w.heap.size v' (niV its) ∧ Kept w w' := by
  have H0 := Lib.hid h0
  obtain ⟨A0, c0, cs0, rfl, hnc0, hcm0, hA0⟩ := h0.out; have HA0 := Lib.hid hA0; clear hA0 h0; unfold maxLen at hcm0
  go_enter Tryz.func33, Tryz.ntmps33
  have K0 := Kept.refl w
  go_wp2_with fail
  refine (itList_any _ its _ (H0.out.kept K0)).mono ?_
  rintro e w1 ⟨rfl, k1⟩
  have sz1 := k1.size
  have K1 := K0.trans k1
  by_cases hq : itemsB its = true
  case neg =>
    simp only [Bool.not_eq_true] at hq
    rw [hq]
    have HO : Hid (itemsB its = false) := Lib.hid hq
    clear hq
    go_wp2_with fail
    go_ret2
    exact ⟨_, ret_vbN HO.out.symm, by rw [niV_no HO.out]; exact nilS _ _, K1⟩
  rw [hq]
  have HQ := Lib.hid hq
  have hl14 := (itemsB_true hq).1
  clear hq
  go_wp2_with fail
  go_loopw [4, 15] (fun s4 s15 wr => ∃ (k : Nat) (os : List ByteArray), k ≤ its.length ∧ s15 = .int .i64 k ∧ OwnS wr w.heap.size s4 os ∧ IsNames os (allN (its.take k)) ∧ os.length ≤ 3 * k ∧ Kept w1 wr) (fun _ i _ => its.length - (intOf i).toNat)
  case atStart => exact ⟨0, [], Nat.zero_le _, rfl, nilS _ _, isNames_nil, Nat.zero_le _, Kept.refl _⟩
  case round =>
    obtain ⟨wo, rfl⟩ : ∃ wo : World, wo = wr := ⟨_, rfl⟩
    obtain ⟨k, os0, hk, rfl, ho, hp, hol, hkept⟩ := hrel
    by_cases hlt : k < its.length
    · obtain ⟨b, o, A1, c1, A2, c2, it, rfl, hbb, h2, h3, hit, q0, q1, q2⟩ := items_at (HA0.out.kept (K1.trans hkept)) hlt
      have hib := (itemsB_true HQ.out).2 it (List.mem_of_getElem? h2)
      obtain ⟨-, hn1, hn3, -, -⟩ := itemB_true hib
      obtain ⟨nv, mv, ee, r1, r2⟩ := hit
      simp only [Value.agg.injEq] at ee
      simp at ee
      obtain ⟨rfl, rfl⟩ := ee
      have HS := Lib.hid r1
      have HAN := Lib.hid (allN_snoc h2)
      have HO0 := Lib.hid ho
      have HP0 := Lib.hid hp
      clear h2 h3 r1 r2 ho hp hib
      have hc1 : it.names.length ≤ c1 ∧ c1 ≤ maxLen := by obtain ⟨_, _, e, a, b, _⟩ := HS.out.1.out; injection e with _ _ e; subst e; exact ⟨a, b⟩
      obtain ⟨hc1, hc1m⟩ := hc1
      unfold maxLen at hc1m
      go_wp2_with fail
      go_loopw [4, 22] (fun s4 s22 wi => ∃ (j : Nat) (os : List ByteArray), j ≤ it.names.length ∧ s22 = .int .i64 j ∧ OwnS wi w.heap.size s4 os ∧ IsNames os (allN (its.take k) ++ it.names.take j) ∧ os.length ≤ 3 * k + j ∧ Kept wo wi) (fun _ i _ => it.names.length - (intOf i).toNat)
      case atStart => exact ⟨0, os0, Nat.zero_le _, rfl, HO0.out.kept ((Kept.refl _).alloc _), (by rw [List.take_zero, List.append_nil]; exact HP0.out), by omega, (Kept.refl _).alloc _⟩
      case round =>
        obtain ⟨wi, rfl⟩ : ∃ wi : World, wi = wr := ⟨_, rfl⟩
        obtain ⟨j, os, hj, rfl, ho, hp, hol2, hki⟩ := hrel
        have HP := Lib.hid hp
        clear hp
        by_cases hltj : j < it.names.length
        · obtain ⟨b1, o1, z, rfl, hb1, hz, hc⟩ := strs_at (HS.out.1.addr.kept hki) hltj
          have HZ := Lib.hid hz
          have HZS := Lib.hid (HS.out.2 z (List.mem_of_getElem? hz))
          clear hz
          rcases ownS_cases ho with ⟨rfl, rfl⟩ | ⟨g, cap, rfl, hcap1, hcap2⟩
          · have HO := Lib.hid ho
            clear ho
            go_wp2_with fail
            go_loop [9] (fun s9 => s9 = .int .i64 0) (fun _ => 0)
            case atStart => rfl
            case round =>
              subst hrel
              have HTO : Hid (Strs wi (.slice none 0 0) (([] : List ByteArray).take 0)) := Lib.hid ⟨Seq.nil wi, fun _ h => by cases h⟩
              have HFR : Hid (Strs wi (.slice none 0 0) (([] : List ByteArray).drop 0)) := Lib.hid ⟨Seq.nil wi, fun _ h => by cases h⟩
              have HLT : Hid ((([] : List ByteArray).take 0 ++ [z]).length + (([] : List ByteArray).drop 0).length ≤ 16777216) := Lib.hid (by simp)
              go_wp2_with fail
              have bA : Box (wi.alloc (.cells #[] 9)).drew wi.heap.size 9 #[] := Box.new wi _ _ _ rfl
              have bB : Box ((wi.alloc (.cells #[] 9)).alloc (.cells #[.string z] 9)).drew wi.heap.size 9 #[] := (Box.new wi wi.heap.size _ _ rfl).alloc _
              have bC : Box ((wi.alloc (.cells #[.string z] 9)).alloc (.cells #[] 9)).drew (wi.heap.size + 1) 9 #[] := Box.new (wi.alloc (.cells #[.string z] 9)) _ _ _ (by simp)
              have vB : Box ((wi.alloc (.cells #[] 9)).alloc (.cells #[.string z] 9)).drew (wi.heap.size + 1) 9 #[.string z] := Box.new (wi.alloc (.cells #[] 9)) _ _ _ (by simp)
              have vC : Box ((wi.alloc (.cells #[.string z] 9)).alloc (.cells #[] 9)).drew wi.heap.size 9 #[.string z] := (Box.new wi wi.heap.size _ _ rfl).alloc _
              have kA : Kept wi (wi.alloc (.cells #[] 9)).drew := ((Kept.refl wi).alloc _).drew
              have kB : Kept wi ((wi.alloc (.cells #[] 9)).alloc (.cells #[.string z] 9)).drew := (((Kept.refl wi).alloc _).alloc _).drew
              have kC : Kept wi ((wi.alloc (.cells #[.string z] 9)).alloc (.cells #[] 9)).drew := (((Kept.refl wi).alloc _).alloc _).drew
              go_region_held3 (fun _ => True) (trivial) (first | (refine step_put_S wi _ rfl (.tmp 52) (.tmp 55) rfl (.slice (some ⟨wi.heap.size, 0, none⟩) 0 0) [] rfl (own0_S (by first | exact Nat.le_refl _ | omega) bA) kA _ (([] : List ByteArray).take 0) rfl (HTO.out.kept kA) (by simp <;> omega) ?_; intro v1 w1 o1 k1 on1; rw [List.nil_append] at o1) | (refine step_put_S wi _ rfl (.tmp 52) (.tmp 55) rfl (.slice (some ⟨wi.heap.size, 0, none⟩) 0 0) [] rfl (own0_S (by first | exact Nat.le_refl _ | omega) bB) kB _ (([] : List ByteArray).take 0) rfl (HTO.out.kept kB) (by simp <;> omega) ?_; intro v1 w1 o1 k1 on1; rw [List.nil_append] at o1; have hv2 := strs_box1 (vB.only on1 (by simp [fp_some])) HZS.out) | (refine step_put_S wi _ rfl (.tmp 52) (.tmp 55) rfl (.slice (some ⟨wi.heap.size + 1, 0, none⟩) 0 0) [] rfl (own0_S (by first | exact Nat.le_refl _ | omega) bC) kC _ (([] : List ByteArray).take 0) rfl (HTO.out.kept kC) (by simp <;> omega) ?_; intro v1 w1 o1 k1 on1; rw [List.nil_append] at o1; have hv2 := strs_box1 (vC.only on1 (by simp [fp_some])) HZS.out) | (refine step_put_S wi _ rfl (.tmp 56) (.tmp 58) rfl _ (([] : List ByteArray).take 0) rfl o1 k1 _ [z] rfl hv2 (by simp <;> omega) ?_; intro v2 w2 o2 k2 on2) | (refine step_put_S wi _ rfl (.tmp 56) (.tmp 58) rfl _ (([] : List ByteArray).take 0) rfl (o1.kept ((Kept.refl w1).alloc (.cells #[.string z] 9))) (k1.alloc (.cells #[.string z] 9)) _ [z] rfl (strs_box1 (Box.new w1 _ _ _ rfl) HZS.out) (by simp <;> omega) ?_; intro v2 w2 o2 k2 on2) | (refine step_put_S wi _ rfl (.tmp 59) (.tmp 62) rfl _ (([] : List ByteArray).take 0 ++ [z]) rfl o2 k2 _ (([] : List ByteArray).drop 0) rfl (HFR.out.kept k2) HLT.out ?_; intro v3 w3 o3 k3 on3))
              all_goals
                go_wp2_with fail
                go_roundw
                case rel => exact ⟨j + 1, [z], by omega, by go_num, OwnS.base o3 (Nat.le_trans (Nat.le_trans K1.size hkept.size) hki.size), (by rw [take_snoc HZ.out, ← List.append_assoc]; exact isNames_ins (k := 0) HP.out (Nat.zero_le _) (fun _ _ h => absurd h (by omega)) (fun _ h => by cases h)), by simp; omega, hki.trans k3⟩
                case measure => simp [intOf]; omega
          · have HO := Lib.hid ho
            clear ho
            unfold maxLen at hcap2
            go_wp2_with fail
            go_loop [9] (fun s9 => ∃ m : Nat, m ≤ os.length ∧ s9 = .int .i64 m ∧ ∀ i x, i < m → os[i]? = some x → nlt x z = true) (fun s9 => os.length - (intOf s9).toNat)
            case atStart => exact ⟨0, Nat.zero_le _, rfl, fun i x hi _ => absurd hi (by omega)⟩
            case round =>
              obtain ⟨m, hm, rfl, hgt⟩ := hrel
              have HG := Lib.hid hgt
              clear hgt
              by_cases hme : m = os.length
              · have HX : Hid (∀ x, os[m]? = some x → nlt x z = false ∧ x ≠ z) := Lib.hid (fun x hx => absurd (List.getElem?_eq_some_iff.1 hx).1 (by omega))
                have hd1 : decide ((m : Int) < (os.length : Int)) = false := by simp; omega
                have hd2 : decide (m < os.length) = false := by simp; omega
                have he1 : ((m : Int) == (os.length : Int)) = true := by rw [hme]; simp
                have he2 : (m == os.length) = true := by rw [hme]; simp
                clear hme
                go_wp2_with fail
                clear hd1 hd2 he1 he2
                have HLT : Hid ((os.take m ++ [z]).length + (os.drop m).length ≤ 16777216) := Lib.hid (by rw [List.length_append, List.length_take, List.length_drop]; simp; omega)
                have htl : (os.take m).length ≤ 60 := by rw [List.length_take]; omega
                have HTO : Hid (Strs wi (.slice (some ⟨g, 0, none⟩) m cap) (os.take m)) := Lib.hid (strs_to HO.out.strs rfl hm)
                by_cases hcap : cap = m
                · subst hcap
                  have h9 : os.length = cap := by omega
                  have H9 := Lib.hid h9
                  have HFR : Hid (Strs wi (.slice (some ⟨g, 0, none⟩) 0 0) (os.drop cap)) := Lib.hid (strs_none (by omega))
                  have g2 : (cap : Int) ≤ (os.length : Int) := by omega
                  have g3 : (os.length : Int) ≤ (cap : Int) := by omega
                  have g5 : os.length ≤ cap := by omega
                  clear h9
                  have bA : Box (wi.alloc (.cells #[] 9)).drew wi.heap.size 9 #[] := Box.new wi _ _ _ rfl
                  have bB : Box ((wi.alloc (.cells #[] 9)).alloc (.cells #[.string z] 9)).drew wi.heap.size 9 #[] := (Box.new wi wi.heap.size _ _ rfl).alloc _
                  have bC : Box ((wi.alloc (.cells #[.string z] 9)).alloc (.cells #[] 9)).drew (wi.heap.size + 1) 9 #[] := Box.new (wi.alloc (.cells #[.string z] 9)) _ _ _ (by simp)
                  have vB : Box ((wi.alloc (.cells #[] 9)).alloc (.cells #[.string z] 9)).drew (wi.heap.size + 1) 9 #[.string z] := Box.new (wi.alloc (.cells #[] 9)) _ _ _ (by simp)
                  have vC : Box ((wi.alloc (.cells #[.string z] 9)).alloc (.cells #[] 9)).drew wi.heap.size 9 #[.string z] := (Box.new wi wi.heap.size _ _ rfl).alloc _
                  have kA : Kept wi (wi.alloc (.cells #[] 9)).drew := ((Kept.refl wi).alloc _).drew
                  have kB : Kept wi ((wi.alloc (.cells #[] 9)).alloc (.cells #[.string z] 9)).drew := (((Kept.refl wi).alloc _).alloc _).drew
                  have kC : Kept wi ((wi.alloc (.cells #[.string z] 9)).alloc (.cells #[] 9)).drew := (((Kept.refl wi).alloc _).alloc _).drew
                  go_region_held3 (fun _ => True) (trivial) (first | (refine step_put_S wi _ rfl (.tmp 52) (.tmp 55) rfl (.slice (some ⟨wi.heap.size, 0, none⟩) 0 0) [] rfl (own0_S (by first | exact Nat.le_refl _ | omega) bA) kA _ (os.take cap) rfl (HTO.out.kept kA) (by simp <;> omega) ?_; intro v1 w1 o1 k1 on1; rw [List.nil_append] at o1) | (refine step_put_S wi _ rfl (.tmp 52) (.tmp 55) rfl (.slice (some ⟨wi.heap.size, 0, none⟩) 0 0) [] rfl (own0_S (by first | exact Nat.le_refl _ | omega) bB) kB _ (os.take cap) rfl (HTO.out.kept kB) (by simp <;> omega) ?_; intro v1 w1 o1 k1 on1; rw [List.nil_append] at o1; have hv2 := strs_box1 (vB.only on1 (by simp [fp_some])) HZS.out) | (refine step_put_S wi _ rfl (.tmp 52) (.tmp 55) rfl (.slice (some ⟨wi.heap.size + 1, 0, none⟩) 0 0) [] rfl (own0_S (by first | exact Nat.le_refl _ | omega) bC) kC _ (os.take cap) rfl (HTO.out.kept kC) (by simp <;> omega) ?_; intro v1 w1 o1 k1 on1; rw [List.nil_append] at o1; have hv2 := strs_box1 (vC.only on1 (by simp [fp_some])) HZS.out) | (refine step_put_S wi _ rfl (.tmp 56) (.tmp 58) rfl _ (os.take cap) rfl o1 k1 _ [z] rfl hv2 (by simp <;> omega) ?_; intro v2 w2 o2 k2 on2) | (refine step_put_S wi _ rfl (.tmp 56) (.tmp 58) rfl _ (os.take cap) rfl (o1.kept ((Kept.refl w1).alloc (.cells #[.string z] 9))) (k1.alloc (.cells #[.string z] 9)) _ [z] rfl (strs_box1 (Box.new w1 _ _ _ rfl) HZS.out) (by simp <;> omega) ?_; intro v2 w2 o2 k2 on2) | (refine step_put_S wi _ rfl (.tmp 59) (.tmp 62) rfl _ (os.take cap ++ [z]) rfl o2 k2 _ (os.drop cap) (by first | rfl | (simp [Act.eval, Act.put, H9.out])) (HFR.out.kept k2) HLT.out ?_; intro v3 w3 o3 k3 on3))
                  all_goals
                    go_wp2_with fail
                    go_roundw
                    case rel => exact ⟨j + 1, os.take cap ++ z :: os.drop cap, by omega, by go_num, (by have q := OwnS.base o3 (Nat.le_trans (Nat.le_trans K1.size hkept.size) hki.size); rw [List.append_assoc] at q; exact q), (by rw [take_snoc HZ.out, ← List.append_assoc]; exact isNames_ins HP.out hm HG.out HX.out), (by rw [List.length_append, List.length_cons, List.length_take, List.length_drop]; omega), hki.trans k3⟩
                    case measure => simp [intOf]; omega
                · have HCAP := Lib.hid hcap
                  have HFR : Hid (Strs wi (.slice (some ⟨g, m, none⟩) (os.length - m) (cap - m)) (os.drop m)) := Lib.hid (by have q := strs_from HO.out.strs rfl hm; rw [Nat.zero_add] at q; exact q)
                  have hc2 : ¬ cap = m := hcap
                  have hc3 : (cap == m) = false := beq_eq_false_iff_ne.2 hcap
                  have g1 : (m : Int) ≤ (cap : Int) := by omega
                  have g2 : (m : Int) ≤ (os.length : Int) := by omega
                  have g3 : (os.length : Int) ≤ (cap : Int) := by omega
                  have g5 : os.length ≤ cap := by omega
                  have g4 : m ≤ cap := by omega
                  have bA : Box (wi.alloc (.cells #[] 9)).drew wi.heap.size 9 #[] := Box.new wi _ _ _ rfl
                  have bB : Box ((wi.alloc (.cells #[] 9)).alloc (.cells #[.string z] 9)).drew wi.heap.size 9 #[] := (Box.new wi wi.heap.size _ _ rfl).alloc _
                  have bC : Box ((wi.alloc (.cells #[.string z] 9)).alloc (.cells #[] 9)).drew (wi.heap.size + 1) 9 #[] := Box.new (wi.alloc (.cells #[.string z] 9)) _ _ _ (by simp)
                  have vB : Box ((wi.alloc (.cells #[] 9)).alloc (.cells #[.string z] 9)).drew (wi.heap.size + 1) 9 #[.string z] := Box.new (wi.alloc (.cells #[] 9)) _ _ _ (by simp)
                  have vC : Box ((wi.alloc (.cells #[.string z] 9)).alloc (.cells #[] 9)).drew wi.heap.size 9 #[.string z] := (Box.new wi wi.heap.size _ _ rfl).alloc _
                  have kA : Kept wi (wi.alloc (.cells #[] 9)).drew := ((Kept.refl wi).alloc _).drew
                  have kB : Kept wi ((wi.alloc (.cells #[] 9)).alloc (.cells #[.string z] 9)).drew := (((Kept.refl wi).alloc _).alloc _).drew
                  have kC : Kept wi ((wi.alloc (.cells #[.string z] 9)).alloc (.cells #[] 9)).drew := (((Kept.refl wi).alloc _).alloc _).drew
                  go_region_held3 (fun _ => True) (trivial) (first | (refine step_put_S wi _ rfl (.tmp 52) (.tmp 55) rfl (.slice (some ⟨wi.heap.size, 0, none⟩) 0 0) [] rfl (own0_S (by first | exact Nat.le_refl _ | omega) bA) kA _ (os.take m) rfl (HTO.out.kept kA) (by simp <;> omega) ?_; intro v1 w1 o1 k1 on1; rw [List.nil_append] at o1) | (refine step_put_S wi _ rfl (.tmp 52) (.tmp 55) rfl (.slice (some ⟨wi.heap.size, 0, none⟩) 0 0) [] rfl (own0_S (by first | exact Nat.le_refl _ | omega) bB) kB _ (os.take m) rfl (HTO.out.kept kB) (by simp <;> omega) ?_; intro v1 w1 o1 k1 on1; rw [List.nil_append] at o1; have hv2 := strs_box1 (vB.only on1 (by simp [fp_some])) HZS.out) | (refine step_put_S wi _ rfl (.tmp 52) (.tmp 55) rfl (.slice (some ⟨wi.heap.size + 1, 0, none⟩) 0 0) [] rfl (own0_S (by first | exact Nat.le_refl _ | omega) bC) kC _ (os.take m) rfl (HTO.out.kept kC) (by simp <;> omega) ?_; intro v1 w1 o1 k1 on1; rw [List.nil_append] at o1; have hv2 := strs_box1 (vC.only on1 (by simp [fp_some])) HZS.out) | (refine step_put_S wi _ rfl (.tmp 56) (.tmp 58) rfl _ (os.take m) rfl o1 k1 _ [z] rfl hv2 (by simp <;> omega) ?_; intro v2 w2 o2 k2 on2) | (refine step_put_S wi _ rfl (.tmp 56) (.tmp 58) rfl _ (os.take m) rfl (o1.kept ((Kept.refl w1).alloc (.cells #[.string z] 9))) (k1.alloc (.cells #[.string z] 9)) _ [z] rfl (strs_box1 (Box.new w1 _ _ _ rfl) HZS.out) (by simp <;> omega) ?_; intro v2 w2 o2 k2 on2) | (refine step_put_S wi _ rfl (.tmp 59) (.tmp 62) rfl _ (os.take m ++ [z]) rfl o2 k2 _ (os.drop m) rfl (HFR.out.kept k2) HLT.out ?_; intro v3 w3 o3 k3 on3))
                  all_goals
                    go_wp2_with fail
                    go_roundw
                    case rel => exact ⟨j + 1, os.take m ++ z :: os.drop m, by omega, by go_num, (by have q := OwnS.base o3 (Nat.le_trans (Nat.le_trans K1.size hkept.size) hki.size); rw [List.append_assoc] at q; exact q), (by rw [take_snoc HZ.out, ← List.append_assoc]; exact isNames_ins HP.out hm HG.out HX.out), (by rw [List.length_append, List.length_cons, List.length_take, List.length_drop]; omega), hki.trans k3⟩
                    case measure => simp [intOf]; omega
              · have hml : m < os.length := by omega
                obtain ⟨b', o', x, eA, hb', hx', q3⟩ := strs_at HO.out.strs.1.addr (k := m) hml
                injection eA with eA
                injection eA with eA1 eA2 eA3
                subst eA1 eA2
                have f3 : (m : Int) < (os.length : Int) := by omega
                have he1 : ((m : Int) == (os.length : Int)) = false := beq_eq_false_iff_ne.2 (by omega)
                have he2 : (m == os.length) = false := beq_eq_false_iff_ne.2 (by omega)
                have HXP := Lib.hid hx'
                have q4 : wi.cell? ⟨g, m, none⟩ = some (.string x) := by rw [Nat.zero_add] at q3; exact q3
                clear hx' eA3 hme
                by_cases hxz : nlt x z = true
                · have HXZ := Lib.hid hxz
                  unfold nlt at hxz
                  go_wp2_with fail
                  go_round
                  case rel => exact ⟨m + 1, by omega, by go_num, fun i y hi hy => by rcases Nat.lt_or_eq_of_le (Nat.le_of_lt_succ hi) with h1 | h1; exact HG.out i y h1 hy; subst h1; rw [HXP.out] at hy; injection hy with hy; subst hy; exact HXZ.out⟩
                  case measure => simp [intOf]; omega
                · simp only [Bool.not_eq_true] at hxz
                  have HXZ := Lib.hid hxz
                  unfold nlt at hxz
                  by_cases hxe : x = z
                  · have HXE := Lib.hid hxe
                    have hne : (!x.toList == z.toList) = false := by simp [hxe]
                    have heq : (x.toList == z.toList) = true := by simp [hxe]
                    clear hxe
                    go_wp2_with fail
                    go_roundw
                    case rel => exact ⟨j + 1, os, by omega, by go_num, HO.out, (by rw [take_snoc HZ.out, ← List.append_assoc]; exact isNames_in HP.out (by rw [← HXE.out]; exact List.mem_of_getElem? HXP.out)), by omega, hki⟩
                    case measure => simp [intOf]; omega
                  · have hnl : ¬ x.toList = z.toList := fun e => hxe (str_ext e)
                    have hne : (!x.toList == z.toList) = true := by simp [hnl]
                    have heq : (x.toList == z.toList) = false := by simp [hnl]
                    have HX : Hid (∀ y, os[m]? = some y → nlt y z = false ∧ y ≠ z) := Lib.hid (fun y hy => by rw [HXP.out] at hy; injection hy with hy; subst hy; exact ⟨HXZ.out, hxe⟩)
                    clear hxe hnl
                    go_wp2_with fail
                    clear f3 he1 he2 q3 q4 hxz hne heq
                    have HLT : Hid ((os.take m ++ [z]).length + (os.drop m).length ≤ 16777216) := Lib.hid (by rw [List.length_append, List.length_take, List.length_drop]; simp; omega)
                    have htl : (os.take m).length ≤ 60 := by rw [List.length_take]; omega
                    have HTO : Hid (Strs wi (.slice (some ⟨g, 0, none⟩) m cap) (os.take m)) := Lib.hid (strs_to HO.out.strs rfl hm)
                    by_cases hcap : cap = m
                    · subst hcap
                      have h9 : os.length = cap := by omega
                      have H9 := Lib.hid h9
                      have HFR : Hid (Strs wi (.slice (some ⟨g, 0, none⟩) 0 0) (os.drop cap)) := Lib.hid (strs_none (by omega))
                      have g2 : (cap : Int) ≤ (os.length : Int) := by omega
                      have g3 : (os.length : Int) ≤ (cap : Int) := by omega
                      have g5 : os.length ≤ cap := by omega
                      clear h9
                      have bA : Box (wi.alloc (.cells #[] 9)).drew wi.heap.size 9 #[] := Box.new wi _ _ _ rfl
                      have bB : Box ((wi.alloc (.cells #[] 9)).alloc (.cells #[.string z] 9)).drew wi.heap.size 9 #[] := (Box.new wi wi.heap.size _ _ rfl).alloc _
                      have bC : Box ((wi.alloc (.cells #[.string z] 9)).alloc (.cells #[] 9)).drew (wi.heap.size + 1) 9 #[] := Box.new (wi.alloc (.cells #[.string z] 9)) _ _ _ (by simp)
                      have vB : Box ((wi.alloc (.cells #[] 9)).alloc (.cells #[.string z] 9)).drew (wi.heap.size + 1) 9 #[.string z] := Box.new (wi.alloc (.cells #[] 9)) _ _ _ (by simp)
                      have vC : Box ((wi.alloc (.cells #[.string z] 9)).alloc (.cells #[] 9)).drew wi.heap.size 9 #[.string z] := (Box.new wi wi.heap.size _ _ rfl).alloc _
                      have kA : Kept wi (wi.alloc (.cells #[] 9)).drew := ((Kept.refl wi).alloc _).drew
                      have kB : Kept wi ((wi.alloc (.cells #[] 9)).alloc (.cells #[.string z] 9)).drew := (((Kept.refl wi).alloc _).alloc _).drew
                      have kC : Kept wi ((wi.alloc (.cells #[.string z] 9)).alloc (.cells #[] 9)).drew := (((Kept.refl wi).alloc _).alloc _).drew
                      go_region_held3 (fun _ => True) (trivial) (first | (refine step_put_S wi _ rfl (.tmp 52) (.tmp 55) rfl (.slice (some ⟨wi.heap.size, 0, none⟩) 0 0) [] rfl (own0_S (by first | exact Nat.le_refl _ | omega) bA) kA _ (os.take cap) rfl (HTO.out.kept kA) (by simp <;> omega) ?_; intro v1 w1 o1 k1 on1; rw [List.nil_append] at o1) | (refine step_put_S wi _ rfl (.tmp 52) (.tmp 55) rfl (.slice (some ⟨wi.heap.size, 0, none⟩) 0 0) [] rfl (own0_S (by first | exact Nat.le_refl _ | omega) bB) kB _ (os.take cap) rfl (HTO.out.kept kB) (by simp <;> omega) ?_; intro v1 w1 o1 k1 on1; rw [List.nil_append] at o1; have hv2 := strs_box1 (vB.only on1 (by simp [fp_some])) HZS.out) | (refine step_put_S wi _ rfl (.tmp 52) (.tmp 55) rfl (.slice (some ⟨wi.heap.size + 1, 0, none⟩) 0 0) [] rfl (own0_S (by first | exact Nat.le_refl _ | omega) bC) kC _ (os.take cap) rfl (HTO.out.kept kC) (by simp <;> omega) ?_; intro v1 w1 o1 k1 on1; rw [List.nil_append] at o1; have hv2 := strs_box1 (vC.only on1 (by simp [fp_some])) HZS.out) | (refine step_put_S wi _ rfl (.tmp 56) (.tmp 58) rfl _ (os.take cap) rfl o1 k1 _ [z] rfl hv2 (by simp <;> omega) ?_; intro v2 w2 o2 k2 on2) | (refine step_put_S wi _ rfl (.tmp 56) (.tmp 58) rfl _ (os.take cap) rfl (o1.kept ((Kept.refl w1).alloc (.cells #[.string z] 9))) (k1.alloc (.cells #[.string z] 9)) _ [z] rfl (strs_box1 (Box.new w1 _ _ _ rfl) HZS.out) (by simp <;> omega) ?_; intro v2 w2 o2 k2 on2) | (refine step_put_S wi _ rfl (.tmp 59) (.tmp 62) rfl _ (os.take cap ++ [z]) rfl o2 k2 _ (os.drop cap) (by first | rfl | (simp [Act.eval, Act.put, H9.out])) (HFR.out.kept k2) HLT.out ?_; intro v3 w3 o3 k3 on3))
                      all_goals
                        go_wp2_with fail
                        go_roundw
                        case rel => exact ⟨j + 1, os.take cap ++ z :: os.drop cap, by omega, by go_num, (by have q := OwnS.base o3 (Nat.le_trans (Nat.le_trans K1.size hkept.size) hki.size); rw [List.append_assoc] at q; exact q), (by rw [take_snoc HZ.out, ← List.append_assoc]; exact isNames_ins HP.out hm HG.out HX.out), (by rw [List.length_append, List.length_cons, List.length_take, List.length_drop]; omega), hki.trans k3⟩
                        case measure => simp [intOf]; omega
                    · have HCAP := Lib.hid hcap
                      have HFR : Hid (Strs wi (.slice (some ⟨g, m, none⟩) (os.length - m) (cap - m)) (os.drop m)) := Lib.hid (by have q := strs_from HO.out.strs rfl hm; rw [Nat.zero_add] at q; exact q)
                      have hc2 : ¬ cap = m := hcap
                      have hc3 : (cap == m) = false := beq_eq_false_iff_ne.2 hcap
                      have g1 : (m : Int) ≤ (cap : Int) := by omega
                      have g2 : (m : Int) ≤ (os.length : Int) := by omega
                      have g3 : (os.length : Int) ≤ (cap : Int) := by omega
                      have g5 : os.length ≤ cap := by omega
                      have g4 : m ≤ cap := by omega
                      have bA : Box (wi.alloc (.cells #[] 9)).drew wi.heap.size 9 #[] := Box.new wi _ _ _ rfl
                      have bB : Box ((wi.alloc (.cells #[] 9)).alloc (.cells #[.string z] 9)).drew wi.heap.size 9 #[] := (Box.new wi wi.heap.size _ _ rfl).alloc _
                      have bC : Box ((wi.alloc (.cells #[.string z] 9)).alloc (.cells #[] 9)).drew (wi.heap.size + 1) 9 #[] := Box.new (wi.alloc (.cells #[.string z] 9)) _ _ _ (by simp)
                      have vB : Box ((wi.alloc (.cells #[] 9)).alloc (.cells #[.string z] 9)).drew (wi.heap.size + 1) 9 #[.string z] := Box.new (wi.alloc (.cells #[] 9)) _ _ _ (by simp)
                      have vC : Box ((wi.alloc (.cells #[.string z] 9)).alloc (.cells #[] 9)).drew wi.heap.size 9 #[.string z] := (Box.new wi wi.heap.size _ _ rfl).alloc _
                      have kA : Kept wi (wi.alloc (.cells #[] 9)).drew := ((Kept.refl wi).alloc _).drew
                      have kB : Kept wi ((wi.alloc (.cells #[] 9)).alloc (.cells #[.string z] 9)).drew := (((Kept.refl wi).alloc _).alloc _).drew
                      have kC : Kept wi ((wi.alloc (.cells #[.string z] 9)).alloc (.cells #[] 9)).drew := (((Kept.refl wi).alloc _).alloc _).drew
                      go_region_held3 (fun _ => True) (trivial) (first | (refine step_put_S wi _ rfl (.tmp 52) (.tmp 55) rfl (.slice (some ⟨wi.heap.size, 0, none⟩) 0 0) [] rfl (own0_S (by first | exact Nat.le_refl _ | omega) bA) kA _ (os.take m) rfl (HTO.out.kept kA) (by simp <;> omega) ?_; intro v1 w1 o1 k1 on1; rw [List.nil_append] at o1) | (refine step_put_S wi _ rfl (.tmp 52) (.tmp 55) rfl (.slice (some ⟨wi.heap.size, 0, none⟩) 0 0) [] rfl (own0_S (by first | exact Nat.le_refl _ | omega) bB) kB _ (os.take m) rfl (HTO.out.kept kB) (by simp <;> omega) ?_; intro v1 w1 o1 k1 on1; rw [List.nil_append] at o1; have hv2 := strs_box1 (vB.only on1 (by simp [fp_some])) HZS.out) | (refine step_put_S wi _ rfl (.tmp 52) (.tmp 55) rfl (.slice (some ⟨wi.heap.size + 1, 0, none⟩) 0 0) [] rfl (own0_S (by first | exact Nat.le_refl _ | omega) bC) kC _ (os.take m) rfl (HTO.out.kept kC) (by simp <;> omega) ?_; intro v1 w1 o1 k1 on1; rw [List.nil_append] at o1; have hv2 := strs_box1 (vC.only on1 (by simp [fp_some])) HZS.out) | (refine step_put_S wi _ rfl (.tmp 56) (.tmp 58) rfl _ (os.take m) rfl o1 k1 _ [z] rfl hv2 (by simp <;> omega) ?_; intro v2 w2 o2 k2 on2) | (refine step_put_S wi _ rfl (.tmp 56) (.tmp 58) rfl _ (os.take m) rfl (o1.kept ((Kept.refl w1).alloc (.cells #[.string z] 9))) (k1.alloc (.cells #[.string z] 9)) _ [z] rfl (strs_box1 (Box.new w1 _ _ _ rfl) HZS.out) (by simp <;> omega) ?_; intro v2 w2 o2 k2 on2) | (refine step_put_S wi _ rfl (.tmp 59) (.tmp 62) rfl _ (os.take m ++ [z]) rfl o2 k2 _ (os.drop m) rfl (HFR.out.kept k2) HLT.out ?_; intro v3 w3 o3 k3 on3))
                      all_goals
                        go_wp2_with fail
                        go_roundw
                        case rel => exact ⟨j + 1, os.take m ++ z :: os.drop m, by omega, by go_num, (by have q := OwnS.base o3 (Nat.le_trans (Nat.le_trans K1.size hkept.size) hki.size); rw [List.append_assoc] at q; exact q), (by rw [take_snoc HZ.out, ← List.append_assoc]; exact isNames_ins HP.out hm HG.out HX.out), (by rw [List.length_append, List.length_cons, List.length_take, List.length_drop]; omega), hki.trans k3⟩
                        case measure => simp [intOf]; omega
        · obtain rfl : j = it.names.length := by omega
          have HO := Lib.hid ho
          clear ho
          go_wp2_with fail
          go_roundw
          case rel => exact ⟨k + 1, os, by omega, by go_num, HO.out, (by have q := HP.out; rw [List.take_length] at q; rw [HAN.out]; exact q), by omega, hkept.trans hki⟩
          case measure => simp [intOf]; omega
    · obtain rfl : k = its.length := by omega
      have HO := Lib.hid ho
      have HE : Hid (niV its = os0) := Lib.hid (by rw [niV_yes HQ.out]; rw [List.take_length] at hp; exact (isNames_eq hp).symm)
      clear ho hp
      go_wp2_with fail
      go_ret2
      exact ⟨_, ret_vbN HQ.out.symm, by rw [HE.out]; exact HO.out, K1.trans hkept⟩
end Go.Proofs.YtkekpolfdmmgeaaGreatDoor

/- Marks counted. -/
namespace Go.Proofs.YtkekpolfdmmgeaaGreatDoor
set_option linter.unusedVariables false
set_option linter.unusedSimpArgs false
open Go.RowKit

def cmD (l : List Int) (d : Int) : Int := ((l.filter fun x => decide (x = d)).length : Int)
def cm (l : List Int) : List Int := [cmD l 0, cmD l 1, cmD l 2, cmD l 3]
def allMarks (its : List ItemD) : List Int := its.flatMap ItemD.marks
theorem cmD_snoc (l : List Int) (m d : Int) : cmD (l ++ [m]) d = cmD l d + if m = d then 1 else 0 := by
  unfold cmD
  rw [List.filter_append]
  by_cases h : m = d <;> simp [List.filter_cons, h]
theorem cm_snoc (l : List Int) (m : Int) (h0 : 0 ≤ m) (h3 : m ≤ 3) : cm (l ++ [m]) = (cm l).set m.toNat (cmD l m + 1) := by
  have hm : m = 0 ∨ m = 1 ∨ m = 2 ∨ m = 3 := by omega
  unfold cm
  rcases hm with rfl | rfl | rfl | rfl <;> simp [cmD_snoc]
theorem cm_get (l : List Int) (m : Int) (h0 : 0 ≤ m) (h3 : m ≤ 3) : (cm l)[m.toNat]? = some (cmD l m) := by
  have hm : m = 0 ∨ m = 1 ∨ m = 2 ∨ m = 3 := by omega
  unfold cm
  rcases hm with rfl | rfl | rfl | rfl <;> rfl
theorem cmD_bd (l : List Int) (d : Int) : 0 ≤ cmD l d ∧ cmD l d ≤ l.length := by
  unfold cmD
  have := List.length_filter_le (fun x => decide (x = d)) l
  omega
theorem allMarks_bd {its : List ItemD} (hb : itemsB its = true) (k : Nat) : (allMarks (its.take k)).length ≤ 42 := by
  obtain ⟨h1, h2⟩ := itemsB_true hb
  unfold allMarks
  rw [List.length_flatMap]
  have := sum_le_mul ((its.take k).map fun it => it.marks.length) 3 (by
    intro x hx
    obtain ⟨it, hi, rfl⟩ := List.mem_map.1 hx
    have := itemB_true (h2 it (List.mem_of_mem_take hi))
    omega)
  rw [List.length_map, List.length_take] at this
  omega
theorem allMarks_snoc {its : List ItemD} {k : Nat} {it : ItemD} (h : its[k]? = some it) : allMarks (its.take (k + 1)) = allMarks (its.take k) ++ it.marks := by
  unfold allMarks
  rw [take_snoc h]
  simp
def cmV (its : List ItemD) : List Int := if itemsB its then cm (allMarks its) else []
theorem cmV_len (its : List ItemD) : (cmV its).length ≤ 4 := by unfold cmV; split <;> simp [cm]
set_option maxHeartbeats 2000000 in
theorem implCountMarks_any (v : Value) (its : List ItemD) (w : World) (h : ItemsAt w v its) :
    Calls Tryz.prog 30 #[v] w fun e w' => ∃ v', e = .returned (.tuple #[v', .bool (itemsB its)]) ∧ OwnI w' w.heap.size v' (cmV its) ∧ Kept w w' := by
  have HI := Lib.hid h
  obtain ⟨A, c, cs, rfl, hnc, hcm, hA⟩ := h.out
  unfold maxLen at hcm
  have HA := Lib.hid hA
  clear hA h
  obtain ⟨i0, hi, hz0, hz1, hz2⟩ := info_parts info_int
  by_cases hb : itemsB its = true
  · go_enter Tryz.func30, Tryz.ntmps30
    go_wp2_with fail
    refine (areItems_any _ its _ HI.out).mono ?_
    rintro e w1 ⟨rfl, k1⟩
    have HB := Lib.hid hb
    rw [hb]
    clear hb
    have hs1 := k1.size
    go_wp2_with (at_make; refine wpList_make_full _ rfl _ _ 24 rfl w.heap.size 3 i0 _ 1 Tryz.underlying24 hi hz0 hz1 _ _ _ _ 4 rfl rfl rfl rfl (by rw [hz2]; omega) (by decide) hs1 ?_; intro w2 hown hgrow)
    have k2 : Kept w1 w2 := (Below.refl _ _).grown hgrow (Nat.le_refl _) (by intro k hk; cases hk)
    have K2 := k1.trans k2
    have hown0 : w2.ownsRow w.heap.size 3 1 (.slice (some ⟨w1.heap.size, 0, none⟩) 4 4) 4 ((cm []).map (Value.int .i64)) := by
      rw [show (cm []).map (Value.int .i64) = (madeCells (Value.int .i64 0).cells (4 * 1)).toList from by kernel_rfl]
      exact hown
    clear hgrow hi hz0 hz1 hz2 hown
    have HW := Lib.hid hown0
    clear hown0
    go_loopw [15] (fun i wr => ∃ k : Nat, k ≤ its.length ∧ i = .int .i64 k ∧ wr.ownsRow w.heap.size 3 1 (.slice (some ⟨w1.heap.size, 0, none⟩) 4 4) 4 ((cm (allMarks (its.take k))).map (Value.int .i64)) ∧ Kept w1 wr) (fun i _ => its.length - (intOf i).toNat)
    case atStart => exact ⟨0, Nat.zero_le _, rfl, by simpa [allMarks] using HW.out, k2⟩
    case round =>
      obtain ⟨wo, rfl⟩ : ∃ wo : World, wo = wr := ⟨_, rfl⟩
      obtain ⟨k, hk, rfl, ho, hkept⟩ := hrel
      by_cases hlt : k < its.length
      · obtain ⟨b, o, A1, c1, A2, c2, it, rfl, hbb, h2, h3, hit, q0, q1, q2⟩ := items_at (HA.out.kept k1) hlt
        replace q0 := (hkept.cell (p := ⟨b, o + k * 3, none⟩) hbb).trans q0
        replace q1 := (hkept.cell (p := ⟨b, o + k * 3 + 1, none⟩) hbb).trans q1
        replace q2 := (hkept.cell (p := ⟨b, o + k * 3 + 2, none⟩) hbb).trans q2
        have hib := (itemsB_true HB.out).2 it (List.mem_of_getElem? h2)
        have HIB := Lib.hid hib
        have hbd := allMarks_bd HB.out k
        have hbd2 := allMarks_bd HB.out (k + 1)
        have HS := Lib.hid (allMarks_snoc h2)
        rw [HS.out, List.length_append] at hbd2
        obtain ⟨nv, mv, ee, r1, r2⟩ := hit
        simp only [Value.agg.injEq] at ee
        simp at ee
        obtain ⟨rfl, rfl⟩ := ee
        have HM := Lib.hid r2
        have HO := Lib.hid ho
        clear h2 h3 r1 r2 hib ho
        generalize allMarks (its.take k) = am at *
        go_wp2_with fail
        go_loopw [22] (fun i wi => ∃ j : Nat, j ≤ it.marks.length ∧ i = .int .i64 j ∧ wi.ownsRow w.heap.size 3 1 (.slice (some ⟨w1.heap.size, 0, none⟩) 4 4) 4 ((cm (am ++ it.marks.take j)).map (Value.int .i64)) ∧ Kept w1 wi) (fun i _ => it.marks.length - (intOf i).toNat)
        case atStart => exact ⟨0, Nat.zero_le _, rfl, by simpa using HO.out.alloc _, hkept.alloc _⟩
        case round =>
          obtain ⟨j, hj, rfl, ho, hki⟩ := hrel
          by_cases hltj : j < it.marks.length
          · obtain ⟨b1, o1, z, rfl, hb1, hz, hc⟩ := ints_at (HM.out.addr.kept hki) hltj
            have hzb := (itemB_true HIB.out).2.2.2.2 z (List.mem_of_getElem? hz)
            obtain ⟨hz0', hz3⟩ := hzb
            have HZ : Hid (am ++ it.marks.take (j + 1) = am ++ it.marks.take j ++ [z]) := Lib.hid (by rw [take_snoc hz, List.append_assoc])
            have HCS := Lib.hid (cm_snoc (am ++ it.marks.take j) z hz0' hz3)
            have hcg := cm_get (am ++ it.marks.take j) z hz0' hz3
            have hbd3 := cmD_bd (am ++ it.marks.take j) z
            have hl3 : (am ++ it.marks.take j).length ≤ 42 := by rw [List.length_append, List.length_take]; omega
            obtain ⟨cb1, cb2⟩ := hbd3
            have hcell : wr.cell? ⟨w1.heap.size, z.toNat, none⟩ = some (.int .i64 (cmD (am ++ it.marks.take j) z)) := by
              rw [ho.cellAt z.toNat (by omega), List.getElem?_map, hcg]
              rfl
            have hfr := ho.frozenAt z.toNat
            have HST := Lib.hid (ho.stored z.toNat (.int .i64 (cmD (am ++ it.marks.take j) z + 1))).1
            have hzi : z < 4 := by omega
            clear hz hcg ho
            generalize hcd : cmD (am ++ it.marks.take j) z = cd at *
            clear hcd
            go_wp2_with fail
            go_roundw
            case rel =>
              refine ⟨j + 1, by omega, by go_num, ?_, Kept.setCell hki (Nat.le_refl _) _⟩
              have := HST.out
              rw [HZ.out, HCS.out, List.map_set]
              exact this
            case measure => simp [intOf]; omega
          · obtain rfl : j = it.marks.length := by omega
            have HO2 := Lib.hid ho
            clear ho
            go_wp2_with fail
            go_roundw
            case rel =>
              refine ⟨k + 1, by omega, by go_num, ?_, hki⟩
              have := HO2.out
              rw [List.take_length] at this
              rw [HS.out]
              exact this
            case measure => simp [intOf]; omega
      · obtain rfl : k = its.length := by omega
        have HO := Lib.hid ho
        clear ho
        go_wp2_with fail
        go_ret2
        refine ⟨_, by rw [HB.out]; rfl, ?_, k1.trans hkept⟩
        have := HO.out
        rw [List.take_length] at this
        unfold cmV OwnI
        rw [HB.out, if_pos rfl]
        exact this
  · simp only [Bool.not_eq_true] at hb
    go_enter Tryz.func30, Tryz.ntmps30
    go_wp2_with fail
    refine (areItems_any _ its _ HI.out).mono ?_
    rintro e w1 ⟨rfl, k1⟩
    have HB := Lib.hid hb
    rw [hb]
    clear hb
    go_wp2_with fail
    go_ret2
    refine ⟨_, by rw [HB.out]; rfl, ?_, k1⟩
    unfold cmV
    rw [HB.out]
    exact World.ownsRow_nil _ _ _ _
set_option maxHeartbeats 2000000 in
theorem specCountMarks_any (v : Value) (its : List ItemD) (w : World) (h : ItemsAt w v its) :
    Calls Tryz.prog 31 #[v] w fun e w' => ∃ v', e = .returned (.tuple #[v', .bool (itemsB its)]) ∧ OwnI w' w.heap.size v' (cmV its) ∧ Kept w w' := by
  have HI := Lib.hid h
  obtain ⟨A, c, cs, rfl, hnc, hcm, hA⟩ := h.out
  unfold maxLen at hcm
  have HA := Lib.hid hA
  clear hA h
  obtain ⟨i0, hi, hz0, hz1, hz2⟩ := info_parts info_int
  by_cases hb : itemsB its = true
  · go_enter Tryz.func31, Tryz.ntmps31
    go_wp2_with fail
    refine (itList_any _ its _ HI.out).mono ?_
    rintro e w1 ⟨rfl, k1⟩
    have HB := Lib.hid hb
    rw [hb]
    clear hb
    have hs1 := k1.size
    go_wp2_with (at_make; refine wpList_make_full _ rfl _ _ 24 rfl w.heap.size 3 i0 _ 1 Tryz.underlying24 hi hz0 hz1 _ _ _ _ 4 rfl rfl rfl rfl (by rw [hz2]; omega) (by decide) hs1 ?_; intro w2 hown hgrow)
    have k2 : Kept w1 w2 := (Below.refl _ _).grown hgrow (Nat.le_refl _) (by intro k hk; cases hk)
    have K2 := k1.trans k2
    have hown0 : w2.ownsRow w.heap.size 3 1 (.slice (some ⟨w1.heap.size, 0, none⟩) 4 4) 4 ((cm []).map (Value.int .i64)) := by
      rw [show (cm []).map (Value.int .i64) = (madeCells (Value.int .i64 0).cells (4 * 1)).toList from by kernel_rfl]
      exact hown
    clear hgrow hi hz0 hz1 hz2 hown
    have HW := Lib.hid hown0
    clear hown0
    go_loopw [15] (fun i wr => ∃ k : Nat, k ≤ its.length ∧ i = .int .i64 k ∧ wr.ownsRow w.heap.size 3 1 (.slice (some ⟨w1.heap.size, 0, none⟩) 4 4) 4 ((cm (allMarks (its.take k))).map (Value.int .i64)) ∧ Kept w1 wr) (fun i _ => its.length - (intOf i).toNat)
    case atStart => exact ⟨0, Nat.zero_le _, rfl, by simpa [allMarks] using HW.out, k2⟩
    case round =>
      obtain ⟨wo, rfl⟩ : ∃ wo : World, wo = wr := ⟨_, rfl⟩
      obtain ⟨k, hk, rfl, ho, hkept⟩ := hrel
      by_cases hlt : k < its.length
      · obtain ⟨b, o, A1, c1, A2, c2, it, rfl, hbb, h2, h3, hit, q0, q1, q2⟩ := items_at (HA.out.kept k1) hlt
        replace q0 := (hkept.cell (p := ⟨b, o + k * 3, none⟩) hbb).trans q0
        replace q1 := (hkept.cell (p := ⟨b, o + k * 3 + 1, none⟩) hbb).trans q1
        replace q2 := (hkept.cell (p := ⟨b, o + k * 3 + 2, none⟩) hbb).trans q2
        have hib := (itemsB_true HB.out).2 it (List.mem_of_getElem? h2)
        have HIB := Lib.hid hib
        have hbd := allMarks_bd HB.out k
        have hbd2 := allMarks_bd HB.out (k + 1)
        have HS := Lib.hid (allMarks_snoc h2)
        rw [HS.out, List.length_append] at hbd2
        obtain ⟨nv, mv, ee, r1, r2⟩ := hit
        simp only [Value.agg.injEq] at ee
        simp at ee
        obtain ⟨rfl, rfl⟩ := ee
        have HM := Lib.hid r2
        have HO := Lib.hid ho
        clear h2 h3 r1 r2 hib ho
        generalize allMarks (its.take k) = am at *
        go_wp2_with fail
        go_loopw [22] (fun i wi => ∃ j : Nat, j ≤ it.marks.length ∧ i = .int .i64 j ∧ wi.ownsRow w.heap.size 3 1 (.slice (some ⟨w1.heap.size, 0, none⟩) 4 4) 4 ((cm (am ++ it.marks.take j)).map (Value.int .i64)) ∧ Kept w1 wi) (fun i _ => it.marks.length - (intOf i).toNat)
        case atStart => exact ⟨0, Nat.zero_le _, rfl, by simpa using HO.out.alloc _, hkept.alloc _⟩
        case round =>
          obtain ⟨j, hj, rfl, ho, hki⟩ := hrel
          by_cases hltj : j < it.marks.length
          · obtain ⟨b1, o1, z, rfl, hb1, hz, hc⟩ := ints_at (HM.out.addr.kept hki) hltj
            have hzb := (itemB_true HIB.out).2.2.2.2 z (List.mem_of_getElem? hz)
            obtain ⟨hz0', hz3⟩ := hzb
            have HZ : Hid (am ++ it.marks.take (j + 1) = am ++ it.marks.take j ++ [z]) := Lib.hid (by rw [take_snoc hz, List.append_assoc])
            have HCS := Lib.hid (cm_snoc (am ++ it.marks.take j) z hz0' hz3)
            have hcg := cm_get (am ++ it.marks.take j) z hz0' hz3
            have hbd3 := cmD_bd (am ++ it.marks.take j) z
            have hl3 : (am ++ it.marks.take j).length ≤ 42 := by rw [List.length_append, List.length_take]; omega
            obtain ⟨cb1, cb2⟩ := hbd3
            have hcell : wr.cell? ⟨w1.heap.size, z.toNat, none⟩ = some (.int .i64 (cmD (am ++ it.marks.take j) z)) := by
              rw [ho.cellAt z.toNat (by omega), List.getElem?_map, hcg]
              rfl
            have hfr := ho.frozenAt z.toNat
            have HST := Lib.hid (ho.stored z.toNat (.int .i64 (cmD (am ++ it.marks.take j) z + 1))).1
            have hzi : z < 4 := by omega
            clear hz hcg ho
            generalize hcd : cmD (am ++ it.marks.take j) z = cd at *
            clear hcd
            go_wp2_with fail
            go_roundw
            case rel =>
              refine ⟨j + 1, by omega, by go_num, ?_, Kept.setCell hki (Nat.le_refl _) _⟩
              have := HST.out
              rw [HZ.out, HCS.out, List.map_set]
              exact this
            case measure => simp [intOf]; omega
          · obtain rfl : j = it.marks.length := by omega
            have HO2 := Lib.hid ho
            clear ho
            go_wp2_with fail
            go_roundw
            case rel =>
              refine ⟨k + 1, by omega, by go_num, ?_, hki⟩
              have := HO2.out
              rw [List.take_length] at this
              rw [HS.out]
              exact this
            case measure => simp [intOf]; omega
      · obtain rfl : k = its.length := by omega
        have HO := Lib.hid ho
        clear ho
        go_wp2_with fail
        go_ret2
        refine ⟨_, by rw [HB.out]; rfl, ?_, k1.trans hkept⟩
        have := HO.out
        rw [List.take_length] at this
        unfold cmV OwnI
        rw [HB.out, if_pos rfl]
        exact this
  · simp only [Bool.not_eq_true] at hb
    go_enter Tryz.func31, Tryz.ntmps31
    go_wp2_with fail
    refine (itList_any _ its _ HI.out).mono ?_
    rintro e w1 ⟨rfl, k1⟩
    have HB := Lib.hid hb
    rw [hb]
    clear hb
    go_wp2_with fail
    go_ret2
    refine ⟨_, by rw [HB.out]; rfl, ?_, k1⟩
    unfold cmV
    rw [HB.out]
    exact World.ownsRow_nil _ _ _ _
end Go.Proofs.YtkekpolfdmmgeaaGreatDoor
