/- Contracts of functions that the proof leans on. No condition. -/
import Derived.Test.YtfemfkmjfplcmaaM615d4bc056
import Derived.ProofKit
import Derived.OpenShut
import Derived.ChangeOld
/- FnParts: the law. -/
namespace Go.Proofs.Ytfemfkmjfplcmaa
set_option linter.unusedVariables false
set_option linter.unusedSimpArgs false
open Go.RowKit

def BoolPost (e : Ending) : Prop := ∃ b : Bool, e = .returned (.bool b)
theorem big_any (v0 v1 : Value) (w : World) (h0 : Byts w v0) (h1 : Byts w v1) :
    Calls Try.prog 6 #[v0, v1] w fun e w' => BoolPost e ∧ Kept w w' := by
  obtain ⟨A, n, c, rfl, hnc, hcm, _⟩ := h0
  obtain ⟨A1, n1, c1, rfl, hnc1, hcm1, _⟩ := h1
  unfold maxLen at hcm hcm1
  go_enter Try.func6, Try.ntmps6
  go_wp2_with fail
  all_goals
    go_ret
    exact ⟨⟨_, rfl⟩, Kept.refl _⟩
theorem pSum_any (v : Value) (zs : List Int) (w : World) (h : Ints w v zs) (hp : ptsB zs = true) :
    Calls Try.prog 21 #[v] w fun e w' => e = .returned (.int .i64 zs.sum) ∧ w = w' := by
  obtain ⟨A, c, rfl, hnc, hcm, hl⟩ := h.out
  unfold maxLen at hcm
  have HL := Lib.hid hl
  obtain ⟨h60, hb⟩ := pts_bd hp
  have HB := Lib.hid (fun k hk => low_sum (zs := zs) k hk)
  have HD := Lib.hid (fun k hk => low_bd hb k hk)
  clear hl h hp hb
  go_enter Try.func21, Try.ntmps21
  go_wp2_with fail
  go_loop [3, 8] (fun s3 s8 => ∃ k : Nat, k ≤ zs.length ∧ s8 = .int .i64 k ∧ s3 = .int .i64 ((zs.take k).sum)) (fun _ i => zs.length - (RowKit.intOf i).toNat)
  case atStart => exact ⟨0, Nat.zero_le _, rfl, rfl⟩
  case round =>
    obtain ⟨k, hk, rfl, rfl⟩ := hrel
    have hs : -60000000 ≤ (zs.take k).sum ∧ (zs.take k).sum ≤ 60000000 := by
      obtain ⟨a1, a2⟩ := HB.out k hk
      obtain ⟨⟨b1, _⟩, _, b2⟩ := HD.out k hk
      have h1 := Int.mul_le_mul_of_nonneg_right b1 (show (0 : Int) ≤ (k : Int) by omega)
      have h2 := Int.mul_le_mul_of_nonneg_right b2 (show (0 : Int) ≤ (k : Int) by omega)
      omega
    by_cases hlt : k < zs.length
    · obtain ⟨b, o, z, rfl, hbl, hz, hc⟩ := ints_at HL.out hlt
      have HZ := Lib.hid hz
      have HS := Lib.hid (take_snoc hz)
      have hz2 : (zs.take (k + 1)).sum = (zs.take k).sum + z := by rw [HS.out, List.sum_append]; simp
      have hs2 : -60000000 ≤ (zs.take (k + 1)).sum ∧ (zs.take (k + 1)).sum ≤ 60000000 := by
        obtain ⟨a1, a2⟩ := HB.out (k + 1) hlt
        obtain ⟨⟨b1, _⟩, _, b2⟩ := HD.out (k + 1) hlt
        have h1 := Int.mul_le_mul_of_nonneg_right b1 (show (0 : Int) ≤ ((k + 1 : Nat) : Int) by omega)
        have h2 := Int.mul_le_mul_of_nonneg_right b2 (show (0 : Int) ≤ ((k + 1 : Nat) : Int) by omega)
        omega
      have HZ2 := Lib.hid hz2
      rw [hz2] at hs2
      clear hz hz2
      go_wp2_with fail
      go_round
      case rel => exact ⟨k + 1, by omega, by go_num, by rw [HZ2.out]⟩
      case measure => simp [RowKit.intOf]; omega
    · obtain rfl : k = zs.length := by omega
      rw [List.take_length]
      go_wp2_with fail
      go_ret
      exact ⟨rfl, rfl⟩
set_option maxRecDepth 100000 in
set_option maxHeartbeats 40000000 in
theorem lawFnParts_any (v0 v1 : Value) (w : World) (h0 : Byts w v0) (h1 : Byts w v1) :
    Calls Try.prog 3 #[v0, v1] w fun e w' => e = .returned (.bool true) ∧ Kept w w' := by
  have H0 := Lib.hid h0
  have H1 := Lib.hid h1
  obtain ⟨A0, n0, c0, rfl, _, _, _⟩ := h0
  obtain ⟨A1, n1, c1, rfl, _, _, _⟩ := h1
  go_enter Try.func3, Try.ntmps3
  have K0 := Kept.refl w
  go_wp2_with fail
  with_reducible refine (big_any _ _ w H0.out H1.out).mono ?_
  rintro e w1 ⟨⟨b1, rfl⟩, k1⟩
  have K1 := K0.trans k1
  have sz1 := k1.size
  clear k1
  cases b1 with
  | true =>
    go_wp2_with fail
    go_ret
    exact ⟨rfl, K1⟩
  | false =>
    go_wp2_with fail
    with_reducible refine (drawRound_any _ _ (H0.out.kept K1)).mono ?_
    rintro e w2 ⟨⟨a, b, c, rfl⟩, k2⟩
    have K2 := K1.trans k2
    have sz2 := k2.size
    clear k2
    go_wp2_with fail
    with_reducible refine (implRound_any a b c _).mono ?_
    rintro e w3 ⟨rfl, k3⟩
    have K3 := K2.trans k3
    have sz3 := k3.size
    clear k3
    go_wp2_with fail
    with_reducible refine (specRound_any a b c _).mono ?_
    rintro e w4 ⟨rfl, k4⟩
    have K4 := K3.trans k4
    have sz4 := k4.size
    clear k4
    cases hok : rndOk a b c with
    | false =>
      clear hok
      go_wp2_with fail
      with_reducible refine (drawLowest_any _ _ (H1.out.kept K4)).mono ?_
      rintro e w5 ⟨⟨c, d, rfl⟩, k5⟩
      have K5 := K4.trans k5
      have sz5 := k5.size
      clear k5
      go_wp2_with fail
      with_reducible refine (implLowest_any c d _).mono ?_
      rintro e w6 ⟨rfl, k6⟩
      have K6 := K5.trans k6
      have sz6 := k6.size
      clear k6
      go_wp2_with fail
      with_reducible refine (specLowest_any c d _).mono ?_
      rintro e w7 ⟨rfl, k7⟩
      have K7 := K6.trans k7
      have sz7 := k7.size
      clear k7
      cases hok2 : partB c d with
      | false =>
        clear hok2
        go_wp2_with fail
        with_reducible refine (drawCompare_any _ _ (H1.out.kept K7)).mono ?_
        rintro e w8 ⟨⟨p, q, r, s, rfl⟩, k8⟩
        have K8 := K7.trans k8
        have sz8 := k8.size
        clear k8
        obtain ⟨cb1, cb2⟩ := cmp_back p q r s
        have cbd := cmp_bd p q r s
        go_wp2_with fail
        with_reducible refine (implCompare_any p q r s _).mono ?_
        rintro e w9 ⟨rfl, rfl⟩
        go_wp2_with fail
        with_reducible refine (specCompare_any p q r s _).mono ?_
        rintro e w10 ⟨rfl, rfl⟩
        go_wp2_with fail
        with_reducible refine (implCompare_any r s p q _).mono ?_
        rintro e w11 ⟨rfl, rfl⟩
        rw [cb1, cb2]
        clear cb1 cb2
        go_wp2_with fail
        with_reducible refine (implAdd_any p q r s _).mono ?_
        rintro e w12 ⟨rfl, k12⟩
        have K12 := K8.trans k12
        have sz12 := k12.size
        clear k12
        go_wp2_with fail
        with_reducible refine (specAdd_any p q r s _).mono ?_
        rintro e w13 ⟨rfl, k13⟩
        have K13 := K12.trans k13
        have sz13 := k13.size
        clear k13
        generalize cmpV p q r s = cv at *
        generalize (partB p q && partB r s) = cb
        generalize addT p q r s = at_
        generalize addB p q r s = ab
        generalize addOk p q r s = ao
        go_wp2_with fail
        with_reducible refine (drawMean_any _ _ (H1.out.kept K13)).mono ?_
        rintro e w14 ⟨⟨v2, zs, rfl, o14, hz14⟩, k14⟩
        have K14 := K13.trans k14
        have sz14 := k14.size
        clear k14
        have HI := Lib.hid o14.ints
        obtain ⟨A2, c2, rfl, hn2, hm2, _⟩ := own_form o14
        unfold maxLen at hm2
        clear o14
        go_wp2_with fail
        with_reducible refine (implMean_any _ zs _ HI.out).mono ?_
        rintro e w15 ⟨rfl, k15⟩
        have K15 := K14.trans k15
        have sz15 := k15.size
        replace HI := Lib.hid (HI.out.kept k15)
        clear k15
        go_wp2_with fail
        with_reducible refine (specMean_any _ zs _ HI.out).mono ?_
        rintro e w16 ⟨rfl, k16⟩
        have K16 := K15.trans k16
        have sz16 := k16.size
        replace HI := Lib.hid (HI.out.kept k16)
        clear k16
        cases hok3 : meanOk zs with
        | false =>
          go_wp2_with fail
          go_ret
          exact ⟨rfl, K16⟩
        | true =>
          obtain ⟨hp, hn, m1, m2, m3, m4, m5, m6, m7, m8⟩ := mean_facts hok3
          obtain ⟨h60, hbd⟩ := pts_bd hp
          have HP := Lib.hid hp
          have HLB := Lib.hid (fun k hk => low_bd hbd k hk)
          clear hok3 hp hbd
          have M1 := Lib.hid m1
          have M2 := Lib.hid m2
          have M3 := Lib.hid m3
          clear m1 m2 m3
          generalize meanT zs = mt at *
          generalize meanB zs = mb at *
          obtain ⟨gb, go, z0, rfl, hgl, hz0, hx0⟩ := ints_at HI.out.addr hn
          have HZ0 : Hid (lowN zs 0 = z0 ∧ highN zs 0 = z0) := Lib.hid (by unfold lowN highN; cases zs with | nil => simp at hn | cons a t => simp at hz0; simp [hz0])
          clear hz0
          rw [Nat.add_zero] at hx0
          have hn' : (0 : Int) < (zs.length : Int) := by omega
          go_wp2_with fail
          go_quiet (fail)
          go_wp2_with fail
          go_loop [49, 50, 301] (fun s49 s50 s301 => ∃ k : Nat, k ≤ zs.length ∧ s301 = .int .i64 k ∧ s49 = .int .i64 (lowN zs k) ∧ s50 = .int .i64 (highN zs k)) (fun _ _ i => zs.length - (RowKit.intOf i).toNat)
          case atStart => exact ⟨0, Nat.zero_le _, rfl, by rw [HZ0.out.1], by rw [HZ0.out.2]⟩
          case round =>
            clear HZ0 hx0
            obtain ⟨k, hk, rfl, rfl, rfl⟩ := hrel
            by_cases hlt : k < zs.length
            · obtain ⟨b', o', z, e0, hb', hz, hc⟩ := ints_at HI.out.addr hlt
              cases e0
              have HL := Lib.hid (lowN_succ hz)
              have HH := Lib.hid (highN_succ hz)
              clear hz
              generalize hl : lowN zs k = l at *
              generalize hu : highN zs k = u at *
              clear hl hu
              by_cases q1 : z < l
              · have Q1 := Lib.hid q1
                by_cases q2 : u < z
                · have Q2 := Lib.hid q2
                  go_wp2_with fail
                  go_round
                  case rel => exact ⟨k + 1, by omega, by go_num, by rw [HL.out, if_pos Q1.out], by rw [HH.out, if_pos Q2.out]⟩
                  case measure => simp [RowKit.intOf]; omega
                · have Q2 := Lib.hid q2
                  go_wp2_with fail
                  go_round
                  case rel => exact ⟨k + 1, by omega, by go_num, by rw [HL.out, if_pos Q1.out], by rw [HH.out, if_neg Q2.out]⟩
                  case measure => simp [RowKit.intOf]; omega
              · have Q1 := Lib.hid q1
                by_cases q2 : u < z
                · have Q2 := Lib.hid q2
                  go_wp2_with fail
                  go_round
                  case rel => exact ⟨k + 1, by omega, by go_num, by rw [HL.out, if_neg Q1.out], by rw [HH.out, if_pos Q2.out]⟩
                  case measure => simp [RowKit.intOf]; omega
                · have Q2 := Lib.hid q2
                  go_wp2_with fail
                  go_round
                  case rel => exact ⟨k + 1, by omega, by go_num, by rw [HL.out, if_neg Q1.out], by rw [HH.out, if_neg Q2.out]⟩
                  case measure => simp [RowKit.intOf]; omega
            · obtain ⟨kl, hkl⟩ : ∃ j : Nat, j = zs.length := ⟨_, rfl⟩
              obtain rfl : k = kl := by omega
              obtain ⟨⟨lb1, lb2⟩, lb3, lb4⟩ := HLB.out k (by omega)
              have CP := Lib.hid (fun w0 h => pSum_any (.slice (some ⟨gb, go, none⟩) zs.length c2) zs w0 h HP.out)
              have m1 := M1.out
              have m2 := M2.out
              have m3 := M3.out
              rw [← hkl] at m1 m2 m3 CP h60
              have HI2 : Hid (Ints w16 (.slice (some ⟨gb, go, none⟩) k c2) zs) := by rw [hkl]; exact HI
              rw [← hkl]
              clear hkl hlt hk M1 M2 M3 HLB HI
              generalize lowN zs k = l at *
              generalize highN zs k = u at *
              have hkb : (0 : Int) ≤ (k : Int) := by omega
              have hkb2 : (k : Int) ≤ 60 := by omega
              have p1 := mul_bd (a := mt) (d := (k : Int)) (A := 60000000) (D := 60) m4.1 m4.2 hkb hkb2
              have p2 := mul_bd (a := zs.sum) (d := mb) (A := 60000000) (D := 60) m7 m8 (by omega) m6
              have p3 := mul_bd (a := l) (d := mb) (A := 1000000) (D := 60) lb1 lb2 (by omega) m6
              have p4 := mul_bd (a := u) (d := mb) (A := 1000000) (D := 60) lb3 lb4 (by omega) m6
              have tt : (mt * (k : Int) == zs.sum * mb) = true := by rw [m1]; simp
              clear m1
              go_wp2_with fail
              refine (CP.out _ (HI2.out.kept ((Kept.refl _).drewN _))).mono ?_
              rintro e w' ⟨rfl, rfl⟩
              go_wp2_with fail
              go_ret
              exact ⟨rfl, K16.drewN _⟩
      | true =>
        obtain ⟨l1, l2⟩ := low_facts hok2
        have hok3 : (partB c d && partB (lowT c d) (lowB c d)) = true := by rw [hok2, l1]; rfl
        have C := Lib.hid (fun w0 => implCompare_any c d (lowT c d) (lowB c d) w0)
        rw [l2, hok3] at C
        clear hok2 l1 l2 hok3
        generalize lowT c d = lt at *
        generalize lowB c d = lb at *
        go_wp2_with fail
        with_reducible refine (C.out _).mono ?_
        rintro e w8 ⟨rfl, rfl⟩
        go_wp2_with fail
        with_reducible refine (drawCompare_any _ _ (H1.out.kept K7)).mono ?_
        rintro e w9 ⟨⟨p, q, r, s, rfl⟩, k9⟩
        have K9 := K7.trans k9
        have sz9 := k9.size
        clear k9
        obtain ⟨cb1, cb2⟩ := cmp_back p q r s
        have cbd := cmp_bd p q r s
        go_wp2_with fail
        with_reducible refine (implCompare_any p q r s _).mono ?_
        rintro e w10 ⟨rfl, rfl⟩
        go_wp2_with fail
        with_reducible refine (specCompare_any p q r s _).mono ?_
        rintro e w11 ⟨rfl, rfl⟩
        go_wp2_with fail
        with_reducible refine (implCompare_any r s p q _).mono ?_
        rintro e w12 ⟨rfl, rfl⟩
        rw [cb1, cb2]
        clear cb1 cb2
        go_wp2_with fail
        with_reducible refine (implAdd_any p q r s _).mono ?_
        rintro e w13 ⟨rfl, k13⟩
        have K13 := K9.trans k13
        have sz13 := k13.size
        clear k13
        go_wp2_with fail
        with_reducible refine (specAdd_any p q r s _).mono ?_
        rintro e w14 ⟨rfl, k14⟩
        have K14 := K13.trans k14
        have sz14 := k14.size
        clear k14
        generalize cmpV p q r s = cv at *
        generalize (partB p q && partB r s) = cb
        generalize addT p q r s = at_
        generalize addB p q r s = ab
        generalize addOk p q r s = ao
        go_wp2_with fail
        with_reducible refine (drawMean_any _ _ (H1.out.kept K14)).mono ?_
        rintro e w15 ⟨⟨v2, zs, rfl, o15, hz15⟩, k15⟩
        have K15 := K14.trans k15
        have sz15 := k15.size
        clear k15
        have HI := Lib.hid o15.ints
        obtain ⟨A2, c2, rfl, hn2, hm2, _⟩ := own_form o15
        unfold maxLen at hm2
        clear o15
        go_wp2_with fail
        with_reducible refine (implMean_any _ zs _ HI.out).mono ?_
        rintro e w16 ⟨rfl, k16⟩
        have K16 := K15.trans k16
        have sz16 := k16.size
        replace HI := Lib.hid (HI.out.kept k16)
        clear k16
        go_wp2_with fail
        with_reducible refine (specMean_any _ zs _ HI.out).mono ?_
        rintro e w17 ⟨rfl, k17⟩
        have K17 := K16.trans k17
        have sz17 := k17.size
        replace HI := Lib.hid (HI.out.kept k17)
        clear k17
        cases hok3 : meanOk zs with
        | false =>
          go_wp2_with fail
          go_ret
          exact ⟨rfl, K17⟩
        | true =>
          obtain ⟨hp, hn, m1, m2, m3, m4, m5, m6, m7, m8⟩ := mean_facts hok3
          obtain ⟨h60, hbd⟩ := pts_bd hp
          have HP := Lib.hid hp
          have HLB := Lib.hid (fun k hk => low_bd hbd k hk)
          clear hok3 hp hbd
          have M1 := Lib.hid m1
          have M2 := Lib.hid m2
          have M3 := Lib.hid m3
          clear m1 m2 m3
          generalize meanT zs = mt at *
          generalize meanB zs = mb at *
          obtain ⟨gb, go, z0, rfl, hgl, hz0, hx0⟩ := ints_at HI.out.addr hn
          have HZ0 : Hid (lowN zs 0 = z0 ∧ highN zs 0 = z0) := Lib.hid (by unfold lowN highN; cases zs with | nil => simp at hn | cons a t => simp at hz0; simp [hz0])
          clear hz0
          rw [Nat.add_zero] at hx0
          have hn' : (0 : Int) < (zs.length : Int) := by omega
          go_wp2_with fail
          go_quiet (fail)
          go_wp2_with fail
          go_loop [49, 50, 301] (fun s49 s50 s301 => ∃ k : Nat, k ≤ zs.length ∧ s301 = .int .i64 k ∧ s49 = .int .i64 (lowN zs k) ∧ s50 = .int .i64 (highN zs k)) (fun _ _ i => zs.length - (RowKit.intOf i).toNat)
          case atStart => exact ⟨0, Nat.zero_le _, rfl, by rw [HZ0.out.1], by rw [HZ0.out.2]⟩
          case round =>
            clear HZ0 hx0
            obtain ⟨k, hk, rfl, rfl, rfl⟩ := hrel
            by_cases hlt : k < zs.length
            · obtain ⟨b', o', z, e0, hb', hz, hc⟩ := ints_at HI.out.addr hlt
              cases e0
              have HL := Lib.hid (lowN_succ hz)
              have HH := Lib.hid (highN_succ hz)
              clear hz
              generalize hl : lowN zs k = l at *
              generalize hu : highN zs k = u at *
              clear hl hu
              by_cases q1 : z < l
              · have Q1 := Lib.hid q1
                by_cases q2 : u < z
                · have Q2 := Lib.hid q2
                  go_wp2_with fail
                  go_round
                  case rel => exact ⟨k + 1, by omega, by go_num, by rw [HL.out, if_pos Q1.out], by rw [HH.out, if_pos Q2.out]⟩
                  case measure => simp [RowKit.intOf]; omega
                · have Q2 := Lib.hid q2
                  go_wp2_with fail
                  go_round
                  case rel => exact ⟨k + 1, by omega, by go_num, by rw [HL.out, if_pos Q1.out], by rw [HH.out, if_neg Q2.out]⟩
                  case measure => simp [RowKit.intOf]; omega
              · have Q1 := Lib.hid q1
                by_cases q2 : u < z
                · have Q2 := Lib.hid q2
                  go_wp2_with fail
                  go_round
                  case rel => exact ⟨k + 1, by omega, by go_num, by rw [HL.out, if_neg Q1.out], by rw [HH.out, if_pos Q2.out]⟩
                  case measure => simp [RowKit.intOf]; omega
                · have Q2 := Lib.hid q2
                  go_wp2_with fail
                  go_round
                  case rel => exact ⟨k + 1, by omega, by go_num, by rw [HL.out, if_neg Q1.out], by rw [HH.out, if_neg Q2.out]⟩
                  case measure => simp [RowKit.intOf]; omega
            · obtain ⟨kl, hkl⟩ : ∃ j : Nat, j = zs.length := ⟨_, rfl⟩
              obtain rfl : k = kl := by omega
              obtain ⟨⟨lb1, lb2⟩, lb3, lb4⟩ := HLB.out k (by omega)
              have CP := Lib.hid (fun w0 h => pSum_any (.slice (some ⟨gb, go, none⟩) zs.length c2) zs w0 h HP.out)
              have m1 := M1.out
              have m2 := M2.out
              have m3 := M3.out
              rw [← hkl] at m1 m2 m3 CP h60
              have HI2 : Hid (Ints w17 (.slice (some ⟨gb, go, none⟩) k c2) zs) := by rw [hkl]; exact HI
              rw [← hkl]
              clear hkl hlt hk M1 M2 M3 HLB HI
              generalize lowN zs k = l at *
              generalize highN zs k = u at *
              have hkb : (0 : Int) ≤ (k : Int) := by omega
              have hkb2 : (k : Int) ≤ 60 := by omega
              have p1 := mul_bd (a := mt) (d := (k : Int)) (A := 60000000) (D := 60) m4.1 m4.2 hkb hkb2
              have p2 := mul_bd (a := zs.sum) (d := mb) (A := 60000000) (D := 60) m7 m8 (by omega) m6
              have p3 := mul_bd (a := l) (d := mb) (A := 1000000) (D := 60) lb1 lb2 (by omega) m6
              have p4 := mul_bd (a := u) (d := mb) (A := 1000000) (D := 60) lb3 lb4 (by omega) m6
              have tt : (mt * (k : Int) == zs.sum * mb) = true := by rw [m1]; simp
              clear m1
              go_wp2_with fail
              refine (CP.out _ (HI2.out.kept ((Kept.refl _).drewN _))).mono ?_
              rintro e w' ⟨rfl, rfl⟩
              go_wp2_with fail
              go_ret
              exact ⟨rfl, K17.drewN _⟩
    | true =>
      obtain ⟨r1, r2, r3⟩ := rnd_modes hok
      obtain ⟨f1, f2, f3, f4, f5⟩ := rnd_facts hok
      obtain ⟨q1, q2, q3, q4⟩ := partB_true r3
      have b1 := rnd_bd r1
      have b2 := rnd_bd r2
      have b3 := rnd_bd hok
      have g1 := mul_bd (a := rndV a b (-1)) (d := b) (A := 1000000000001) (D := 1000000) b1.1 b1.2 (by omega) q4
      have g2 := mul_bd (a := rndV a b 1) (d := b) (A := 1000000000001) (D := 1000000) b2.1 b2.2 (by omega) q4
      have CL := Lib.hid (fun w0 => implRound_any a b (-1) w0)
      have CH := Lib.hid (fun w0 => implRound_any a b 1 w0)
      rw [r1] at CL
      rw [r2] at CH
      clear r1 r2 r3 hok
      generalize rndV a b (-1) = lo at *
      generalize rndV a b 1 = hi at *
      generalize rndV a b c = wa at *
      have t1 : ¬ a < lo * b := by omega
      have t2 : ¬ hi * b < a := by omega
      have t3 : ¬ 1 < hi - lo := by omega
      have t4 : ¬ wa < lo := by omega
      have t5 : ¬ hi < wa := by omega
      clear f1 f2 f3 f4 f5
      go_wp2_with fail
      with_reducible refine (CL.out _).mono ?_
      rintro e w5 ⟨rfl, k5⟩
      have K5 := K4.trans k5
      have sz5 := k5.size
      clear k5
      go_wp2_with fail
      with_reducible refine (CH.out _).mono ?_
      rintro e w6 ⟨rfl, k6⟩
      have K6 := K5.trans k6
      have sz6 := k6.size
      clear k6
      go_wp2_with fail
      with_reducible refine (drawLowest_any _ _ (H1.out.kept K6)).mono ?_
      rintro e w7 ⟨⟨c, d, rfl⟩, k7⟩
      have K7 := K6.trans k7
      have sz7 := k7.size
      clear k7
      go_wp2_with fail
      with_reducible refine (implLowest_any c d _).mono ?_
      rintro e w8 ⟨rfl, k8⟩
      have K8 := K7.trans k8
      have sz8 := k8.size
      clear k8
      go_wp2_with fail
      with_reducible refine (specLowest_any c d _).mono ?_
      rintro e w9 ⟨rfl, k9⟩
      have K9 := K8.trans k9
      have sz9 := k9.size
      clear k9
      cases hok2 : partB c d with
      | false =>
        clear hok2
        go_wp2_with fail
        with_reducible refine (drawCompare_any _ _ (H1.out.kept K9)).mono ?_
        rintro e w10 ⟨⟨p, q, r, s, rfl⟩, k10⟩
        have K10 := K9.trans k10
        have sz10 := k10.size
        clear k10
        obtain ⟨cb1, cb2⟩ := cmp_back p q r s
        have cbd := cmp_bd p q r s
        go_wp2_with fail
        with_reducible refine (implCompare_any p q r s _).mono ?_
        rintro e w11 ⟨rfl, rfl⟩
        go_wp2_with fail
        with_reducible refine (specCompare_any p q r s _).mono ?_
        rintro e w12 ⟨rfl, rfl⟩
        go_wp2_with fail
        with_reducible refine (implCompare_any r s p q _).mono ?_
        rintro e w13 ⟨rfl, rfl⟩
        rw [cb1, cb2]
        clear cb1 cb2
        go_wp2_with fail
        with_reducible refine (implAdd_any p q r s _).mono ?_
        rintro e w14 ⟨rfl, k14⟩
        have K14 := K10.trans k14
        have sz14 := k14.size
        clear k14
        go_wp2_with fail
        with_reducible refine (specAdd_any p q r s _).mono ?_
        rintro e w15 ⟨rfl, k15⟩
        have K15 := K14.trans k15
        have sz15 := k15.size
        clear k15
        generalize cmpV p q r s = cv at *
        generalize (partB p q && partB r s) = cb
        generalize addT p q r s = at_
        generalize addB p q r s = ab
        generalize addOk p q r s = ao
        go_wp2_with fail
        with_reducible refine (drawMean_any _ _ (H1.out.kept K15)).mono ?_
        rintro e w16 ⟨⟨v2, zs, rfl, o16, hz16⟩, k16⟩
        have K16 := K15.trans k16
        have sz16 := k16.size
        clear k16
        have HI := Lib.hid o16.ints
        obtain ⟨A2, c2, rfl, hn2, hm2, _⟩ := own_form o16
        unfold maxLen at hm2
        clear o16
        go_wp2_with fail
        with_reducible refine (implMean_any _ zs _ HI.out).mono ?_
        rintro e w17 ⟨rfl, k17⟩
        have K17 := K16.trans k17
        have sz17 := k17.size
        replace HI := Lib.hid (HI.out.kept k17)
        clear k17
        go_wp2_with fail
        with_reducible refine (specMean_any _ zs _ HI.out).mono ?_
        rintro e w18 ⟨rfl, k18⟩
        have K18 := K17.trans k18
        have sz18 := k18.size
        replace HI := Lib.hid (HI.out.kept k18)
        clear k18
        cases hok3 : meanOk zs with
        | false =>
          go_wp2_with fail
          go_ret
          exact ⟨rfl, K18⟩
        | true =>
          obtain ⟨hp, hn, m1, m2, m3, m4, m5, m6, m7, m8⟩ := mean_facts hok3
          obtain ⟨h60, hbd⟩ := pts_bd hp
          have HP := Lib.hid hp
          have HLB := Lib.hid (fun k hk => low_bd hbd k hk)
          clear hok3 hp hbd
          have M1 := Lib.hid m1
          have M2 := Lib.hid m2
          have M3 := Lib.hid m3
          clear m1 m2 m3
          generalize meanT zs = mt at *
          generalize meanB zs = mb at *
          obtain ⟨gb, go, z0, rfl, hgl, hz0, hx0⟩ := ints_at HI.out.addr hn
          have HZ0 : Hid (lowN zs 0 = z0 ∧ highN zs 0 = z0) := Lib.hid (by unfold lowN highN; cases zs with | nil => simp at hn | cons a t => simp at hz0; simp [hz0])
          clear hz0
          rw [Nat.add_zero] at hx0
          have hn' : (0 : Int) < (zs.length : Int) := by omega
          go_wp2_with fail
          go_quiet (fail)
          go_wp2_with fail
          go_loop [49, 50, 301] (fun s49 s50 s301 => ∃ k : Nat, k ≤ zs.length ∧ s301 = .int .i64 k ∧ s49 = .int .i64 (lowN zs k) ∧ s50 = .int .i64 (highN zs k)) (fun _ _ i => zs.length - (RowKit.intOf i).toNat)
          case atStart => exact ⟨0, Nat.zero_le _, rfl, by rw [HZ0.out.1], by rw [HZ0.out.2]⟩
          case round =>
            clear HZ0 hx0
            obtain ⟨k, hk, rfl, rfl, rfl⟩ := hrel
            by_cases hlt : k < zs.length
            · obtain ⟨b', o', z, e0, hb', hz, hc⟩ := ints_at HI.out.addr hlt
              cases e0
              have HL := Lib.hid (lowN_succ hz)
              have HH := Lib.hid (highN_succ hz)
              clear hz
              generalize hl : lowN zs k = l at *
              generalize hu : highN zs k = u at *
              clear hl hu
              by_cases q1 : z < l
              · have Q1 := Lib.hid q1
                by_cases q2 : u < z
                · have Q2 := Lib.hid q2
                  go_wp2_with fail
                  go_round
                  case rel => exact ⟨k + 1, by omega, by go_num, by rw [HL.out, if_pos Q1.out], by rw [HH.out, if_pos Q2.out]⟩
                  case measure => simp [RowKit.intOf]; omega
                · have Q2 := Lib.hid q2
                  go_wp2_with fail
                  go_round
                  case rel => exact ⟨k + 1, by omega, by go_num, by rw [HL.out, if_pos Q1.out], by rw [HH.out, if_neg Q2.out]⟩
                  case measure => simp [RowKit.intOf]; omega
              · have Q1 := Lib.hid q1
                by_cases q2 : u < z
                · have Q2 := Lib.hid q2
                  go_wp2_with fail
                  go_round
                  case rel => exact ⟨k + 1, by omega, by go_num, by rw [HL.out, if_neg Q1.out], by rw [HH.out, if_pos Q2.out]⟩
                  case measure => simp [RowKit.intOf]; omega
                · have Q2 := Lib.hid q2
                  go_wp2_with fail
                  go_round
                  case rel => exact ⟨k + 1, by omega, by go_num, by rw [HL.out, if_neg Q1.out], by rw [HH.out, if_neg Q2.out]⟩
                  case measure => simp [RowKit.intOf]; omega
            · obtain ⟨kl, hkl⟩ : ∃ j : Nat, j = zs.length := ⟨_, rfl⟩
              obtain rfl : k = kl := by omega
              obtain ⟨⟨lb1, lb2⟩, lb3, lb4⟩ := HLB.out k (by omega)
              have CP := Lib.hid (fun w0 h => pSum_any (.slice (some ⟨gb, go, none⟩) zs.length c2) zs w0 h HP.out)
              have m1 := M1.out
              have m2 := M2.out
              have m3 := M3.out
              rw [← hkl] at m1 m2 m3 CP h60
              have HI2 : Hid (Ints w18 (.slice (some ⟨gb, go, none⟩) k c2) zs) := by rw [hkl]; exact HI
              rw [← hkl]
              clear hkl hlt hk M1 M2 M3 HLB HI
              generalize lowN zs k = l at *
              generalize highN zs k = u at *
              have hkb : (0 : Int) ≤ (k : Int) := by omega
              have hkb2 : (k : Int) ≤ 60 := by omega
              have p1 := mul_bd (a := mt) (d := (k : Int)) (A := 60000000) (D := 60) m4.1 m4.2 hkb hkb2
              have p2 := mul_bd (a := zs.sum) (d := mb) (A := 60000000) (D := 60) m7 m8 (by omega) m6
              have p3 := mul_bd (a := l) (d := mb) (A := 1000000) (D := 60) lb1 lb2 (by omega) m6
              have p4 := mul_bd (a := u) (d := mb) (A := 1000000) (D := 60) lb3 lb4 (by omega) m6
              have tt : (mt * (k : Int) == zs.sum * mb) = true := by rw [m1]; simp
              clear m1
              go_wp2_with fail
              refine (CP.out _ (HI2.out.kept ((Kept.refl _).drewN _))).mono ?_
              rintro e w' ⟨rfl, rfl⟩
              go_wp2_with fail
              go_ret
              exact ⟨rfl, K18.drewN _⟩
      | true =>
        obtain ⟨l1, l2⟩ := low_facts hok2
        have hok3 : (partB c d && partB (lowT c d) (lowB c d)) = true := by rw [hok2, l1]; rfl
        have C := Lib.hid (fun w0 => implCompare_any c d (lowT c d) (lowB c d) w0)
        rw [l2, hok3] at C
        clear hok2 l1 l2 hok3
        generalize lowT c d = lt at *
        generalize lowB c d = lb at *
        go_wp2_with fail
        with_reducible refine (C.out _).mono ?_
        rintro e w10 ⟨rfl, rfl⟩
        go_wp2_with fail
        with_reducible refine (drawCompare_any _ _ (H1.out.kept K9)).mono ?_
        rintro e w11 ⟨⟨p, q, r, s, rfl⟩, k11⟩
        have K11 := K9.trans k11
        have sz11 := k11.size
        clear k11
        obtain ⟨cb1, cb2⟩ := cmp_back p q r s
        have cbd := cmp_bd p q r s
        go_wp2_with fail
        with_reducible refine (implCompare_any p q r s _).mono ?_
        rintro e w12 ⟨rfl, rfl⟩
        go_wp2_with fail
        with_reducible refine (specCompare_any p q r s _).mono ?_
        rintro e w13 ⟨rfl, rfl⟩
        go_wp2_with fail
        with_reducible refine (implCompare_any r s p q _).mono ?_
        rintro e w14 ⟨rfl, rfl⟩
        rw [cb1, cb2]
        clear cb1 cb2
        go_wp2_with fail
        with_reducible refine (implAdd_any p q r s _).mono ?_
        rintro e w15 ⟨rfl, k15⟩
        have K15 := K11.trans k15
        have sz15 := k15.size
        clear k15
        go_wp2_with fail
        with_reducible refine (specAdd_any p q r s _).mono ?_
        rintro e w16 ⟨rfl, k16⟩
        have K16 := K15.trans k16
        have sz16 := k16.size
        clear k16
        generalize cmpV p q r s = cv at *
        generalize (partB p q && partB r s) = cb
        generalize addT p q r s = at_
        generalize addB p q r s = ab
        generalize addOk p q r s = ao
        go_wp2_with fail
        with_reducible refine (drawMean_any _ _ (H1.out.kept K16)).mono ?_
        rintro e w17 ⟨⟨v2, zs, rfl, o17, hz17⟩, k17⟩
        have K17 := K16.trans k17
        have sz17 := k17.size
        clear k17
        have HI := Lib.hid o17.ints
        obtain ⟨A2, c2, rfl, hn2, hm2, _⟩ := own_form o17
        unfold maxLen at hm2
        clear o17
        go_wp2_with fail
        with_reducible refine (implMean_any _ zs _ HI.out).mono ?_
        rintro e w18 ⟨rfl, k18⟩
        have K18 := K17.trans k18
        have sz18 := k18.size
        replace HI := Lib.hid (HI.out.kept k18)
        clear k18
        go_wp2_with fail
        with_reducible refine (specMean_any _ zs _ HI.out).mono ?_
        rintro e w19 ⟨rfl, k19⟩
        have K19 := K18.trans k19
        have sz19 := k19.size
        replace HI := Lib.hid (HI.out.kept k19)
        clear k19
        cases hok3 : meanOk zs with
        | false =>
          go_wp2_with fail
          go_ret
          exact ⟨rfl, K19⟩
        | true =>
          obtain ⟨hp, hn, m1, m2, m3, m4, m5, m6, m7, m8⟩ := mean_facts hok3
          obtain ⟨h60, hbd⟩ := pts_bd hp
          have HP := Lib.hid hp
          have HLB := Lib.hid (fun k hk => low_bd hbd k hk)
          clear hok3 hp hbd
          have M1 := Lib.hid m1
          have M2 := Lib.hid m2
          have M3 := Lib.hid m3
          clear m1 m2 m3
          generalize meanT zs = mt at *
          generalize meanB zs = mb at *
          obtain ⟨gb, go, z0, rfl, hgl, hz0, hx0⟩ := ints_at HI.out.addr hn
          have HZ0 : Hid (lowN zs 0 = z0 ∧ highN zs 0 = z0) := Lib.hid (by unfold lowN highN; cases zs with | nil => simp at hn | cons a t => simp at hz0; simp [hz0])
          clear hz0
          rw [Nat.add_zero] at hx0
          have hn' : (0 : Int) < (zs.length : Int) := by omega
          go_wp2_with fail
          go_quiet (fail)
          go_wp2_with fail
          go_loop [49, 50, 301] (fun s49 s50 s301 => ∃ k : Nat, k ≤ zs.length ∧ s301 = .int .i64 k ∧ s49 = .int .i64 (lowN zs k) ∧ s50 = .int .i64 (highN zs k)) (fun _ _ i => zs.length - (RowKit.intOf i).toNat)
          case atStart => exact ⟨0, Nat.zero_le _, rfl, by rw [HZ0.out.1], by rw [HZ0.out.2]⟩
          case round =>
            clear HZ0 hx0
            obtain ⟨k, hk, rfl, rfl, rfl⟩ := hrel
            by_cases hlt : k < zs.length
            · obtain ⟨b', o', z, e0, hb', hz, hc⟩ := ints_at HI.out.addr hlt
              cases e0
              have HL := Lib.hid (lowN_succ hz)
              have HH := Lib.hid (highN_succ hz)
              clear hz
              generalize hl : lowN zs k = l at *
              generalize hu : highN zs k = u at *
              clear hl hu
              by_cases q1 : z < l
              · have Q1 := Lib.hid q1
                by_cases q2 : u < z
                · have Q2 := Lib.hid q2
                  go_wp2_with fail
                  go_round
                  case rel => exact ⟨k + 1, by omega, by go_num, by rw [HL.out, if_pos Q1.out], by rw [HH.out, if_pos Q2.out]⟩
                  case measure => simp [RowKit.intOf]; omega
                · have Q2 := Lib.hid q2
                  go_wp2_with fail
                  go_round
                  case rel => exact ⟨k + 1, by omega, by go_num, by rw [HL.out, if_pos Q1.out], by rw [HH.out, if_neg Q2.out]⟩
                  case measure => simp [RowKit.intOf]; omega
              · have Q1 := Lib.hid q1
                by_cases q2 : u < z
                · have Q2 := Lib.hid q2
                  go_wp2_with fail
                  go_round
                  case rel => exact ⟨k + 1, by omega, by go_num, by rw [HL.out, if_neg Q1.out], by rw [HH.out, if_pos Q2.out]⟩
                  case measure => simp [RowKit.intOf]; omega
                · have Q2 := Lib.hid q2
                  go_wp2_with fail
                  go_round
                  case rel => exact ⟨k + 1, by omega, by go_num, by rw [HL.out, if_neg Q1.out], by rw [HH.out, if_neg Q2.out]⟩
                  case measure => simp [RowKit.intOf]; omega
            · obtain ⟨kl, hkl⟩ : ∃ j : Nat, j = zs.length := ⟨_, rfl⟩
              obtain rfl : k = kl := by omega
              obtain ⟨⟨lb1, lb2⟩, lb3, lb4⟩ := HLB.out k (by omega)
              have CP := Lib.hid (fun w0 h => pSum_any (.slice (some ⟨gb, go, none⟩) zs.length c2) zs w0 h HP.out)
              have m1 := M1.out
              have m2 := M2.out
              have m3 := M3.out
              rw [← hkl] at m1 m2 m3 CP h60
              have HI2 : Hid (Ints w19 (.slice (some ⟨gb, go, none⟩) k c2) zs) := by rw [hkl]; exact HI
              rw [← hkl]
              clear hkl hlt hk M1 M2 M3 HLB HI
              generalize lowN zs k = l at *
              generalize highN zs k = u at *
              have hkb : (0 : Int) ≤ (k : Int) := by omega
              have hkb2 : (k : Int) ≤ 60 := by omega
              have p1 := mul_bd (a := mt) (d := (k : Int)) (A := 60000000) (D := 60) m4.1 m4.2 hkb hkb2
              have p2 := mul_bd (a := zs.sum) (d := mb) (A := 60000000) (D := 60) m7 m8 (by omega) m6
              have p3 := mul_bd (a := l) (d := mb) (A := 1000000) (D := 60) lb1 lb2 (by omega) m6
              have p4 := mul_bd (a := u) (d := mb) (A := 1000000) (D := 60) lb3 lb4 (by omega) m6
              have tt : (mt * (k : Int) == zs.sum * mb) = true := by rw [m1]; simp
              clear m1
              go_wp2_with fail
              refine (CP.out _ (HI2.out.kept ((Kept.refl _).drewN _))).mono ?_
              rintro e w' ⟨rfl, rfl⟩
              go_wp2_with fail
              go_ret
              exact ⟨rfl, K19.drewN _⟩
end Go.Proofs.Ytfemfkmjfplcmaa

/- Arguments opened: a slice of bytes. -/
namespace Go.Proofs.Ytfemfkmjfplcmaa
set_option linter.unusedVariables false
set_option linter.unusedSimpArgs false
set_option maxRecDepth 100000
open Go.ChangeShapes Go.WideShapes Go.ChangeAt Go.RowKit

theorem blockB_lt {w : World} {a : Addr} {v : Value} (h : w.cell? a = some v) : a.block < w.heap.size := by
  rcases Nat.lt_or_ge a.block w.heap.size with hlt | hge
  · exact hlt
  · unfold World.cell? at h
    rw [Array.getElem?_eq_none hge] at h
    cases h
theorem addB_at {b o : Nat} (i : Nat) : (⟨b, o, none⟩ : Addr).add i = ⟨b, o + i, none⟩ := by
  unfold Addr.add
  split <;> simp_all
theorem spotB_of {w : World} {x : Addr} {u : Value} (h : w.cell? (x.add 0) = some u) : ∃ b o, x = ⟨b, o, none⟩ := by
  obtain ⟨b, o, s⟩ := x
  have hs : s = none := by simpa [Addr.add] using World.cell?_spot h
  exact ⟨b, o, by rw [hs]⟩
section
variable {H : Type} {enc : TypeId × Value → H} {W : World} {r : Reach} {b0 base : Nat} {spare : Nat → Bool} {held : Bool} {v : Value} {d : DataW H} {p : List MemPlace} {x : DataW H × List MemPlace}
theorem wf_u8 {n : Int} (h : (Lit.int .u8 n).wf = true) : 0 ≤ n ∧ n ≤ 255 := by
  simp [Lit.wf] at h
  have e1 : IntKind.u8.min = 0 := rfl
  have e2 : IntKind.u8.max = 255 := rfl
  omega
theorem open_B (hv : Value.okWide Try.prog W r b0 22 v) (h : DataW.Trod enc Try.prog W base spare held 22 v d p) : Byts W v := by
  obtain ⟨a0, len0, cap0, rfl⟩ := okWide_slice Try.underlying22 hv
  obtain ⟨fuel, hf⟩ := h
  rcases open_ints Try.underlying22 Try.underlying5 (by kernel_rfl) hf with ⟨hcs, _⟩ | ⟨ad, len, cap, zs, hcs, _, hl, hm, hz, _, hcell, hwz⟩
  · injection hcs with hcs _
    injection hcs with e1 e2 e3
    subst e1 e2 e3
    exact ⟨none, 0, 0, rfl, Nat.le_refl _, Nat.zero_le _, fun h => absurd h (by omega)⟩
  · injection hcs with hcs _
    injection hcs with e1 e2 e3
    subst e1 e2 e3
    refine ⟨_, _, _, rfl, hl, hm, fun hn => ?_⟩
    have hge : len0 ≤ zs.length := by rw [hz]; split <;> omega
    obtain ⟨b, o, rfl⟩ := spotB_of (hcell 0 (by omega))
    have h0 := hcell 0 (by omega)
    rw [addB_at] at h0
    refine ⟨b, o, rfl, blockB_lt h0, fun j hj => ?_⟩
    have hc := hcell j (by omega)
    rw [addB_at] at hc
    have hw := wf_u8 (hwz _ (List.getElem_mem (show j < zs.length by omega)))
    refine ⟨zs[j]'(by omega), hw.1, hw.2, ?_⟩
    rw [hc, List.getD_eq_getElem?_getD, List.getElem?_eq_getElem (by omega)]
    rfl
end
end Go.Proofs.Ytfemfkmjfplcmaa
