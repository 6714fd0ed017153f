/- Contracts of chapter 1: sums, places and means of lists of points, percents. -/
import Derived.Test.YthlefmkimbefnaaC
namespace Go.Proofs.Ythlefmkimbefnaa
open Go.RowKit

def sumOk (zs : List Int) : Bool := ptsB zs && inB zs.sum (-1000000) 1000000
def sumV (zs : List Int) : Int := if sumOk zs then zs.sum else 0
theorem pts_sum_bd {zs : List Int} (h : ptsB zs = true) : -60000000 ≤ zs.sum ∧ zs.sum ≤ 60000000 := by
  obtain ⟨h1, h2⟩ := ptsB_true h
  have := sum_bd zs 1000000 (by omega) (fun z hz => inB_true (List.all_eq_true.1 h2 z hz)) zs.length
  rw [List.take_of_length_le (Nat.le_refl _)] at this
  omega
theorem specSum_any (v : Value) (zs : List Int) (w : World) (h : Ints w v zs) :
    Calls Try.prog 24 #[v] w fun e w' => e = .returned (.tuple #[.int .i64 (sumV zs), .bool (sumOk zs)]) ∧ Kept w w' := by
  have HI := Lib.hid h
  clear h
  by_cases h1 : ptsB zs = true
  · obtain ⟨q1, q2⟩ := ptsB_true h1
    have HQ := Lib.hid q2
    clear q2
    go_enter Try.func24, Try.ntmps24
    go_wp2_with (first | (go_at_call 56; refine (poList_any _ _ _ HI.out).mono ?_; rintro e w' ⟨rfl, rfl⟩) | (go_at_call 52; refine (poGood_any _ _).mono ?_; rintro e w' ⟨rfl, rfl⟩) | (go_at_call 57; refine (poSum_any _ _ _ HI.out q1 HQ.out).mono ?_; rintro e w' ⟨rfl, rfl⟩))
    all_goals
      go_ret2
      rename_i hh
      simp at hh
      exact ⟨by simp [sumV, sumOk, h1, hh], Kept.refl _⟩
  · simp only [Bool.not_eq_true] at h1
    go_enter Try.func24, Try.ntmps24
    go_wp2_with (first | (go_at_call 56; refine (poList_any _ _ _ HI.out).mono ?_; rintro e w' ⟨rfl, rfl⟩))
    go_ret2
    exact ⟨by simp [sumV, sumOk, h1], Kept.refl _⟩
theorem implSum_any (v : Value) (zs : List Int) (w : World) (h : Ints w v zs) :
    Calls Try.prog 26 #[v] w fun e w' => e = .returned (.tuple #[.int .i64 (sumV zs), .bool (sumOk zs)]) ∧ Kept w w' := by
  have HI := Lib.hid h
  clear h
  by_cases h1 : ptsB zs = true
  · obtain ⟨q1, q2⟩ := ptsB_true h1
    have HQ := Lib.hid q2
    clear q2
    go_enter Try.func26, Try.ntmps26
    go_wp2_with (first | (go_at_call 58; refine (isPointsList_any _ _ _ HI.out).mono ?_; rintro e w' ⟨rfl, rfl⟩) | (go_at_call 54; refine (arePoints_any _ [_] _ (ints_one _ _ _)).mono ?_; rintro e w' ⟨rfl, rfl⟩) | (go_at_call 59; refine (sumInts_any _ zs _ ?_ q1 HQ.out).mono ?_; (first | exact HI.out | exact HI.out.kept ((Kept.refl _).alloc _)); rintro e w' ⟨rfl, rfl⟩))
    all_goals
      go_ret2
      rename_i hh
      simp at hh
      exact ⟨by simp [sumV, sumOk, h1, hh], (Kept.refl _).alloc _⟩
  · simp only [Bool.not_eq_true] at h1
    go_enter Try.func26, Try.ntmps26
    go_wp2_with (first | (go_at_call 58; refine (isPointsList_any _ _ _ HI.out).mono ?_; rintro e w' ⟨rfl, rfl⟩))
    go_ret2
    exact ⟨by simp [sumV, sumOk, h1], Kept.refl _⟩
theorem lawSumPoints_any {w : World} {v0 : Value} (zs0 : List Int) (h0 : Ints w v0 zs0) :
    Calls Try.prog 9 #[v0] w fun e w' => e = .returned (.bool true) ∧ Kept w w' := by
  have H0 := Lib.hid h0
  obtain ⟨A, c, rfl, hnc, hcm, _⟩ := h0.out
  unfold maxLen at hcm
  clear h0
  by_cases hbig : zs0.length ≤ 1048576
  case neg =>
    go_enter Try.func9, Try.ntmps9
    go_wp2_with fail
    go_ret
    exact ⟨rfl, Kept.refl _⟩
  go_enter Try.func9, Try.ntmps9
  go_wp2_with fail
  refine (toIntS_any _ zs0 _ H0.out (by omega)).mono ?_
  rintro e w1 ⟨v'1, rfl, o1, k1⟩
  have K1 := k1
  have O1 := Lib.hid o1
  clear o1
  go_wp2_with fail
  refine (specSum_any _ zs0 _ O1.out.ints).mono ?_
  rintro e w2 ⟨rfl, k2⟩
  have K2 := K1.trans k2
  go_wp2_with fail
  refine (toIntS_any _ zs0 _ (H0.out.kept K2) (by omega)).mono ?_
  rintro e w3 ⟨v'3, rfl, o3, k3⟩
  have K3 := K2.trans k3
  have O3 := Lib.hid o3
  clear o3
  go_wp2_with fail
  refine (implSum_any _ zs0 _ O3.out.ints).mono ?_
  rintro e w4 ⟨rfl, k4⟩
  have K4 := K3.trans k4
  go_wp2_with fail
  refine (toIntS_any _ zs0 _ (H0.out.kept K4) (by omega)).mono ?_
  rintro e w5 ⟨v'5, rfl, o5, k5⟩
  have K5 := K4.trans k5
  have O5 := Lib.hid o5
  clear o5
  go_wp2_with fail
  refine (eqIntS_any _ _ zs0 zs0 _ ((O3.out.ints.kept k4).kept k5) O5.out.ints).mono ?_
  rintro e w6 ⟨rfl, k6⟩
  have K6 := K5.trans k6
  go_wp2_with fail
  go_ret
  exact ⟨rfl, K6⟩

def place (zs : List Int) (n : Int) : Int := 1 + ((zs.filter fun x => decide (n < x)).length : Int)
theorem place_snoc {zs : List Int} {k : Nat} {z n : Int} (h : zs[k]? = some z) : place (zs.take (k + 1)) n = place (zs.take k) n + if n < z then 1 else 0 := by
  unfold place
  rw [take_snoc h, List.filter_append]
  by_cases hz : n < z <;> simp [List.filter_cons, hz]; omega
theorem place_bd (zs : List Int) (n : Int) (k : Nat) : 1 ≤ place (zs.take k) n ∧ place (zs.take k) n ≤ 1 + (k : Int) := by
  unfold place
  have h1 := List.length_filter_le (fun x => decide (n < x)) (zs.take k)
  have h2 := List.length_take_le k zs
  omega
theorem poPlace_any (v : Value) (zs : List Int) (n : Int) (w : World) (h : Ints w v zs) (hn60 : zs.length ≤ 60) :
    Calls Try.prog 60 #[v, .int .i64 n] w fun e w' => e = .returned (.int .i64 (place zs n)) ∧ w = w' := by
  obtain ⟨A, c, rfl, hnc, hcm, hl⟩ := h.out
  unfold maxLen at hcm
  have HL := Lib.hid hl
  clear hl h
  go_enter Try.func60, Try.ntmps60
  go_wp2
  go_loop [5, 10] (fun s i => ∃ k : Nat, k ≤ zs.length ∧ i = .int .i64 k ∧ s = .int .i64 (place (zs.take k) n)) (fun _ i => zs.length - (intOf i).toNat)
  case atStart => exact ⟨0, Nat.zero_le _, rfl, rfl⟩
  case round =>
    obtain ⟨k, hk, rfl, rfl⟩ := hrel
    obtain ⟨hb1, hb2⟩ := place_bd zs n k
    by_cases hlt : k < zs.length
    · obtain ⟨b, o, z, rfl, hb, hz, hc⟩ := ints_at HL.out hlt
      have HZ := Lib.hid (place_snoc (n := n) hz)
      clear hz
      go_wp2
      all_goals
        go_round
        case rel => exact ⟨k + 1, by omega, by go_num, by rw [HZ.out]; first | rw [if_pos (by assumption)] | (rw [if_neg (by omega)]; go_num)⟩
        case measure => simp [intOf]; omega
    · go_wp2
      go_ret
      exact ⟨ret_int (by rw [List.take_of_length_le (by omega)]), rfl⟩
def placeOk (zs : List Int) (n : Int) : Bool := ptsB zs && inB n (-1000000) 1000000
def placeV (zs : List Int) (n : Int) : Int := if placeOk zs n then place zs n else 0
theorem specPlace_any (v : Value) (zs : List Int) (n : Int) (w : World) (h : Ints w v zs) :
    Calls Try.prog 28 #[v, .int .i64 n] w fun e w' => e = .returned (.tuple #[.int .i64 (placeV zs n), .bool (placeOk zs n)]) ∧ Kept w w' := by
  have HI := Lib.hid h
  clear h
  by_cases h1 : ptsB zs = true <;> by_cases h2 : inB n (-1000000) 1000000 = true
  · have h60 := (ptsB_true h1).1
    go_enter Try.func28, Try.ntmps28
    go_wp2_with (first | (go_at_call 56; refine (poList_any _ _ _ HI.out).mono ?_; rintro e w' ⟨rfl, rfl⟩) | (go_at_call 52; refine (poGood_any _ _).mono ?_; rintro e w' ⟨rfl, rfl⟩) | (go_at_call 60; refine (poPlace_any _ _ _ _ HI.out h60).mono ?_; rintro e w' ⟨rfl, rfl⟩))
    go_ret2
    exact ⟨by simp [placeV, placeOk, h1, h2], Kept.refl _⟩
  all_goals
    simp only [Bool.not_eq_true] at *
    go_enter Try.func28, Try.ntmps28
    go_wp2_with (first | (go_at_call 56; refine (poList_any _ _ _ HI.out).mono ?_; rintro e w' ⟨rfl, rfl⟩) | (go_at_call 52; refine (poGood_any _ _).mono ?_; rintro e w' ⟨rfl, rfl⟩))
    go_ret2
    exact ⟨by simp [placeV, placeOk, h1, h2], Kept.refl _⟩
theorem implPlace_any (v : Value) (zs : List Int) (n : Int) (w : World) (h : Ints w v zs) :
    Calls Try.prog 29 #[v, .int .i64 n] w fun e w' => e = .returned (.tuple #[.int .i64 (placeV zs n), .bool (placeOk zs n)]) ∧ Kept w w' := by
  obtain ⟨A, c, rfl, hnc, hcm, hl⟩ := h.out
  unfold maxLen at hcm
  have HL := Lib.hid hl
  have HI := Lib.hid h
  clear hl h
  by_cases h1 : ptsB zs = true <;> by_cases h2 : inB n (-1000000) 1000000 = true
  · have h60 := (ptsB_true h1).1
    go_enter Try.func29, Try.ntmps29
    go_wp2_with (first | (go_at_call 58; refine (isPointsList_any _ _ _ HI.out).mono ?_; rintro e w' ⟨rfl, rfl⟩) | (go_at_call 54; refine (arePoints_any _ [_] _ (ints_one _ _ _)).mono ?_; rintro e w' ⟨rfl, rfl⟩))
    go_loop [6, 20] (fun s i => ∃ k : Nat, k ≤ zs.length ∧ i = .int .i64 k ∧ s = .int .i64 (place (zs.take k) n)) (fun _ i => zs.length - (intOf i).toNat)
    case atStart => exact ⟨0, Nat.zero_le _, rfl, rfl⟩
    case round =>
      obtain ⟨k, hk, rfl, rfl⟩ := hrel
      obtain ⟨hb1, hb2⟩ := place_bd zs n k
      by_cases hlt : k < zs.length
      · obtain ⟨b, o, z, rfl, hb, hz, hc⟩ := ints_at (HL.out.kept ((Kept.refl w).alloc (.cells #[.int .i64 n] 3))) hlt
        have HZ := Lib.hid (place_snoc (n := n) hz)
        clear hz
        go_wp2
        all_goals
          go_round
          case rel => exact ⟨k + 1, by omega, by go_num, by rw [HZ.out]; first | rw [if_pos (by assumption)] | (rw [if_neg (by omega)]; go_num)⟩
          case measure => simp [intOf]; omega
      · go_wp2
        go_ret2
        refine ⟨?_, (Kept.refl _).alloc _⟩
        have : zs.take k = zs := List.take_of_length_le (by omega)
        simp [placeV, placeOk, h1, h2, this]
  all_goals
    simp only [Bool.not_eq_true] at *
    go_enter Try.func29, Try.ntmps29
    go_wp2_with (first | (go_at_call 58; refine (isPointsList_any _ _ _ HI.out).mono ?_; rintro e w' ⟨rfl, rfl⟩) | (go_at_call 54; refine (arePoints_any _ [_] _ (ints_one _ _ _)).mono ?_; rintro e w' ⟨rfl, rfl⟩))
    go_ret2
    refine ⟨?_, by first | exact Kept.refl _ | exact (Kept.refl _).alloc _⟩
    simp [placeV, placeOk, h1, h2]
theorem lawPlaceOfPoints_any {w : World} {v0 : Value} (zs0 : List Int) (a1 : Int) (h0 : Ints w v0 zs0) (_ : (Lit.int .i64 a1).wf = true) :
    Calls Try.prog 10 #[v0, .int .i64 a1] w fun e w' => e = .returned (.bool true) ∧ Kept w w' := by
  have H0 := Lib.hid h0
  obtain ⟨A, c, rfl, hnc, hcm, _⟩ := h0.out
  unfold maxLen at hcm
  clear h0
  by_cases hbig : zs0.length ≤ 1048576
  case neg =>
    go_enter Try.func10, Try.ntmps10
    go_wp2_with fail
    go_ret
    exact ⟨rfl, Kept.refl _⟩
  go_enter Try.func10, Try.ntmps10
  go_wp2_with fail
  refine (toIntS_any _ zs0 _ H0.out (by omega)).mono ?_
  rintro e w1 ⟨v'1, rfl, o1, k1⟩
  have K1 := k1
  have O1 := Lib.hid o1
  clear o1
  go_wp2_with fail
  refine (specPlace_any _ zs0 _ _ O1.out.ints).mono ?_
  rintro e w2 ⟨rfl, k2⟩
  have K2 := K1.trans k2
  go_wp2_with fail
  refine (toIntS_any _ zs0 _ (H0.out.kept K2) (by omega)).mono ?_
  rintro e w3 ⟨v'3, rfl, o3, k3⟩
  have K3 := K2.trans k3
  have O3 := Lib.hid o3
  clear o3
  go_wp2_with fail
  refine (implPlace_any _ zs0 _ _ O3.out.ints).mono ?_
  rintro e w4 ⟨rfl, k4⟩
  have K4 := K3.trans k4
  go_wp2_with fail
  refine (toIntS_any _ zs0 _ (H0.out.kept K4) (by omega)).mono ?_
  rintro e w5 ⟨v'5, rfl, o5, k5⟩
  have K5 := K4.trans k5
  have O5 := Lib.hid o5
  clear o5
  go_wp2_with fail
  refine (eqIntS_any _ _ zs0 zs0 _ ((O3.out.ints.kept k4).kept k5) O5.out.ints).mono ?_
  rintro e w6 ⟨rfl, k6⟩
  have K6 := K5.trans k6
  go_wp2_with fail
  go_ret
  exact ⟨rfl, K6⟩

def meanOk (zs : List Int) : Bool := ptsB zs && !(zs.length == 0)
def meanT (zs : List Int) : Int := if meanOk zs then zs.sum.tdiv (Int.gcd zs.sum zs.length) else 0
def meanB (zs : List Int) : Int := if meanOk zs then (zs.length : Int) / (Int.gcd zs.sum zs.length) else 0
theorem specMean_any (v : Value) (zs : List Int) (w : World) (h : Ints w v zs) :
    Calls Try.prog 30 #[v] w fun e w' => e = .returned (.tuple #[.int .i64 (meanT zs), .int .i64 (meanB zs), .bool (meanOk zs)]) ∧ Kept w w' := by
  have h0 := h
  obtain ⟨A, c, rfl, hnc, hcm, _⟩ := h0.out
  unfold maxLen at hcm
  have HI := Lib.hid h
  clear h h0
  by_cases h1 : ptsB zs = true <;> by_cases h2 : zs.length = 0
  · have hz : ((zs.length : Int) == 0) = true := by simp [h2]
    have H2 := Lib.hid h2
    clear h2
    go_enter Try.func30, Try.ntmps30
    go_wp2_with (first | (go_at_call 56; refine (poList_any _ _ _ HI.out).mono ?_; rintro e w' ⟨rfl, rfl⟩))
    go_ret3
    exact ⟨by simp [meanT, meanB, meanOk, h1, H2.out], Kept.refl _⟩
  · obtain ⟨q1, q2⟩ := ptsB_true h1
    obtain ⟨q3, q4⟩ := pts_sum_bd h1
    have HQ := Lib.hid q2
    have hz : ((zs.length : Int) == 0) = false := beq_eq_false_iff_ne.2 (by omega)
    have H2 := Lib.hid h2
    have hpos : 1 ≤ (zs.length : Int) := by omega
    clear q2 h2
    go_enter Try.func30, Try.ntmps30
    go_wp2_with (first | (go_at_call 56; refine (poList_any _ _ _ HI.out).mono ?_; rintro e w' ⟨rfl, rfl⟩) | (go_at_call 57; refine (poSum_any _ _ _ HI.out q1 HQ.out).mono ?_; rintro e w' ⟨rfl, rfl⟩) | (go_at_call 46; refine (poLowest_any _ _ _ (by omega) (by omega) (by omega) (by omega)).mono ?_; rintro e w1 ⟨rfl, hk⟩))
    go_ret3
    exact ⟨by simp [meanT, meanB, meanOk, h1, H2.out], hk⟩
  all_goals
    have H2 := Lib.hid h2
    clear h2
    simp only [Bool.not_eq_true] at h1
    go_enter Try.func30, Try.ntmps30
    go_wp2_with (first | (go_at_call 56; refine (poList_any _ _ _ HI.out).mono ?_; rintro e w' ⟨rfl, rfl⟩))
    go_ret3
    exact ⟨by simp [meanT, meanB, meanOk, h1], Kept.refl _⟩
theorem implMean_any (v : Value) (zs : List Int) (w : World) (h : Ints w v zs) :
    Calls Try.prog 31 #[v] w fun e w' => e = .returned (.tuple #[.int .i64 (meanT zs), .int .i64 (meanB zs), .bool (meanOk zs)]) ∧ Kept w w' := by
  have h0 := h
  obtain ⟨A, c, rfl, hnc, hcm, _⟩ := h0.out
  unfold maxLen at hcm
  have HI := Lib.hid h
  clear h h0
  by_cases h1 : ptsB zs = true <;> by_cases h2 : zs.length = 0
  · have hz : ((zs.length : Int) == 0) = true := by simp [h2]
    have H2 := Lib.hid h2
    clear h2
    go_enter Try.func31, Try.ntmps31
    go_wp2_with (first | (go_at_call 58; refine (isPointsList_any _ _ _ HI.out).mono ?_; rintro e w' ⟨rfl, rfl⟩))
    go_ret3
    exact ⟨by simp [meanT, meanB, meanOk, h1, H2.out], Kept.refl _⟩
  · obtain ⟨q1, q2⟩ := ptsB_true h1
    obtain ⟨q3, q4⟩ := pts_sum_bd h1
    have HQ := Lib.hid q2
    have hz : ((zs.length : Int) == 0) = false := beq_eq_false_iff_ne.2 (by omega)
    have H2 := Lib.hid h2
    have hpos : 1 ≤ (zs.length : Int) := by omega
    clear q2 h2
    go_enter Try.func31, Try.ntmps31
    go_wp2_with (first | (go_at_call 58; refine (isPointsList_any _ _ _ HI.out).mono ?_; rintro e w' ⟨rfl, rfl⟩) | (go_at_call 59; refine (sumInts_any _ _ _ HI.out q1 HQ.out).mono ?_; rintro e w' ⟨rfl, rfl⟩) | (go_at_call 47; refine (lowestTerms_any _ _ _ (by omega) (by omega) (by omega) (by omega)).mono ?_; rintro e w1 ⟨rfl, hk⟩))
    go_ret3
    exact ⟨by simp [meanT, meanB, meanOk, h1, H2.out], hk⟩
  all_goals
    have H2 := Lib.hid h2
    clear h2
    simp only [Bool.not_eq_true] at h1
    go_enter Try.func31, Try.ntmps31
    go_wp2_with (first | (go_at_call 58; refine (isPointsList_any _ _ _ HI.out).mono ?_; rintro e w' ⟨rfl, rfl⟩))
    go_ret3
    exact ⟨by simp [meanT, meanB, meanOk, h1], Kept.refl _⟩
theorem lawMeanPoints_any {w : World} {v0 : Value} (zs0 : List Int) (h0 : Ints w v0 zs0) :
    Calls Try.prog 11 #[v0] w fun e w' => e = .returned (.bool true) ∧ Kept w w' := by
  have H0 := Lib.hid h0
  obtain ⟨A, c, rfl, hnc, hcm, _⟩ := h0.out
  unfold maxLen at hcm
  clear h0
  by_cases hbig : zs0.length ≤ 1048576
  case neg =>
    go_enter Try.func11, Try.ntmps11
    go_wp2_with fail
    go_ret
    exact ⟨rfl, Kept.refl _⟩
  go_enter Try.func11, Try.ntmps11
  go_wp2_with fail
  refine (toIntS_any _ zs0 _ H0.out (by omega)).mono ?_
  rintro e w1 ⟨v'1, rfl, o1, k1⟩
  have K1 := k1
  have O1 := Lib.hid o1
  clear o1
  go_wp2_with fail
  refine (specMean_any _ zs0 _ O1.out.ints).mono ?_
  rintro e w2 ⟨rfl, k2⟩
  have K2 := K1.trans k2
  go_wp2_with fail
  refine (toIntS_any _ zs0 _ (H0.out.kept K2) (by omega)).mono ?_
  rintro e w3 ⟨v'3, rfl, o3, k3⟩
  have K3 := K2.trans k3
  have O3 := Lib.hid o3
  clear o3
  go_wp2_with fail
  refine (implMean_any _ zs0 _ O3.out.ints).mono ?_
  rintro e w4 ⟨rfl, k4⟩
  have K4 := K3.trans k4
  go_wp2_with fail
  refine (toIntS_any _ zs0 _ (H0.out.kept K4) (by omega)).mono ?_
  rintro e w5 ⟨v'5, rfl, o5, k5⟩
  have K5 := K4.trans k5
  have O5 := Lib.hid o5
  clear o5
  go_wp2_with fail
  refine (eqIntS_any _ _ zs0 zs0 _ ((O3.out.ints.kept k4).kept k5) O5.out.ints).mono ?_
  rintro e w6 ⟨rfl, k6⟩
  have K6 := K5.trans k6
  go_wp2_with fail
  go_ret
  exact ⟨rfl, K6⟩
end Go.Proofs.Ythlefmkimbefnaa
