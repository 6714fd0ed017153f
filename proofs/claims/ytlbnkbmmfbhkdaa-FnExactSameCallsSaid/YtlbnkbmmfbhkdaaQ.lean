/- Names of two lists compared. -/
import Derived.Test.YtlbnkbmmfbhkdaaK
namespace Go.Proofs.Ytlbnkbmmfbhkdaa
open Go.RowKit

theorem quietB {P : Program} {f : FuncId} {args : Array Value} {w : World} {n : Nat} {v : Value} (h : Calls P f args (w.drewN n) fun e w' => e = .returned v ∧ ∃ m, w' = (w.drewN n).drewN m) :
    Calls P f args (w.drewN n) fun e w'' => e = .returned v ∧ ∃ m, w'' = w.drewN m :=
  h.mono fun _ _ ⟨he, m, hm⟩ => ⟨he, n + m, by rw [hm, World.drewN_drewN]⟩
theorem l1SameS_any (v1 v2 : Value) (zs ys : List ByteArray) (w : World) (h1 : Strs w v1 zs) (h2 : Strs w v2 ys) :
    Calls Try.prog 71 #[v1, v2] w fun e w' => e = .returned (.bool (decide (zs = ys))) ∧ ∃ n, w' = w.drewN n := by
  obtain ⟨A, c, rfl, hnc, hcm, hl⟩ := h1.1.out
  obtain ⟨A2, c2, rfl, hnc2, hcm2, hl2⟩ := h2.1.out
  unfold maxLen at hcm hcm2
  have HL := Lib.hid hl
  have HL2 := Lib.hid hl2
  clear hl h1 hl2 h2
  by_cases hlen : zs.length = ys.length
  · have hne : ((zs.length : Int) != (ys.length : Int)) = false := by simp [hlen]
    have HN := Lib.hid hlen
    clear hlen
    go_enter Try.func71, Try.ntmps71
    go_wp2
    go_loopw [13] (fun i wr => ∃ k n : Nat, k ≤ zs.length ∧ i = .int .i64 k ∧ zs.take k = ys.take k ∧ wr = w.drewN n) (fun i _ => zs.length - (intOf i).toNat)
    case atStart => exact ⟨0, 0, Nat.zero_le _, rfl, rfl, rfl⟩
    case round =>
      obtain ⟨k, n, hk, rfl, ht, rfl⟩ := hrel
      have HT := Lib.hid ht
      clear ht
      by_cases hlt : k < zs.length
      · have hlt2 : k < ys.length := by rw [← HN.out]; exact hlt
        obtain ⟨b, o, z, rfl, hb, hz, hc⟩ := strs_at HL.out hlt
        obtain ⟨b2, o2, z2, rfl, hb2, hz2, hc2⟩ := strs_at HL2.out hlt2
        have HZ := Lib.hid hz
        have HZ2 := Lib.hid hz2
        clear hz hz2
        go_wp2
        go_quiet (fail)
        go_wp2
        · have hzz : (!z.toList == z2.toList) = true := by assumption
          go_ret
          refine ⟨?_, _, World.drewN_drewN _ _ _⟩
          have : ¬ zs = ys := fun e => by
            have e1 := HZ.out
            rw [e, HZ2.out] at e1
            simp at e1
            simp [e1] at hzz
          simp [this]
        · have hzz : (!z.toList == z2.toList) = false := by assumption
          go_roundw
          case rel =>
            refine ⟨k + 1, _, by omega, by go_num, ?_, rfl⟩
            have : z = z2 := str_ext (by simpa using hzz)
            subst this
            rw [take_snoc HZ.out, take_snoc HZ2.out, HT.out]
          case measure => simp [intOf]; omega
      · obtain rfl : k = zs.length := by omega
        go_wp2
        go_ret
        have e := take_full rfl HN.out.symm HT.out
        exact ⟨by simp [e], n, rfl⟩
  · have hne : ((zs.length : Int) != (ys.length : Int)) = true := by simp; omega
    have hz : ¬ zs = ys := fun e => hlen (by rw [e])
    have HZ := Lib.hid hz
    clear hz
    go_enter Try.func71, Try.ntmps71
    go_wp2
    go_ret
    exact ⟨by simp [HZ.out], 0, rfl⟩
theorem equalS_any (v1 v2 : Value) (zs ys : List ByteArray) (w : World) (h1 : Strs w v1 zs) (h2 : Strs w v2 ys) :
    Calls Try.prog 72 #[v1, v2] w fun e w' => e = .returned (.bool (decide (zs = ys))) ∧ ∃ n, w' = w.drewN n := by
  obtain ⟨A, c, rfl, hnc, hcm, hl⟩ := h1.1.out
  obtain ⟨A2, c2, rfl, hnc2, hcm2, hl2⟩ := h2.1.out
  unfold maxLen at hcm hcm2
  have HL := Lib.hid hl
  have HL2 := Lib.hid hl2
  clear hl h1 hl2 h2
  by_cases hlen : zs.length = ys.length
  · have hne : ((zs.length : Int) != (ys.length : Int)) = false := by simp [hlen]
    have HN := Lib.hid hlen
    clear hlen
    go_enter Try.func72, Try.ntmps72
    go_wp2
    go_loopw [13] (fun i wr => ∃ k n : Nat, k ≤ zs.length ∧ i = .int .i64 k ∧ zs.take k = ys.take k ∧ wr = w.drewN n) (fun i _ => zs.length - (intOf i).toNat)
    case atStart => exact ⟨0, 0, Nat.zero_le _, rfl, rfl, rfl⟩
    case round =>
      obtain ⟨k, n, hk, rfl, ht, rfl⟩ := hrel
      have HT := Lib.hid ht
      clear ht
      by_cases hlt : k < zs.length
      · have hlt2 : k < ys.length := by rw [← HN.out]; exact hlt
        obtain ⟨b, o, z, rfl, hb, hz, hc⟩ := strs_at HL.out hlt
        obtain ⟨b2, o2, z2, rfl, hb2, hz2, hc2⟩ := strs_at HL2.out hlt2
        have HZ := Lib.hid hz
        have HZ2 := Lib.hid hz2
        clear hz hz2
        go_wp2
        go_quiet (fail)
        go_wp2
        · have hzz : (!z.toList == z2.toList) = true := by assumption
          go_ret
          refine ⟨?_, _, World.drewN_drewN _ _ _⟩
          have : ¬ zs = ys := fun e => by
            have e1 := HZ.out
            rw [e, HZ2.out] at e1
            simp at e1
            simp [e1] at hzz
          simp [this]
        · have hzz : (!z.toList == z2.toList) = false := by assumption
          go_roundw
          case rel =>
            refine ⟨k + 1, _, by omega, by go_num, ?_, rfl⟩
            have : z = z2 := str_ext (by simpa using hzz)
            subst this
            rw [take_snoc HZ.out, take_snoc HZ2.out, HT.out]
          case measure => simp [intOf]; omega
      · obtain rfl : k = zs.length := by omega
        go_wp2
        go_ret
        have e := take_full rfl HN.out.symm HT.out
        exact ⟨by simp [e], n, rfl⟩
  · have hne : ((zs.length : Int) != (ys.length : Int)) = true := by simp; omega
    have hz : ¬ zs = ys := fun e => hlen (by rw [e])
    have HZ := Lib.hid hz
    clear hz
    go_enter Try.func72, Try.ntmps72
    go_wp2
    go_ret
    exact ⟨by simp [HZ.out], 0, rfl⟩
set_option maxHeartbeats 1000000 in
theorem itSame_any (v1 v2 : Value) (xs ys : List ItemD) (w : World) (h1 : ItemsAt w v1 xs) (h2 : ItemsAt w v2 ys) :
    Calls Try.prog 57 #[v1, v2] w fun e w' => e = .returned (.bool (decide (xs.map ItemD.names = ys.map ItemD.names))) ∧ Kept w w' := by
  obtain ⟨A, c, cs, rfl, hnc, hcm, hA⟩ := h1.out
  obtain ⟨A', c', cs', rfl, hnc', hcm', hA'⟩ := h2.out
  unfold maxLen at hcm hcm'
  have HA := Lib.hid hA
  have HA' := Lib.hid hA'
  clear hA h1 hA' h2
  by_cases hlen : xs.length = ys.length
  · have hne : ((xs.length : Int) != (ys.length : Int)) = false := by simp [hlen]
    have HN := Lib.hid hlen
    clear hlen
    go_enter Try.func57, Try.ntmps57
    go_wp2_with fail
    go_loopw [13] (fun i wr => ∃ k : Nat, k ≤ xs.length ∧ i = .int .i64 k ∧ (xs.take k).map ItemD.names = (ys.take k).map ItemD.names ∧ Kept w wr) (fun i _ => xs.length - (intOf i).toNat)
    case atStart => exact ⟨0, Nat.zero_le _, rfl, rfl, Kept.refl _⟩
    case round =>
      obtain ⟨k, hk, rfl, ht, hkept⟩ := hrel
      have HT := Lib.hid ht
      clear ht
      by_cases hlt : k < xs.length
      · have hlt2 : k < ys.length := by rw [← HN.out]; exact hlt
        obtain ⟨b, o, A1, c1, A2, c2, it, rfl, hb, h2, h3, hit, q0, q1, q2⟩ := items_at (HA.out.kept hkept) hlt
        obtain ⟨b', o', A1', c1', A2', c2', it', rfl, hb', h2', h3', hit', q0', q1', q2'⟩ := items_at (HA'.out.kept hkept) hlt2
        obtain ⟨nv, mv, ee, r1, _⟩ := hit
        obtain ⟨nv', mv', ee', r1', _⟩ := hit'
        simp only [Value.agg.injEq] at ee ee'
        simp at ee ee'
        obtain ⟨rfl, _⟩ := ee
        obtain ⟨rfl, _⟩ := ee'
        have HZ := Lib.hid h2
        have HZ' := Lib.hid h2'
        have S1 := Lib.hid r1
        have S1' := Lib.hid r1'
        clear h2 h2' h3 h3' q1 q2 q1' q2' r1 r1'
        by_cases hn : it.names = it'.names
        · have hd : decide (it.names = it'.names) = true := by simp [hn]
          have HNN := Lib.hid hn
          have HD := Lib.hid hd
          clear hn hd
          go_wp2_with fail
          go_quiet ((go_at_call 71; exact quietB (v := .bool true) ((l1SameS_any _ _ _ _ _ (S1.out.kept ((Kept.refl wr).drewN _)) (S1'.out.kept ((Kept.refl wr).drewN _))).mono fun e w' h => ⟨h.1.trans (by rw [HD.out]), h.2⟩)))
          go_wp2_with fail
          go_roundw
          case rel => exact ⟨k + 1, by omega, by go_num, by rw [take_snoc HZ.out, take_snoc HZ'.out, List.map_append, List.map_append, HT.out]; simp [HNN.out], hkept.drewN _⟩
          case measure => simp [intOf]; omega
        · have hd : decide (it.names = it'.names) = false := by simp [hn]
          have HNN := Lib.hid hn
          have HD := Lib.hid hd
          clear hn hd
          go_wp2_with fail
          go_quiet ((go_at_call 71; exact quietB (v := .bool false) ((l1SameS_any _ _ _ _ _ (S1.out.kept ((Kept.refl wr).drewN _)) (S1'.out.kept ((Kept.refl wr).drewN _))).mono fun e w' h => ⟨h.1.trans (by rw [HD.out]), h.2⟩)))
          go_wp2_with fail
          go_ret
          refine ⟨?_, hkept.drewN _⟩
          have : ¬ xs.map ItemD.names = ys.map ItemD.names := fun e => by
            have e1 : (xs.map ItemD.names)[k]? = (ys.map ItemD.names)[k]? := by rw [e]
            rw [List.getElem?_map, List.getElem?_map, HZ.out, HZ'.out] at e1
            simp at e1
            exact HNN.out e1
          simp [this]
      · obtain rfl : k = xs.length := by omega
        go_wp2_with fail
        go_ret
        refine ⟨?_, hkept⟩
        have e := HT.out
        rw [List.take_of_length_le (Nat.le_refl _), List.take_of_length_le (by rw [HN.out]; exact Nat.le_refl _)] at e
        simp [e]
  · have hne : ((xs.length : Int) != (ys.length : Int)) = true := by simp; omega
    have hz : ¬ xs.map ItemD.names = ys.map ItemD.names := fun e => hlen (by have := congrArg List.length e; simpa using this)
    have HZ := Lib.hid hz
    clear hz
    go_enter Try.func57, Try.ntmps57
    go_wp2_with fail
    go_ret
    exact ⟨by simp [HZ.out], Kept.refl _⟩
set_option maxHeartbeats 1000000 in
theorem sameNames_any (v1 v2 : Value) (xs ys : List ItemD) (w : World) (h1 : ItemsAt w v1 xs) (h2 : ItemsAt w v2 ys) :
    Calls Try.prog 58 #[v1, v2] w fun e w' => e = .returned (.bool (decide (xs.map ItemD.names = ys.map ItemD.names))) ∧ Kept w w' := by
  obtain ⟨A, c, cs, rfl, hnc, hcm, hA⟩ := h1.out
  obtain ⟨A', c', cs', rfl, hnc', hcm', hA'⟩ := h2.out
  unfold maxLen at hcm hcm'
  have HA := Lib.hid hA
  have HA' := Lib.hid hA'
  clear hA h1 hA' h2
  by_cases hlen : xs.length = ys.length
  · have hne : ((xs.length : Int) != (ys.length : Int)) = false := by simp [hlen]
    have HN := Lib.hid hlen
    clear hlen
    go_enter Try.func58, Try.ntmps58
    go_wp2_with fail
    go_loopw [13] (fun i wr => ∃ k : Nat, k ≤ xs.length ∧ i = .int .i64 k ∧ (xs.take k).map ItemD.names = (ys.take k).map ItemD.names ∧ Kept w wr) (fun i _ => xs.length - (intOf i).toNat)
    case atStart => exact ⟨0, Nat.zero_le _, rfl, rfl, Kept.refl _⟩
    case round =>
      obtain ⟨k, hk, rfl, ht, hkept⟩ := hrel
      have HT := Lib.hid ht
      clear ht
      by_cases hlt : k < xs.length
      · have hlt2 : k < ys.length := by rw [← HN.out]; exact hlt
        obtain ⟨b, o, A1, c1, A2, c2, it, rfl, hb, h2, h3, hit, q0, q1, q2⟩ := items_at (HA.out.kept hkept) hlt
        obtain ⟨b', o', A1', c1', A2', c2', it', rfl, hb', h2', h3', hit', q0', q1', q2'⟩ := items_at (HA'.out.kept hkept) hlt2
        obtain ⟨nv, mv, ee, r1, _⟩ := hit
        obtain ⟨nv', mv', ee', r1', _⟩ := hit'
        simp only [Value.agg.injEq] at ee ee'
        simp at ee ee'
        obtain ⟨rfl, _⟩ := ee
        obtain ⟨rfl, _⟩ := ee'
        have HZ := Lib.hid h2
        have HZ' := Lib.hid h2'
        have S1 := Lib.hid r1
        have S1' := Lib.hid r1'
        clear h2 h2' h3 h3' q1 q2 q1' q2' r1 r1'
        by_cases hn : it.names = it'.names
        · have hd : decide (it.names = it'.names) = true := by simp [hn]
          have HNN := Lib.hid hn
          have HD := Lib.hid hd
          clear hn hd
          go_wp2_with fail
          go_quiet ((go_at_call 72; exact quietB (v := .bool true) ((equalS_any _ _ _ _ _ (S1.out.kept ((Kept.refl wr).drewN _)) (S1'.out.kept ((Kept.refl wr).drewN _))).mono fun e w' h => ⟨h.1.trans (by rw [HD.out]), h.2⟩)))
          go_wp2_with fail
          go_roundw
          case rel => exact ⟨k + 1, by omega, by go_num, by rw [take_snoc HZ.out, take_snoc HZ'.out, List.map_append, List.map_append, HT.out]; simp [HNN.out], hkept.drewN _⟩
          case measure => simp [intOf]; omega
        · have hd : decide (it.names = it'.names) = false := by simp [hn]
          have HNN := Lib.hid hn
          have HD := Lib.hid hd
          clear hn hd
          go_wp2_with fail
          go_quiet ((go_at_call 72; exact quietB (v := .bool false) ((equalS_any _ _ _ _ _ (S1.out.kept ((Kept.refl wr).drewN _)) (S1'.out.kept ((Kept.refl wr).drewN _))).mono fun e w' h => ⟨h.1.trans (by rw [HD.out]), h.2⟩)))
          go_wp2_with fail
          go_ret
          refine ⟨?_, hkept.drewN _⟩
          have : ¬ xs.map ItemD.names = ys.map ItemD.names := fun e => by
            have e1 : (xs.map ItemD.names)[k]? = (ys.map ItemD.names)[k]? := by rw [e]
            rw [List.getElem?_map, List.getElem?_map, HZ.out, HZ'.out] at e1
            simp at e1
            exact HNN.out e1
          simp [this]
      · obtain rfl : k = xs.length := by omega
        go_wp2_with fail
        go_ret
        refine ⟨?_, hkept⟩
        have e := HT.out
        rw [List.take_of_length_le (Nat.le_refl _), List.take_of_length_le (by rw [HN.out]; exact Nat.le_refl _)] at e
        simp [e]
  · have hne : ((xs.length : Int) != (ys.length : Int)) = true := by simp; omega
    have hz : ¬ xs.map ItemD.names = ys.map ItemD.names := fun e => hlen (by have := congrArg List.length e; simpa using this)
    have HZ := Lib.hid hz
    clear hz
    go_enter Try.func58, Try.ntmps58
    go_wp2_with fail
    go_ret
    exact ⟨by simp [HZ.out], Kept.refl _⟩
def sameV (xs ys : List ItemD) : Bool := itemsB xs && itemsB ys && decide (xs.map ItemD.names = ys.map ItemD.names)
theorem specSameCalls_any (v1 : Value) (xs : List ItemD) (v2 : Value) (ys : List ItemD) (w : World) (h1 : ItemsAt w v1 xs) (h2 : ItemsAt w v2 ys) :
    Calls Try.prog 27 #[v1, v2] w fun e w' => e = .returned (.tuple #[.bool (sameV xs ys), .bool (itemsB xs && itemsB ys)]) ∧ Kept w w' := by
  have H1 := Lib.hid h1
  have H2 := Lib.hid h2
  clear h1 h2
  by_cases b1 : itemsB xs = true <;> by_cases b2 : itemsB ys = true
  all_goals
    (try simp only [Bool.not_eq_true] at b1)
    (try simp only [Bool.not_eq_true] at b2)
    go_enter Try.func27, Try.ntmps27
    go_wp2_with fail
    refine (itList_any _ xs _ H1.out).mono ?_
    rintro e w1 ⟨rfl, k1⟩
    rw [b1]
    go_wp2_with fail
  · refine (itList_any _ ys _ (H2.out.kept k1)).mono ?_
    rintro e w2 ⟨rfl, k2⟩
    rw [b2]
    go_wp2_with fail
    refine (itSame_any _ _ xs ys _ ((H1.out.kept k1).kept k2) ((H2.out.kept k1).kept k2)).mono ?_
    rintro e w3 ⟨rfl, k3⟩
    go_wp2_with fail
    go_ret2
    exact ⟨by simp [sameV, b1, b2], (k1.trans k2).trans k3⟩
  · refine (itList_any _ ys _ (H2.out.kept k1)).mono ?_
    rintro e w2 ⟨rfl, k2⟩
    rw [b2]
    go_wp2_with fail
    go_ret2
    exact ⟨by simp [sameV, b1, b2], k1.trans k2⟩
  all_goals
    go_ret2
    exact ⟨by simp [sameV, b1, b2], k1⟩
theorem implSameCalls_any (v1 : Value) (xs : List ItemD) (v2 : Value) (ys : List ItemD) (w : World) (h1 : ItemsAt w v1 xs) (h2 : ItemsAt w v2 ys) :
    Calls Try.prog 28 #[v1, v2] w fun e w' => e = .returned (.tuple #[.bool (sameV xs ys), .bool (itemsB xs && itemsB ys)]) ∧ Kept w w' := by
  have H1 := Lib.hid h1
  have H2 := Lib.hid h2
  clear h1 h2
  by_cases b1 : itemsB xs = true <;> by_cases b2 : itemsB ys = true
  all_goals
    (try simp only [Bool.not_eq_true] at b1)
    (try simp only [Bool.not_eq_true] at b2)
    go_enter Try.func28, Try.ntmps28
    go_wp2_with fail
    refine (areItems_any _ xs _ H1.out).mono ?_
    rintro e w1 ⟨rfl, k1⟩
    rw [b1]
    go_wp2_with fail
  · refine (areItems_any _ ys _ (H2.out.kept k1)).mono ?_
    rintro e w2 ⟨rfl, k2⟩
    rw [b2]
    go_wp2_with fail
    refine (sameNames_any _ _ xs ys _ ((H1.out.kept k1).kept k2) ((H2.out.kept k1).kept k2)).mono ?_
    rintro e w3 ⟨rfl, k3⟩
    go_wp2_with fail
    go_ret2
    exact ⟨by simp [sameV, b1, b2], (k1.trans k2).trans k3⟩
  · refine (areItems_any _ ys _ (H2.out.kept k1)).mono ?_
    rintro e w2 ⟨rfl, k2⟩
    rw [b2]
    go_wp2_with fail
    go_ret2
    exact ⟨by simp [sameV, b1, b2], k1.trans k2⟩
  all_goals
    go_ret2
    exact ⟨by simp [sameV, b1, b2], k1⟩
set_option maxHeartbeats 1000000 in
theorem lawSameCalls_any {w : World} {v0 : Value} {v1 : Value} (z0 : List ItemD) (z1 : List ItemD) (h0 : ItemsAt w v0 z0) (h1 : ItemsAt w v1 z1) :
    Calls Try.prog 7 #[v0, v1] w fun e w' => e = .returned (.bool true) ∧ Kept w w' := by
  have H0 := Lib.hid h0
  clear h0
  have H1 := Lib.hid h1
  clear h1
  go_enter Try.func7, Try.ntmps7
  have K0 := Kept.refl w
  go_wp2_with fail
  refine (szItemS_any _ z0 _ _ (H0.out.kept K0) (by omega) (by omega)).mono ?_
  rintro e w1 ⟨rfl, k1⟩
  have K1 := K0.trans k1
  by_cases hbig0 : ((itemsSize z0 : Nat) : Int) ≤ 1048576
  case neg =>
    have e1 : lessOr 1048576 (itemsSize z0) = -1 := by unfold lessOr; exact if_neg (by omega)
    rw [e1]
    go_wp2_with fail
    go_ret
    exact ⟨rfl, K1⟩
  have e1 : lessOr 1048576 (itemsSize z0) = 1048576 - (itemsSize z0 : Int) := by unfold lessOr; exact if_pos (by omega)
  rw [e1]
  clear e1
  go_wp2_with fail
  refine (szItemS_any _ z1 _ _ (H1.out.kept K1) (by omega) (by omega)).mono ?_
  rintro e w2 ⟨rfl, k2⟩
  have K2 := K1.trans k2
  by_cases hbig1 : ((itemsSize z1 : Nat) : Int) ≤ (1048576 - (itemsSize z0 : Int))
  case neg =>
    have e1 : lessOr (1048576 - (itemsSize z0 : Int)) (itemsSize z1) = -1 := by unfold lessOr; exact if_neg (by omega)
    rw [e1]
    go_wp2_with fail
    go_ret
    exact ⟨rfl, K2⟩
  have e1 : lessOr (1048576 - (itemsSize z0 : Int)) (itemsSize z1) = (1048576 - (itemsSize z0 : Int)) - (itemsSize z1 : Int) := by unfold lessOr; exact if_pos (by omega)
  rw [e1]
  clear e1
  go_wp2_with fail
  refine (toItemS_any _ z0 _ (H0.out.kept K2) (by omega)).mono ?_
  rintro e w3 ⟨u3, S3, rfl, o3, k3⟩
  have K3 := K2.trans k3
  have R3 := Lib.hid o3.items
  clear o3
  go_wp2_with fail
  refine (toItemS_any _ z1 _ (H1.out.kept K3) (by omega)).mono ?_
  rintro e w4 ⟨u4, S4, rfl, o4, k4⟩
  replace R3 := Lib.hid (R3.out.kept k4)
  have K4 := K3.trans k4
  have R4 := Lib.hid o4.items
  clear o4
  go_wp2_with fail
  refine (specSameCalls_any _ z0 _ z1 _ R3.out R4.out).mono ?_
  rintro e w5 ⟨rfl, k5⟩
  replace R3 := Lib.hid (R3.out.kept k5)
  replace R4 := Lib.hid (R4.out.kept k5)
  have K5 := K4.trans k5
  clear R3
  clear R4
  go_wp2_with fail
  refine (toItemS_any _ z0 _ (H0.out.kept K5) (by omega)).mono ?_
  rintro e w6 ⟨u6, S6, rfl, o6, k6⟩
  have K6 := K5.trans k6
  have R6 := Lib.hid o6.items
  clear o6
  go_wp2_with fail
  refine (toItemS_any _ z1 _ (H1.out.kept K6) (by omega)).mono ?_
  rintro e w7 ⟨u7, S7, rfl, o7, k7⟩
  replace R6 := Lib.hid (R6.out.kept k7)
  have K7 := K6.trans k7
  have R7 := Lib.hid o7.items
  clear o7
  go_wp2_with fail
  refine (implSameCalls_any _ z0 _ z1 _ R6.out R7.out).mono ?_
  rintro e w8 ⟨rfl, k8⟩
  replace R6 := Lib.hid (R6.out.kept k8)
  replace R7 := Lib.hid (R7.out.kept k8)
  have K8 := K7.trans k8
  go_wp2_with fail
  refine (toItemS_any _ z0 _ (H0.out.kept K8) (by omega)).mono ?_
  rintro e w9 ⟨u9, S9, rfl, o9, k9⟩
  replace R6 := Lib.hid (R6.out.kept k9)
  replace R7 := Lib.hid (R7.out.kept k9)
  have K9 := K8.trans k9
  have R9 := Lib.hid o9.items
  clear o9
  go_wp2_with fail
  refine (eqItemS_any _ _ z0 _ R6.out R9.out).mono ?_
  rintro e w10 ⟨rfl, k10⟩
  replace R6 := Lib.hid (R6.out.kept k10)
  replace R7 := Lib.hid (R7.out.kept k10)
  replace R9 := Lib.hid (R9.out.kept k10)
  have K10 := K9.trans k10
  clear R9
  go_wp2_with fail
  refine (toItemS_any _ z1 _ (H1.out.kept K10) (by omega)).mono ?_
  rintro e w11 ⟨u11, S11, rfl, o11, k11⟩
  replace R6 := Lib.hid (R6.out.kept k11)
  replace R7 := Lib.hid (R7.out.kept k11)
  have K11 := K10.trans k11
  have R11 := Lib.hid o11.items
  clear o11
  go_wp2_with fail
  refine (eqItemS_any _ _ z1 _ R7.out R11.out).mono ?_
  rintro e w12 ⟨rfl, k12⟩
  replace R6 := Lib.hid (R6.out.kept k12)
  replace R7 := Lib.hid (R7.out.kept k12)
  replace R11 := Lib.hid (R11.out.kept k12)
  have K12 := K11.trans k12
  clear R11
  go_wp2_with fail
  go_ret
  exact ⟨rfl, K12⟩
end Go.Proofs.Ytlbnkbmmfbhkdaa
