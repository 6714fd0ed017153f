/- Contracts of functions that the proof leans on. No condition. -/
import Derived.Test.YtkekpolfdmmgeaaGreatDoorM8f7e84a817
import Derived.StillTailTactics
import Derived.Deep.RegionHeld3
/- Names of two lists compared. -/
namespace Go.Proofs.YtkekpolfdmmgeaaGreatDoor
set_option linter.unusedVariables false
set_option linter.unusedSimpArgs false
open Go.RowKit

theorem quietB {P : Program} {f : FuncId} {args : Array Value} {w : World} {n : Nat} {v : Value} (h : Calls P f args (w.drewN n) fun e w' => e = .returned v ∧ ∃ m, w' = (w.drewN n).drewN m) :
    Calls P f args (w.drewN n) fun e w'' => e = .returned v ∧ ∃ m, w'' = w.drewN m :=
  h.mono fun _ _ ⟨he, m, hm⟩ => ⟨he, n + m, by rw [hm, World.drewN_drewN]⟩
theorem l1SameS_any (v1 v2 : Value) (zs ys : List ByteArray) (w : World) (h1 : Strs w v1 zs) (h2 : Strs w v2 ys) :
    Calls Tryz.prog 121 #[v1, v2] w fun e w' => e = .returned (.bool (decide (zs = ys))) ∧ ∃ n, w' = w.drewN n := by
  obtain ⟨A, c, rfl, hnc, hcm, hl⟩ := h1.1.out
  obtain ⟨A2, c2, rfl, hnc2, hcm2, hl2⟩ := h2.1.out
  unfold maxLen at hcm hcm2
  have HL := Lib.hid hl
  have HL2 := Lib.hid hl2
  clear hl h1 hl2 h2
  by_cases hlen : zs.length = ys.length
  · have hne : ((zs.length : Int) != (ys.length : Int)) = false := by simp [hlen]
    have HN := Lib.hid hlen
    clear hlen
    go_enter Tryz.func121, Tryz.ntmps121
    go_wp2
    go_loopw [13] (fun i wr => ∃ k n : Nat, k ≤ zs.length ∧ i = .int .i64 k ∧ zs.take k = ys.take k ∧ wr = w.drewN n) (fun i _ => zs.length - (intOf i).toNat)
    case atStart => exact ⟨0, 0, Nat.zero_le _, rfl, rfl, rfl⟩
    case round =>
      obtain ⟨k, n, hk, rfl, ht, rfl⟩ := hrel
      have HT := Lib.hid ht
      clear ht
      by_cases hlt : k < zs.length
      · have hlt2 : k < ys.length := by rw [← HN.out]; exact hlt
        obtain ⟨b, o, z, rfl, hb, hz, hc⟩ := strs_at HL.out hlt
        obtain ⟨b2, o2, z2, rfl, hb2, hz2, hc2⟩ := strs_at HL2.out hlt2
        have HZ := Lib.hid hz
        have HZ2 := Lib.hid hz2
        clear hz hz2
        go_wp2
        go_quiet (fail)
        go_wp2
        · have hzz : (!z.toList == z2.toList) = true := by assumption
          go_ret
          refine ⟨?_, _, World.drewN_drewN _ _ _⟩
          have : ¬ zs = ys := fun e => by
            have e1 := HZ.out
            rw [e, HZ2.out] at e1
            simp at e1
            simp [e1] at hzz
          simp [this]
        · have hzz : (!z.toList == z2.toList) = false := by assumption
          go_roundw
          case rel =>
            refine ⟨k + 1, _, by omega, by go_num, ?_, rfl⟩
            have : z = z2 := str_ext (by simpa using hzz)
            subst this
            rw [take_snoc HZ.out, take_snoc HZ2.out, HT.out]
          case measure => simp [intOf]; omega
      · obtain rfl : k = zs.length := by omega
        go_wp2
        go_ret
        have e := take_full rfl HN.out.symm HT.out
        exact ⟨by simp [e], n, rfl⟩
  · have hne : ((zs.length : Int) != (ys.length : Int)) = true := by simp; omega
    have hz : ¬ zs = ys := fun e => hlen (by rw [e])
    have HZ := Lib.hid hz
    clear hz
    go_enter Tryz.func121, Tryz.ntmps121
    go_wp2
    go_ret
    exact ⟨by simp [HZ.out], 0, rfl⟩
theorem equalS_any (v1 v2 : Value) (zs ys : List ByteArray) (w : World) (h1 : Strs w v1 zs) (h2 : Strs w v2 ys) :
    Calls Tryz.prog 114 #[v1, v2] w fun e w' => e = .returned (.bool (decide (zs = ys))) ∧ ∃ n, w' = w.drewN n := by
  obtain ⟨A, c, rfl, hnc, hcm, hl⟩ := h1.1.out
  obtain ⟨A2, c2, rfl, hnc2, hcm2, hl2⟩ := h2.1.out
  unfold maxLen at hcm hcm2
  have HL := Lib.hid hl
  have HL2 := Lib.hid hl2
  clear hl h1 hl2 h2
  by_cases hlen : zs.length = ys.length
  · have hne : ((zs.length : Int) != (ys.length : Int)) = false := by simp [hlen]
    have HN := Lib.hid hlen
    clear hlen
    go_enter Tryz.func114, Tryz.ntmps114
    go_wp2
    go_loopw [13] (fun i wr => ∃ k n : Nat, k ≤ zs.length ∧ i = .int .i64 k ∧ zs.take k = ys.take k ∧ wr = w.drewN n) (fun i _ => zs.length - (intOf i).toNat)
    case atStart => exact ⟨0, 0, Nat.zero_le _, rfl, rfl, rfl⟩
    case round =>
      obtain ⟨k, n, hk, rfl, ht, rfl⟩ := hrel
      have HT := Lib.hid ht
      clear ht
      by_cases hlt : k < zs.length
      · have hlt2 : k < ys.length := by rw [← HN.out]; exact hlt
        obtain ⟨b, o, z, rfl, hb, hz, hc⟩ := strs_at HL.out hlt
        obtain ⟨b2, o2, z2, rfl, hb2, hz2, hc2⟩ := strs_at HL2.out hlt2
        have HZ := Lib.hid hz
        have HZ2 := Lib.hid hz2
        clear hz hz2
        go_wp2
        go_quiet (fail)
        go_wp2
        · have hzz : (!z.toList == z2.toList) = true := by assumption
          go_ret
          refine ⟨?_, _, World.drewN_drewN _ _ _⟩
          have : ¬ zs = ys := fun e => by
            have e1 := HZ.out
            rw [e, HZ2.out] at e1
            simp at e1
            simp [e1] at hzz
          simp [this]
        · have hzz : (!z.toList == z2.toList) = false := by assumption
          go_roundw
          case rel =>
            refine ⟨k + 1, _, by omega, by go_num, ?_, rfl⟩
            have : z = z2 := str_ext (by simpa using hzz)
            subst this
            rw [take_snoc HZ.out, take_snoc HZ2.out, HT.out]
          case measure => simp [intOf]; omega
      · obtain rfl : k = zs.length := by omega
        go_wp2
        go_ret
        have e := take_full rfl HN.out.symm HT.out
        exact ⟨by simp [e], n, rfl⟩
  · have hne : ((zs.length : Int) != (ys.length : Int)) = true := by simp; omega
    have hz : ¬ zs = ys := fun e => hlen (by rw [e])
    have HZ := Lib.hid hz
    clear hz
    go_enter Tryz.func114, Tryz.ntmps114
    go_wp2
    go_ret
    exact ⟨by simp [HZ.out], 0, rfl⟩
set_option maxHeartbeats 1000000 in
theorem itSame_any (v1 v2 : Value) (xs ys : List ItemD) (w : World) (h1 : ItemsAt w v1 xs) (h2 : ItemsAt w v2 ys) :
    Calls Tryz.prog 94 #[v1, v2] w fun e w' => e = .returned (.bool (decide (xs.map ItemD.names = ys.map ItemD.names))) ∧ Kept w w' := by
  obtain ⟨A, c, cs, rfl, hnc, hcm, hA⟩ := h1.out
  obtain ⟨A', c', cs', rfl, hnc', hcm', hA'⟩ := h2.out
  unfold maxLen at hcm hcm'
  have HA := Lib.hid hA
  have HA' := Lib.hid hA'
  clear hA h1 hA' h2
  by_cases hlen : xs.length = ys.length
  · have hne : ((xs.length : Int) != (ys.length : Int)) = false := by simp [hlen]
    have HN := Lib.hid hlen
    clear hlen
    go_enter Tryz.func94, Tryz.ntmps94
    go_wp2_with fail
    go_loopw [13] (fun i wr => ∃ k : Nat, k ≤ xs.length ∧ i = .int .i64 k ∧ (xs.take k).map ItemD.names = (ys.take k).map ItemD.names ∧ Kept w wr) (fun i _ => xs.length - (intOf i).toNat)
    case atStart => exact ⟨0, Nat.zero_le _, rfl, rfl, Kept.refl _⟩
    case round =>
      obtain ⟨k, hk, rfl, ht, hkept⟩ := hrel
      have HT := Lib.hid ht
      clear ht
      by_cases hlt : k < xs.length
      · have hlt2 : k < ys.length := by rw [← HN.out]; exact hlt
        obtain ⟨b, o, A1, c1, A2, c2, it, rfl, hb, h2, h3, hit, q0, q1, q2⟩ := items_at (HA.out.kept hkept) hlt
        obtain ⟨b', o', A1', c1', A2', c2', it', rfl, hb', h2', h3', hit', q0', q1', q2'⟩ := items_at (HA'.out.kept hkept) hlt2
        obtain ⟨nv, mv, ee, r1, _⟩ := hit
        obtain ⟨nv', mv', ee', r1', _⟩ := hit'
        simp only [Value.agg.injEq] at ee ee'
        simp at ee ee'
        obtain ⟨rfl, _⟩ := ee
        obtain ⟨rfl, _⟩ := ee'
        have HZ := Lib.hid h2
        have HZ' := Lib.hid h2'
        have S1 := Lib.hid r1
        have S1' := Lib.hid r1'
        clear h2 h2' h3 h3' q1 q2 q1' q2' r1 r1'
        by_cases hn : it.names = it'.names
        · have hd : decide (it.names = it'.names) = true := by simp [hn]
          have HNN := Lib.hid hn
          have HD := Lib.hid hd
          clear hn hd
          go_wp2_with fail
          go_quiet ((go_at_call 121; exact quietB (v := .bool true) ((l1SameS_any _ _ _ _ _ (S1.out.kept ((Kept.refl wr).drewN _)) (S1'.out.kept ((Kept.refl wr).drewN _))).mono fun e w' h => ⟨h.1.trans (by rw [HD.out]), h.2⟩)))
          go_wp2_with fail
          go_roundw
          case rel => exact ⟨k + 1, by omega, by go_num, by rw [take_snoc HZ.out, take_snoc HZ'.out, List.map_append, List.map_append, HT.out]; simp [HNN.out], hkept.drewN _⟩
          case measure => simp [intOf]; omega
        · have hd : decide (it.names = it'.names) = false := by simp [hn]
          have HNN := Lib.hid hn
          have HD := Lib.hid hd
          clear hn hd
          go_wp2_with fail
          go_quiet ((go_at_call 121; exact quietB (v := .bool false) ((l1SameS_any _ _ _ _ _ (S1.out.kept ((Kept.refl wr).drewN _)) (S1'.out.kept ((Kept.refl wr).drewN _))).mono fun e w' h => ⟨h.1.trans (by rw [HD.out]), h.2⟩)))
          go_wp2_with fail
          go_ret
          refine ⟨?_, hkept.drewN _⟩
          have : ¬ xs.map ItemD.names = ys.map ItemD.names := fun e => by
            have e1 : (xs.map ItemD.names)[k]? = (ys.map ItemD.names)[k]? := by rw [e]
            rw [List.getElem?_map, List.getElem?_map, HZ.out, HZ'.out] at e1
            simp at e1
            exact HNN.out e1
          simp [this]
      · obtain rfl : k = xs.length := by omega
        go_wp2_with fail
        go_ret
        refine ⟨?_, hkept⟩
        have e := HT.out
        rw [List.take_of_length_le (Nat.le_refl _), List.take_of_length_le (by rw [HN.out]; exact Nat.le_refl _)] at e
        simp [e]
  · have hne : ((xs.length : Int) != (ys.length : Int)) = true := by simp; omega
    have hz : ¬ xs.map ItemD.names = ys.map ItemD.names := fun e => hlen (by have := congrArg List.length e; simpa using this)
    have HZ := Lib.hid hz
    clear hz
    go_enter Tryz.func94, Tryz.ntmps94
    go_wp2_with fail
    go_ret
    exact ⟨by simp [HZ.out], Kept.refl _⟩
set_option maxHeartbeats 1000000 in
theorem sameNames_any (v1 v2 : Value) (xs ys : List ItemD) (w : World) (h1 : ItemsAt w v1 xs) (h2 : ItemsAt w v2 ys) :
    Calls Tryz.prog 83 #[v1, v2] w fun e w' => e = .returned (.bool (decide (xs.map ItemD.names = ys.map ItemD.names))) ∧ Kept w w' := by
  obtain ⟨A, c, cs, rfl, hnc, hcm, hA⟩ := h1.out
  obtain ⟨A', c', cs', rfl, hnc', hcm', hA'⟩ := h2.out
  unfold maxLen at hcm hcm'
  have HA := Lib.hid hA
  have HA' := Lib.hid hA'
  clear hA h1 hA' h2
  by_cases hlen : xs.length = ys.length
  · have hne : ((xs.length : Int) != (ys.length : Int)) = false := by simp [hlen]
    have HN := Lib.hid hlen
    clear hlen
    go_enter Tryz.func83, Tryz.ntmps83
    go_wp2_with fail
    go_loopw [13] (fun i wr => ∃ k : Nat, k ≤ xs.length ∧ i = .int .i64 k ∧ (xs.take k).map ItemD.names = (ys.take k).map ItemD.names ∧ Kept w wr) (fun i _ => xs.length - (intOf i).toNat)
    case atStart => exact ⟨0, Nat.zero_le _, rfl, rfl, Kept.refl _⟩
    case round =>
      obtain ⟨k, hk, rfl, ht, hkept⟩ := hrel
      have HT := Lib.hid ht
      clear ht
      by_cases hlt : k < xs.length
      · have hlt2 : k < ys.length := by rw [← HN.out]; exact hlt
        obtain ⟨b, o, A1, c1, A2, c2, it, rfl, hb, h2, h3, hit, q0, q1, q2⟩ := items_at (HA.out.kept hkept) hlt
        obtain ⟨b', o', A1', c1', A2', c2', it', rfl, hb', h2', h3', hit', q0', q1', q2'⟩ := items_at (HA'.out.kept hkept) hlt2
        obtain ⟨nv, mv, ee, r1, _⟩ := hit
        obtain ⟨nv', mv', ee', r1', _⟩ := hit'
        simp only [Value.agg.injEq] at ee ee'
        simp at ee ee'
        obtain ⟨rfl, _⟩ := ee
        obtain ⟨rfl, _⟩ := ee'
        have HZ := Lib.hid h2
        have HZ' := Lib.hid h2'
        have S1 := Lib.hid r1
        have S1' := Lib.hid r1'
        clear h2 h2' h3 h3' q1 q2 q1' q2' r1 r1'
        by_cases hn : it.names = it'.names
        · have hd : decide (it.names = it'.names) = true := by simp [hn]
          have HNN := Lib.hid hn
          have HD := Lib.hid hd
          clear hn hd
          go_wp2_with fail
          go_quiet ((go_at_call 114; exact quietB (v := .bool true) ((equalS_any _ _ _ _ _ (S1.out.kept ((Kept.refl wr).drewN _)) (S1'.out.kept ((Kept.refl wr).drewN _))).mono fun e w' h => ⟨h.1.trans (by rw [HD.out]), h.2⟩)))
          go_wp2_with fail
          go_roundw
          case rel => exact ⟨k + 1, by omega, by go_num, by rw [take_snoc HZ.out, take_snoc HZ'.out, List.map_append, List.map_append, HT.out]; simp [HNN.out], hkept.drewN _⟩
          case measure => simp [intOf]; omega
        · have hd : decide (it.names = it'.names) = false := by simp [hn]
          have HNN := Lib.hid hn
          have HD := Lib.hid hd
          clear hn hd
          go_wp2_with fail
          go_quiet ((go_at_call 114; exact quietB (v := .bool false) ((equalS_any _ _ _ _ _ (S1.out.kept ((Kept.refl wr).drewN _)) (S1'.out.kept ((Kept.refl wr).drewN _))).mono fun e w' h => ⟨h.1.trans (by rw [HD.out]), h.2⟩)))
          go_wp2_with fail
          go_ret
          refine ⟨?_, hkept.drewN _⟩
          have : ¬ xs.map ItemD.names = ys.map ItemD.names := fun e => by
            have e1 : (xs.map ItemD.names)[k]? = (ys.map ItemD.names)[k]? := by rw [e]
            rw [List.getElem?_map, List.getElem?_map, HZ.out, HZ'.out] at e1
            simp at e1
            exact HNN.out e1
          simp [this]
      · obtain rfl : k = xs.length := by omega
        go_wp2_with fail
        go_ret
        refine ⟨?_, hkept⟩
        have e := HT.out
        rw [List.take_of_length_le (Nat.le_refl _), List.take_of_length_le (by rw [HN.out]; exact Nat.le_refl _)] at e
        simp [e]
  · have hne : ((xs.length : Int) != (ys.length : Int)) = true := by simp; omega
    have hz : ¬ xs.map ItemD.names = ys.map ItemD.names := fun e => hlen (by have := congrArg List.length e; simpa using this)
    have HZ := Lib.hid hz
    clear hz
    go_enter Tryz.func83, Tryz.ntmps83
    go_wp2_with fail
    go_ret
    exact ⟨by simp [HZ.out], Kept.refl _⟩
def sameV (xs ys : List ItemD) : Bool := itemsB xs && itemsB ys && decide (xs.map ItemD.names = ys.map ItemD.names)
theorem specSameCalls_any (v1 : Value) (xs : List ItemD) (v2 : Value) (ys : List ItemD) (w : World) (h1 : ItemsAt w v1 xs) (h2 : ItemsAt w v2 ys) :
    Calls Tryz.prog 43 #[v1, v2] w fun e w' => e = .returned (.tuple #[.bool (sameV xs ys), .bool (itemsB xs && itemsB ys)]) ∧ Kept w w' := by
  have H1 := Lib.hid h1
  have H2 := Lib.hid h2
  clear h1 h2
  by_cases b1 : itemsB xs = true <;> by_cases b2 : itemsB ys = true
  all_goals
    (try simp only [Bool.not_eq_true] at b1)
    (try simp only [Bool.not_eq_true] at b2)
    go_enter Tryz.func43, Tryz.ntmps43
    go_wp2_with fail
    refine (itList_any _ xs _ H1.out).mono ?_
    rintro e w1 ⟨rfl, k1⟩
    rw [b1]
    go_wp2_with fail
  · refine (itList_any _ ys _ (H2.out.kept k1)).mono ?_
    rintro e w2 ⟨rfl, k2⟩
    rw [b2]
    go_wp2_with fail
    refine (itSame_any _ _ xs ys _ ((H1.out.kept k1).kept k2) ((H2.out.kept k1).kept k2)).mono ?_
    rintro e w3 ⟨rfl, k3⟩
    go_wp2_with fail
    go_ret2
    exact ⟨by simp [sameV, b1, b2], (k1.trans k2).trans k3⟩
  · refine (itList_any _ ys _ (H2.out.kept k1)).mono ?_
    rintro e w2 ⟨rfl, k2⟩
    rw [b2]
    go_wp2_with fail
    go_ret2
    exact ⟨by simp [sameV, b1, b2], k1.trans k2⟩
  all_goals
    go_ret2
    exact ⟨by simp [sameV, b1, b2], k1⟩
theorem implSameCalls_any (v1 : Value) (xs : List ItemD) (v2 : Value) (ys : List ItemD) (w : World) (h1 : ItemsAt w v1 xs) (h2 : ItemsAt w v2 ys) :
    Calls Tryz.prog 29 #[v1, v2] w fun e w' => e = .returned (.tuple #[.bool (sameV xs ys), .bool (itemsB xs && itemsB ys)]) ∧ Kept w w' := by
  have H1 := Lib.hid h1
  have H2 := Lib.hid h2
  clear h1 h2
  by_cases b1 : itemsB xs = true <;> by_cases b2 : itemsB ys = true
  all_goals
    (try simp only [Bool.not_eq_true] at b1)
    (try simp only [Bool.not_eq_true] at b2)
    go_enter Tryz.func29, Tryz.ntmps29
    go_wp2_with fail
    refine (areItems_any _ xs _ H1.out).mono ?_
    rintro e w1 ⟨rfl, k1⟩
    rw [b1]
    go_wp2_with fail
  · refine (areItems_any _ ys _ (H2.out.kept k1)).mono ?_
    rintro e w2 ⟨rfl, k2⟩
    rw [b2]
    go_wp2_with fail
    refine (sameNames_any _ _ xs ys _ ((H1.out.kept k1).kept k2) ((H2.out.kept k1).kept k2)).mono ?_
    rintro e w3 ⟨rfl, k3⟩
    go_wp2_with fail
    go_ret2
    exact ⟨by simp [sameV, b1, b2], (k1.trans k2).trans k3⟩
  · refine (areItems_any _ ys _ (H2.out.kept k1)).mono ?_
    rintro e w2 ⟨rfl, k2⟩
    rw [b2]
    go_wp2_with fail
    go_ret2
    exact ⟨by simp [sameV, b1, b2], k1.trans k2⟩
  all_goals
    go_ret2
    exact ⟨by simp [sameV, b1, b2], k1⟩
end Go.Proofs.YtkekpolfdmmgeaaGreatDoor

/- FnNotation: plain facts: a text says its items back, cleaned items are the same calls, names are in order. -/
namespace Go.Proofs.YtkekpolfdmmgeaaGreatDoor
set_option linter.unusedVariables false
set_option linter.unusedSimpArgs false
open Go.RowKit

theorem text_back {its : List ItemD} (h : itemsB its = true) : psB (itsV its) = true ∧ psL (itsV its) = its := by
  obtain ⟨h1, h2⟩ := psV_txt h
  rw [itsV_yes h]
  exact ⟨h1, h2⟩
theorem its_small {its : List ItemD} (h : itemsB its = true) : (itsV its).size ≤ 1048576 := by
  rw [itsV_yes h, tx_size, ← lnT_all]
  unfold itemsB at h
  rw [Bool.and_eq_true] at h
  have h2 := of_decide_eq_true h.2
  have := lnT_size (fun it hi => List.all_eq_true.1 h.1 it hi) its.length (Nat.le_refl _)
  omega
theorem itext_back {it : ItemD} (h : itemB it = true) : piB (itV it) = true ∧ piV (itV it) = it := by
  rw [itV_yes h]
  have e : itP (itT it).data.toList = it := itP_Txt h
  have hb : piB (itT it) = true := by unfold piB; rw [e]; exact h
  exact ⟨hb, by rw [piV_yes hb, e]⟩
theorem cleaned_valid {its : List ItemD} (h : itemsB its = true) : itemsB (cleaned its) = true := by
  have h0 := h
  unfold itemsB at h ⊢
  rw [Bool.and_eq_true] at h ⊢
  exact ⟨cleaned_itemB h.1, by rw [cleaned_length]; exact h.2⟩
theorem cleaned_same {its : List ItemD} (h : itemsB its = true) : sameV its (cleaned its) = true := by
  unfold sameV
  rw [h, cleaned_valid h]
  have : (cleaned its).map ItemD.names = its.map ItemD.names := by
    unfold cleaned
    rw [List.map_map]
    exact List.map_congr_left fun x _ => rfl
  rw [this]
  simp
theorem niV_lt {its : List ItemD} (h : itemsB its = true) {k : Nat} {x y : ByteArray} (hx : (niV its)[k]? = some x) (hy : (niV its)[k + 1]? = some y) : nlt x y = true := by
  rw [niV_yes h] at hx hy
  unfold namesD at hx hy
  rw [List.getElem?_map] at hx hy
  obtain ⟨a, ha, rfl⟩ := Option.map_eq_some_iff.1 hx
  obtain ⟨b, hb, rfl⟩ := Option.map_eq_some_iff.1 hy
  rw [nlt_iff, bl_bs, bl_bs]
  have hs := (compact_sort ((allN its).map bl)).1
  obtain ⟨h1, rfl⟩ := List.getElem?_eq_some_iff.1 ha
  obtain ⟨h2, rfl⟩ := List.getElem?_eq_some_iff.1 hb
  exact List.pairwise_iff_getElem.1 hs k (k + 1) h1 h2 (by omega)
theorem niV_short {its : List ItemD} (h : itemsB its = true) : (niV its).length ≤ 42 := by
  rw [niV_yes h]
  have h1 : (namesD (allN its)).length ≤ (allN its).length := by
    unfold namesD
    rw [List.length_map]
    refine Nat.le_trans names_len ?_
    unfold sortL
    rw [List.length_mergeSort, List.length_map]
    exact Nat.le_refl _
  unfold itemsB at h
  rw [Bool.and_eq_true] at h
  have h2 := of_decide_eq_true h.2
  have := allN_len (fun it hi => List.all_eq_true.1 h.1 it hi)
  omega
theorem nlt_asym {x y : ByteArray} (h : nlt x y = true) : nlt y x = false ∧ x ≠ y := by
  rw [nlt_iff] at h
  refine ⟨?_, fun e => ?_⟩
  · cases hb : nlt y x with
    | false => rfl
    | true => exact absurd (List.lt_trans h ((nlt_iff _ _).1 hb)) (List.lt_irrefl _)
  · subst e
    exact List.lt_irrefl _ h
end Go.Proofs.YtkekpolfdmmgeaaGreatDoor

/- Draws: bytes given, a cursor over them, its choices. -/
namespace Go.Proofs.YtkekpolfdmmgeaaGreatDoor
set_option linter.unusedVariables false
set_option linter.unusedSimpArgs false
set_option linter.unnecessarySimpa false
open Go.RowKit

def BytA (w : World) (p : Nat) (A : Option Addr) (n : Nat) : Prop := 0 < n → ∃ b o, A = some ⟨b, o, none⟩ ∧ b < w.heap.size ∧ b < p ∧ ∀ j, j < n → ∃ z : Int, 0 ≤ z ∧ z ≤ 255 ∧ w.cell? ⟨b, o + j, none⟩ = some (.int .u8 z)
theorem Only.cell {S : List Nat} {w w' : World} (h : Only S w w') {p : Addr} (hp : p.block < w.heap.size) (hn : p.block ∉ S) : w'.cell? p = w.cell? p := World.cell?_of_block (w := w) (h.block p.block hp hn)
theorem BytA.only {w w' : World} {p : Nat} {A : Option Addr} {n : Nat} {S : List Nat} (h : BytA w p A n) (ho : Only S w w') (hS : ∀ x ∈ S, x = p ∨ w.heap.size ≤ x) : BytA w' p A n := by
  intro hn
  obtain ⟨b, o, e, hb, hp, hc⟩ := h hn
  refine ⟨b, o, e, Nat.lt_of_lt_of_le hb ho.size, hp, fun j hj => ?_⟩
  obtain ⟨z, h0, h1, hz⟩ := hc j hj
  refine ⟨z, h0, h1, (ho.cell (p := ⟨b, o + j, none⟩) hb (fun hx => ?_)).trans hz⟩
  rcases hS b hx with rfl | hge
  · omega
  · omega
/-- a cursor at p: at most m bytes have been read -/
def Cur (w : World) (p m : Nat) : Prop := ∃ (A : Option Addr) (n c at_ : Nat) (seed : Int), Box w p 86 #[.slice A n c, .int .i64 at_, .int .u64 seed] ∧ at_ ≤ m ∧ n ≤ c ∧ c ≤ maxLen ∧ BytA w p A n
theorem Cur.lt {w : World} {p m : Nat} (h : Cur w p m) : p < w.heap.size := by obtain ⟨_, _, _, _, _, hB, _⟩ := h; exact hB.lt
theorem Cur.le {w : World} {p m m' : Nat} (h : Cur w p m) (hm : m ≤ m') : Cur w p m' := by
  obtain ⟨A, n, c, a, s, hB, h1, h2⟩ := h
  exact ⟨A, n, c, a, s, hB, Nat.le_trans h1 hm, h2⟩
theorem Cur.kept {w w' : World} {p m : Nat} (h : Cur w p m) (k : Kept w w') : Cur w' p m := by
  obtain ⟨A, n, c, a, s, hB, h1, h2, h3, h4⟩ := h
  exact ⟨A, n, c, a, s, hB.kept k, h1, h2, h3, h4.only (k.only []) (fun x hx => by cases hx)⟩
theorem Cur.far {w w' : World} {p m : Nat} {S : List Nat} (h : Cur w p m) (k : Only S w w') (hS : ∀ x ∈ S, p < x) : Cur w' p m := by
  obtain ⟨A, n, c, a, s, hB, h1, h2, h3, h4⟩ := h
  refine ⟨A, n, c, a, s, hB.only k (fun hx => by have := hS p hx; omega), h1, h2, h3, fun hn => ?_⟩
  obtain ⟨b, o, e, hb, hp, hc⟩ := h4 hn
  refine ⟨b, o, e, Nat.lt_of_lt_of_le hb k.size, hp, fun j hj => ?_⟩
  obtain ⟨z, q0, q1, hz⟩ := hc j hj
  exact ⟨z, q0, q1, (k.cell (p := ⟨b, o + j, none⟩) hb (fun hx => by have := hS b hx; omega)).trans hz⟩
theorem Only.overD {w a b : World} {p : Nat} {S : List Nat} (h : Only [p] w a) (k : Only S a b) (hS : ∀ x ∈ S, w.heap.size ≤ x) : Only [p] w b :=
  ⟨k.os.trans h.os, k.tape.trans h.tape, k.output.trans h.output, Nat.le_trans h.size k.size, fun i hi hn => (k.block i (Nat.lt_of_lt_of_le hi h.size) (fun hx => by have := hS i hx; omega)).trans (h.block i hi hn)⟩
theorem OwnI.drawn {w w' : World} {p base : Nat} {v : Value} {zs : List Int} (h : OwnI w base v zs) (on : Only [p] w w') (hp : p < base) : OwnI w' base v zs :=
  h.only on (fun b hb hm => by rw [List.mem_singleton] at hm; have := (own_fp h b hb).1; omega)
theorem OwnS.drawn {w w' : World} {p base : Nat} {v : Value} {zs : List ByteArray} (h : OwnS w base v zs) (on : Only [p] w w') (hp : p < base) : OwnS w' base v zs :=
  h.only on (fun b hb hm => by rw [List.mem_singleton] at hm; have := (own_fp h.1 b hb).1; omega)
def lenV : Value → Nat
  | .slice _ n _ => n
  | _ => 0
theorem lenV_own {w : World} {base : Nat} {e : TypeId} {size : Nat} {v : Value} {n : Nat} {xs : List Value} (h : w.ownsRow base e size v n xs) : lenV v = n := by
  obtain ⟨A, c, rfl, _⟩ := own_form h
  rfl
theorem and255 (x : Int) : 0 ≤ bits .and .u64 x 255 ∧ bits .and .u64 x 255 ≤ 255 := by
  have h : ∀ a : BitVec 64, 0 ≤ IntKind.u64.wrap ((a &&& BitVec.ofInt 64 255).toNat) ∧ IntKind.u64.wrap ((a &&& BitVec.ofInt 64 255).toNat) ≤ 255 := fun a => by
    have h1 : (a &&& BitVec.ofInt 64 255).toNat ≤ 255 := by
      rw [BitVec.toNat_and]
      exact Nat.and_le_right
    have h2 : IntKind.u64.wrap (((a &&& BitVec.ofInt 64 255).toNat : Nat) : Int) = ((a &&& BitVec.ofInt 64 255).toNat : Nat) := IntWalk.u64_in _ (by omega)
    rw [h2]
    omega
  exact h _
theorem and255w (x : Int) : 0 ≤ wrap64 (bits .and .u64 x 255) ∧ wrap64 (bits .and .u64 x 255) ≤ 255 := by
  have h := and255 x
  rw [IntWalk.wrap64_in _ (by omega)]
  exact h
theorem next_any (p m : Nat) (w : World) (h : Cur w p m) (hm : m ≤ 1000000000000) :
    Calls Tryz.prog 103 #[.pointer (some ⟨p, 0, none⟩)] w fun e w' => ∃ x : Int, e = .returned (.int .i64 x) ∧ (0 ≤ x ∧ x ≤ 255) ∧ Cur w' p (m + 1) ∧ Only [p] w w' := by
  obtain ⟨A, n, c, at_, seed, hB, hat, hnc, hcm, hby⟩ := h
  obtain ⟨x0, y0⟩ := hB.three
  have hl := hB.lt
  have HB := Lib.hid hB
  have HBY := Lib.hid hby
  unfold maxLen at hcm
  have HC : Hid (∀ (a b : Nat) (s1 : Int), Cur ((((w.drewN a).setCell ⟨p, 1, none⟩ (.int .i64 ((at_ : Int) + 1))).setCell ⟨p, 2, none⟩ (.int .u64 s1)).drewN b) p (m + 1) ∧ Only [p] w ((((w.drewN a).setCell ⟨p, 1, none⟩ (.int .i64 ((at_ : Int) + 1))).setCell ⟨p, 2, none⟩ (.int .u64 s1)).drewN b)) := Lib.hid (fun a b s1 => by
    have ho : Only [p] w ((((w.drewN a).setCell ⟨p, 1, none⟩ (.int .i64 ((at_ : Int) + 1))).setCell ⟨p, 2, none⟩ (.int .u64 s1)).drewN b) := ((((Only.refl [p] w).drewN a).setCell (by simp) _).setCell (by simp) _).drewN b
    exact ⟨⟨A, n, c, at_ + 1, s1, (((HB.out.drewN a).set 1 _).set 2 _).drewN b, by omega, hnc, by unfold maxLen; omega, HBY.out.only ho (fun x hx => by rw [List.mem_singleton] at hx; exact .inl hx)⟩, ho⟩)
  clear hB hby
  by_cases hlt : at_ < n
  · obtain ⟨b, o, rfl, hbl, hbp, hc⟩ := HBY.out (by omega)
    obtain ⟨z, hz0, hz1, hx⟩ := hc at_ hlt
    have hle : (at_ : Int) + 1 ≤ (n : Int) := by omega
    clear hc
    go_enter Tryz.func103, Tryz.ntmps103
    go_wp2_with fail
    go_quiet (fail)
    go_wp2_with fail
    go_quiet (fail)
    go_wp2_with fail
    go_quiet (fail)
    go_wp2_with fail
    go_ret
    exact ⟨_, rfl, ⟨hz0, hz1⟩, (HC.out _ _ _).1, (HC.out _ _ _).2⟩
  · have hle : ¬ (at_ : Int) + 1 ≤ (n : Int) := by omega
    go_enter Tryz.func103, Tryz.ntmps103
    go_wp2_with fail
    go_quiet (fail)
    go_wp2_with fail
    go_quiet (fail)
    go_wp2_with fail
    go_ret
    exact ⟨_, rfl, and255w _, (HC.out _ _ _).1, (HC.out _ _ _).2⟩
theorem pick_any (p m : Nat) (n : Int) (w : World) (h : Cur w p m) (hm : m ≤ 100000000000) (hn : n ≤ 1000000000) :
    Calls Tryz.prog 55 #[.pointer (some ⟨p, 0, none⟩), .int .i64 n] w fun e w' => ∃ x : Int, e = .returned (.int .i64 x) ∧ (0 ≤ x ∧ (1 ≤ n → x < n)) ∧ Cur w' p (m + 2) ∧ Only [p] w w' := by
  have HC := Lib.hid h
  clear h
  by_cases h1 : n ≤ 1
  · go_enter Tryz.func55, Tryz.ntmps55
    go_wp2_with fail
    go_ret
    exact ⟨_, rfl, ⟨by omega, by omega⟩, HC.out.le (by omega), Only.refl _ _⟩
  · have C1 := Lib.hid (next_any p m w HC.out (by omega))
    by_cases h2 : 200 < n
    · go_enter Tryz.func55, Tryz.ntmps55
      go_wp2_with fail
      refine (C1.out).mono ?_
      rintro e w1 ⟨x, rfl, ⟨hx0, hx1⟩, c1, on1⟩
      have C2 := Lib.hid (next_any p (m + 1) w1 c1 (by omega))
      have ON1 := Lib.hid on1
      clear c1 on1
      go_wp2_with fail
      refine (C2.out).mono ?_
      rintro e w2 ⟨y, rfl, ⟨hy0, hy1⟩, c2, on2⟩
      have C3 := Lib.hid c2
      have ON2 := Lib.hid on2
      clear c2 on2
      go_wp2_with fail
      go_ret
      exact ⟨_, rfl, ⟨Int.emod_nonneg _ (by omega), fun _ => Int.emod_lt_of_pos _ (by omega)⟩, C3.out, ON1.out.trans ON2.out⟩
    · go_enter Tryz.func55, Tryz.ntmps55
      go_wp2_with fail
      refine (C1.out).mono ?_
      rintro e w1 ⟨x, rfl, ⟨hx0, hx1⟩, c1, on1⟩
      have C2 := Lib.hid (c1.le (m' := m + 2) (by omega))
      have ON1 := Lib.hid on1
      clear c1 on1
      go_wp2_with fail
      go_ret
      exact ⟨_, rfl, ⟨Int.emod_nonneg _ (by omega), fun _ => Int.emod_lt_of_pos _ (by omega)⟩, C2.out, ON1.out⟩
theorem one_any (p m : Nat) (n : Int) (w : World) (h : Cur w p m) (hm : m ≤ 100000000000) (hn : n ≤ 1000000000) :
    Calls Tryz.prog 61 #[.pointer (some ⟨p, 0, none⟩), .int .i64 n] w fun e w' => ∃ b : Bool, e = .returned (.bool b) ∧ Cur w' p (m + 2) ∧ Only [p] w w' := by
  have C := Lib.hid (pick_any p m n w h hm hn)
  clear h
  go_enter Tryz.func61, Tryz.ntmps61
  go_wp2_with fail
  refine (C.out).mono ?_
  rintro e w1 ⟨x, rfl, ⟨hx0, hx1⟩, c1, on1⟩
  have C2 := Lib.hid c1
  have ON1 := Lib.hid on1
  clear c1 on1
  go_wp2_with fail
  go_ret
  exact ⟨_, rfl, C2.out, ON1.out⟩
/-- a row that the cursor does not touch -/
theorem SeqA.only {S : List Nat} {w w' : World} {A : Option Addr} {n : Nat} {xs : List Value} (h : SeqA w A n xs) (ho : Only S w w') (hd : ∀ a, A = some a → a.block ∉ S) : SeqA w' A n xs := by
  intro hn
  obtain ⟨b, o, e, hb, hc⟩ := h hn
  exact ⟨b, o, e, Nat.lt_of_lt_of_le hb ho.size, fun j u hu => (ho.cell (p := ⟨b, o + j, none⟩) hb (hd ⟨b, o, none⟩ e)).trans (hc j u hu)⟩
theorem among_any (p m : Nat) (A : Option Addr) (k c : Nat) (zs : List Int) (w : World) (h : Cur w p m) (hm : m ≤ 100000000000) (hz : Ints w (.slice A k c) zs) (hk : k = zs.length) (h0 : 0 < zs.length) (h1 : zs.length ≤ 1000000) (hd : ∀ a, A = some a → a.block ≠ p) :
    Calls Tryz.prog 56 #[.pointer (some ⟨p, 0, none⟩), .slice A k c] w fun e w' => ∃ x : Int, e = .returned (.int .i64 x) ∧ x ∈ zs ∧ Cur w' p (m + 2) ∧ Only [p] w w' := by
  subst hk
  have C := Lib.hid (pick_any p m zs.length w h hm (by omega))
  have HA := Lib.hid hz.addr
  obtain ⟨_, _, e, hnc, hcm, _⟩ := hz.out
  cases e
  unfold maxLen at hcm
  clear h hz
  have HD := Lib.hid hd
  clear hd
  go_enter Tryz.func56, Tryz.ntmps56
  go_wp2_with fail
  refine (C.out).mono ?_
  rintro e w1 ⟨x, rfl, ⟨hx0, hx1⟩, c1, on1⟩
  obtain ⟨k, rfl⟩ : ∃ k : Nat, x = (k : Int) := ⟨x.toNat, by omega⟩
  have hk : k < zs.length := by have := hx1 (by omega); omega
  obtain ⟨b, o, z, rfl, hb, hzk, hc⟩ := ints_at (HA.out.only on1 (fun a ha hx => HD.out a ha (List.mem_singleton.1 hx))) hk
  have HM := Lib.hid (List.mem_of_getElem? hzk)
  have C2 := Lib.hid c1
  have ON1 := Lib.hid on1
  clear c1 on1 hzk hx1
  go_wp2_with fail
  go_ret
  exact ⟨_, rfl, HM.out, C2.out, ON1.out⟩
theorem of_any (p m : Nat) (A : Option Addr) (k c : Nat) (zs : List ByteArray) (w : World) (h : Cur w p m) (hm : m ≤ 100000000000) (hz : Strs w (.slice A k c) zs) (hk : k = zs.length) (h0 : 0 < zs.length) (h1 : zs.length ≤ 1000000) (hd : ∀ a, A = some a → a.block ≠ p) :
    Calls Tryz.prog 54 #[.pointer (some ⟨p, 0, none⟩), .slice A k c] w fun e w' => ∃ x : ByteArray, e = .returned (.string x) ∧ x ∈ zs ∧ Cur w' p (m + 2) ∧ Only [p] w w' := by
  subst hk
  have C := Lib.hid (pick_any p m zs.length w h hm (by omega))
  have HA := Lib.hid hz.1.addr
  obtain ⟨_, _, e, hnc, hcm, _⟩ := hz.1.out
  cases e
  unfold maxLen at hcm
  clear h hz
  have HD := Lib.hid hd
  clear hd
  go_enter Tryz.func54, Tryz.ntmps54
  go_wp2_with fail
  refine (C.out).mono ?_
  rintro e w1 ⟨x, rfl, ⟨hx0, hx1⟩, c1, on1⟩
  obtain ⟨k, rfl⟩ : ∃ k : Nat, x = (k : Int) := ⟨x.toNat, by omega⟩
  have hk : k < zs.length := by have := hx1 (by omega); omega
  obtain ⟨b, o, z, rfl, hb, hzk, hc⟩ := strs_at (HA.out.only on1 (fun a ha hx => HD.out a ha (List.mem_singleton.1 hx))) hk
  have HM := Lib.hid (List.mem_of_getElem? hzk)
  have C2 := Lib.hid c1
  have ON1 := Lib.hid on1
  clear c1 on1 hzk hx1
  go_wp2_with fail
  go_ret
  exact ⟨_, rfl, HM.out, C2.out, ON1.out⟩
end Go.Proofs.YtkekpolfdmmgeaaGreatDoor

/- Draws of numbers, fractions and lists of numbers. -/
namespace Go.Proofs.YtkekpolfdmmgeaaGreatDoor
set_option linter.unusedVariables false
set_option linter.unusedSimpArgs false
set_option linter.unnecessarySimpa false
open Go.RowKit

/-- a slice of bytes is given -/
def Byts (w : World) (v : Value) : Prop := ∃ (A : Option Addr) (n c : Nat), v = .slice A n c ∧ n ≤ c ∧ c ≤ maxLen ∧ (0 < n → ∃ b o, A = some ⟨b, o, none⟩ ∧ b < w.heap.size ∧ ∀ j, j < n → ∃ z : Int, 0 ≤ z ∧ z ≤ 255 ∧ w.cell? ⟨b, o + j, none⟩ = some (.int .u8 z))
theorem Byts.kept {w w' : World} {v : Value} (h : Byts w v) (k : Kept w w') : Byts w' v := by
  obtain ⟨A, n, c, rfl, h1, h2, h3⟩ := h
  refine ⟨A, n, c, rfl, h1, h2, fun hn => ?_⟩
  obtain ⟨b, o, e, hb, hc⟩ := h3 hn
  refine ⟨b, o, e, Nat.lt_of_lt_of_le hb k.size, fun j hj => ?_⟩
  obtain ⟨z, q0, q1, hz⟩ := hc j hj
  exact ⟨z, q0, q1, (k.cell (p := ⟨b, o + j, none⟩) hb).trans hz⟩
theorem Cur.init {w : World} {A : Option Addr} {n c : Nat} (hnc : n ≤ c) (hcm : c ≤ maxLen) (hb : 0 < n → ∃ b o, A = some ⟨b, o, none⟩ ∧ b < w.heap.size ∧ ∀ j, j < n → ∃ z : Int, 0 ≤ z ∧ z ≤ 255 ∧ w.cell? ⟨b, o + j, none⟩ = some (.int .u8 z)) :
    Cur (w.alloc (.cells #[.slice A n c, .int .i64 0, .int .u64 0] 86)) w.heap.size 0 := by
  have k : Kept w (w.alloc (.cells #[.slice A n c, .int .i64 0, .int .u64 0] 86)) := (Kept.refl w).alloc _
  refine ⟨A, n, c, 0, 0, Box.new w _ _ _ rfl, Nat.le_refl _, hnc, hcm, fun hn => ?_⟩
  obtain ⟨b, o, e, hbl, hc⟩ := hb hn
  refine ⟨b, o, e, Nat.lt_of_lt_of_le hbl k.size, hbl, fun j hj => ?_⟩
  obtain ⟨z, q0, q1, hz⟩ := hc j hj
  exact ⟨z, q0, q1, (k.cell (p := ⟨b, o + j, none⟩) hbl).trans hz⟩
theorem ints_lit {w : World} {g : Nat} {t : TypeId} {cs : Array Value} (zs : List Int) (h : Box w g t cs) (hc : cs = (zs.map (Value.int .i64)).toArray) (hl : zs.length ≤ 1000) : Ints w (.slice (some ⟨g, 0, none⟩) zs.length zs.length) zs :=
  ⟨_, zs.length, rfl, Nat.le_refl _, by unfold maxLen; omega, (fun h => by cases h), fun _ => ⟨g, 0, rfl, h.lt, fun j u hu => by
    rw [Nat.zero_add, h.cell j, ← hu, hc]
    exact List.getElem?_toArray⟩⟩
theorem strs_lit {w : World} {g : Nat} {t : TypeId} {cs : Array Value} (zs : List ByteArray) (h : Box w g t cs) (hc : cs = (zs.map Value.string).toArray) (hl : zs.length ≤ 1000) (hs : zs.all (fun z => decide (z.size ≤ 1000)) = true) : Strs w (.slice (some ⟨g, 0, none⟩) zs.length zs.length) zs :=
  ⟨⟨_, zs.length, rfl, Nat.le_refl _, by unfold maxLen; omega, (fun h => by cases h), fun _ => ⟨g, 0, rfl, h.lt, fun j u hu => by
    rw [Nat.zero_add, h.cell j, ← hu, hc]
    exact List.getElem?_toArray⟩⟩, fun e he => by have := List.all_eq_true.1 hs e he; simp at this; unfold maxLen; omega⟩
def RowPost (w : World) (e : Ending) (w' : World) : Prop := ∃ v' zs, e = .returned v' ∧ OwnI w' w.heap.size v' zs ∧ zs.length ≤ 61
theorem among_lit (p m g k : Nat) (zs : List Int) (w : World) {t : TypeId} (h : Cur w p m) (hm : m ≤ 100000000000) (hB : Box w g t (zs.map (Value.int .i64)).toArray) (hg : g ≠ p) (hk : zs.length = k) (h0 : 0 < k) (h1 : k ≤ 1000) :
    Calls Tryz.prog 56 #[.pointer (some ⟨p, 0, none⟩), .slice (some ⟨g, 0, none⟩) k k] w fun e w' => ∃ x : Int, e = .returned (.int .i64 x) ∧ x ∈ zs ∧ Cur w' p (m + 2) ∧ Only [p] w w' := by
  subst hk
  exact among_any p m _ _ _ zs w h hm (ints_lit zs hB rfl h1) rfl h0 (by omega) (fun a e => by cases e; exact hg)
theorem of_lit (p m g k : Nat) (zs : List ByteArray) (w : World) {t : TypeId} (h : Cur w p m) (hm : m ≤ 100000000000) (hB : Box w g t (zs.map Value.string).toArray) (hg : g ≠ p) (hk : zs.length = k) (h0 : 0 < k) (h1 : k ≤ 1000) (hs : zs.all (fun z => decide (z.size ≤ 1000)) = true) :
    Calls Tryz.prog 54 #[.pointer (some ⟨p, 0, none⟩), .slice (some ⟨g, 0, none⟩) k k] w fun e w' => ∃ x : ByteArray, e = .returned (.string x) ∧ x ∈ zs ∧ Cur w' p (m + 2) ∧ Only [p] w w' := by
  subst hk
  exact of_any p m _ _ _ zs w h hm (strs_lit zs hB rfl h1 hs) rfl h0 (by omega) (fun a e => by cases e; exact hg)
end Go.Proofs.YtkekpolfdmmgeaaGreatDoor

/- Elements and codes in memory. -/
namespace Go.Proofs.YtkekpolfdmmgeaaGreatDoor
set_option linter.unusedVariables false
set_option linter.unusedSimpArgs false
open Go.RowKit

structure ElemD where
  name : ByteArray
  family : Int
  level : Int
  base : Int
structure CodeD where
  elems : List ElemD
  limits : List Int
  repeats : Int
  bonus : Int
  keeps : Int
  fall : Int
def cells4 (e : ElemD) : List Value := [.string e.name, .int .i64 e.family, .int .i64 e.level, .int .i64 e.base]
def Elems (w : World) (v : Value) (es : List ElemD) : Prop := Seq w v es.length (es.flatMap cells4) ∧ ∀ e ∈ es, e.name.size ≤ maxLen
def CodeAt (w : World) (v : Value) (c : CodeD) : Prop :=
  ∃ ev lv, v = .agg #[ev, lv, .int .i64 c.repeats, .int .i64 c.bonus, .int .i64 c.keeps, .int .i64 c.fall] ∧ Elems w ev c.elems ∧ Ints w lv c.limits
def ElemAt (_ : World) (v : Value) (e : ElemD) : Prop := v = .agg #[.string e.name, .int .i64 e.family, .int .i64 e.level, .int .i64 e.base] ∧ e.name.size ≤ maxLen
theorem ElemAt.mk (e : ElemD) (w : World) (h : e.name.size ≤ maxLen) : ElemAt w (.agg #[.string e.name, .int .i64 e.family, .int .i64 e.level, .int .i64 e.base]) e := ⟨rfl, h⟩
theorem ElemAt.kept {w w' : World} {v : Value} {e : ElemD} (h : ElemAt w v e) (_ : Kept w w') : ElemAt w' v e := h
theorem Elems.kept {w w' : World} {v : Value} {es : List ElemD} (h : Elems w v es) (hk : Kept w w') : Elems w' v es := ⟨h.1.kept hk, h.2⟩
theorem CodeAt.kept {w w' : World} {v : Value} {c : CodeD} (h : CodeAt w v c) (hk : Kept w w') : CodeAt w' v c := by
  obtain ⟨ev, lv, e, h1, h2⟩ := h
  exact ⟨ev, lv, e, h1.kept hk, h2.kept hk⟩
def OwnE (w : World) (base : Nat) (v : Value) (es : List ElemD) : Prop := w.ownsRow base 31 4 v es.length (es.flatMap cells4) ∧ ∀ e ∈ es, e.name.size ≤ maxLen
theorem fpA_code (a b : Value) (p q r s : Int) : fpA (.agg #[a, b, .int .i64 p, .int .i64 q, .int .i64 r, .int .i64 s]) = fp a ++ fp b := by
  simp [fpA, fp, Value.ownBlock]
def OwnK (w : World) (base : Nat) (v : Value) (c : CodeD) : Prop :=
  ∃ ev lv, v = .agg #[ev, lv, .int .i64 c.repeats, .int .i64 c.bonus, .int .i64 c.keeps, .int .i64 c.fall] ∧ OwnE w base ev c.elems ∧ OwnI w base lv c.limits ∧ (fpA v).Nodup
theorem OwnE.elems {w : World} {base : Nat} {v : Value} {es : List ElemD} (h : OwnE w base v es) : Elems w v es := ⟨Seq.of_own h.1, h.2⟩
theorem OwnE.only {w w' : World} {base : Nat} {v : Value} {es : List ElemD} {S : List Nat} (h : OwnE w base v es) (ho : Only S w w') (hd : ∀ b ∈ fp v, b ∉ S) : OwnE w' base v es := ⟨own_only h.1 ho hd, h.2⟩
theorem OwnE.kept {w w' : World} {base : Nat} {v : Value} {es : List ElemD} (h : OwnE w base v es) (hk : Kept w w') : OwnE w' base v es := ⟨own_kept h.1 hk, h.2⟩
theorem OwnE.far {w w' : World} {base base' : Nat} {v : Value} {es : List ElemD} {S : List Nat} (h : OwnE w base v es) (ho : Only S w w') (hS : ∀ b ∈ S, b < base) (hb : base' ≤ base) : OwnE w' base' v es := ⟨own_far h.1 ho hS hb, h.2⟩
theorem OwnK.code {w : World} {base : Nat} {v : Value} {c : CodeD} (h : OwnK w base v c) : CodeAt w v c := by
  obtain ⟨ev, lv, e, h1, h2, _⟩ := h
  exact ⟨ev, lv, e, h1.elems, h2.ints⟩
theorem OwnK.only {w w' : World} {base : Nat} {v : Value} {c : CodeD} {S : List Nat} (h : OwnK w base v c) (ho : Only S w w') (hd : ∀ b ∈ fpA v, b ∉ S) : OwnK w' base v c := by
  obtain ⟨ev, lv, rfl, h1, h2, h3⟩ := h
  rw [fpA_code] at hd
  exact ⟨ev, lv, rfl, h1.only ho (fun b hb => hd b (List.mem_append_left _ hb)), h2.only ho (fun b hb => hd b (List.mem_append_right _ hb)), h3⟩
theorem OwnK.kept {w w' : World} {base : Nat} {v : Value} {c : CodeD} (h : OwnK w base v c) (hk : Kept w w') : OwnK w' base v c := h.only (hk.only []) (fun _ _ => List.not_mem_nil)
theorem OwnK.fps {w : World} {base : Nat} {v : Value} {c : CodeD} (h : OwnK w base v c) : ∀ b ∈ fpA v, base ≤ b ∧ b < w.heap.size := by
  obtain ⟨ev, lv, rfl, h1, h2, h3⟩ := h
  rw [fpA_code]
  intro b hb
  rcases List.mem_append.1 hb with hb | hb
  · exact own_fp h1.1 b hb
  · exact own_fp h2 b hb
/-- an element of a slice, its four cells -/
theorem elems_at {w : World} {A : Option Addr} {es : List ElemD} (h : SeqA w A es.length (es.flatMap cells4)) {k : Nat} (hk : k < es.length) :
    ∃ b o e, A = some ⟨b, o, none⟩ ∧ b < w.heap.size ∧ es[k]? = some e ∧
      (w.cell? ⟨b, o + k * 4, none⟩ = some (.string e.name) ∧ w.cell? ⟨b, o + k * 4 + 1, none⟩ = some (.int .i64 e.family) ∧ w.cell? ⟨b, o + k * 4 + 2, none⟩ = some (.int .i64 e.level) ∧ w.cell? ⟨b, o + k * 4 + 3, none⟩ = some (.int .i64 e.base)) := by
  obtain ⟨b, o, ea, hb, hcell⟩ := h (by omega)
  have h1 : es[k]? = some es[k] := List.getElem?_eq_getElem hk
  have hf := flat_get cells4 4 (fun _ => rfl) es k
  have hc : ∀ j, j < 4 → w.cell? ⟨b, o + k * 4 + j, none⟩ = (cells4 es[k])[j]? := fun j hj => by
    have := hf j hj
    rw [h1] at this
    have hs : (cells4 es[k])[j]? = some ((cells4 es[k])[j]'hj) := List.getElem?_eq_getElem hj
    rw [hs, Nat.add_assoc]
    exact hcell (k * 4 + j) _ (this.trans hs)
  exact ⟨b, o, es[k], ea, hb, h1, hc 0 (by omega), hc 1 (by omega), hc 2 (by omega), hc 3 (by omega)⟩
end Go.Proofs.YtkekpolfdmmgeaaGreatDoor

/- Elements and codes: sizes, copies, comparisons. -/
namespace Go.Proofs.YtkekpolfdmmgeaaGreatDoor
set_option linter.unusedVariables false
set_option linter.unusedSimpArgs false
open Go.RowKit

def ElemD.size (e : ElemD) : Nat := e.name.size
def elemsSize (es : List ElemD) : Nat := es.length + (es.map ElemD.size).sum
def CodeD.size (c : CodeD) : Nat := elemsSize c.elems + c.limits.length
theorem elem_size_le {es : List ElemD} {k : Nat} {e : ElemD} (h : es[k]? = some e) : e.size ≤ elemsSize es := by
  have := mem_le_sum (es.map ElemD.size) e.size (List.mem_map_of_mem (List.mem_of_getElem? h))
  unfold elemsSize
  omega
theorem code_parts (c : CodeD) : c.elems.length ≤ c.size ∧ c.limits.length ≤ c.size ∧ elemsSize c.elems ≤ c.size := by
  unfold CodeD.size elemsSize
  omega
/-! ### copies -/
theorem info_elem : (Tryz.prog.info? 31).map (fun i => (i.zero, i.size, i.bytes)) = some (some (.agg #[.string ByteArray.empty, .int .i64 0, .int .i64 0, .int .i64 0]), 4, 40) := by kernel_rfl
theorem set4_take {xs ys : List Value} {k n : Nat} {a b c d : Value} (hl : xs.length = n * 4) (hk : k < n) (ht : xs.take (k * 4) = ys) :
    ((((xs.set (k * 4) a).set (k * 4 + 1) b).set (k * 4 + 2) c).set (k * 4 + 3) d).take ((k + 1) * 4) = ys ++ [a, b, c, d] := by
  have h1 : k * 4 + 3 < xs.length := by omega
  rw [show (k + 1) * 4 = k * 4 + 3 + 1 from by omega]
  rw [take_snoc (x := d) (by rw [List.getElem?_set_self (by simp; omega)]), List.take_set_of_le (Nat.le_refl _)]
  rw [take_snoc (x := c) (by rw [List.getElem?_set_self (by simp; omega)]), List.take_set_of_le (Nat.le_refl _)]
  rw [take_snoc (x := b) (by rw [List.getElem?_set_self (by simp; omega)]), List.take_set_of_le (Nat.le_refl _)]
  rw [take_snoc (x := a) (by rw [List.getElem?_set_self (by omega)]), List.take_set_of_le (Nat.le_refl _), ht]
  simp
end Go.Proofs.YtkekpolfdmmgeaaGreatDoor

/- append(out, xs...) to rows of the call's own, in the words of the readings. -/
namespace Go.Proofs.YtkekpolfdmmgeaaGreatDoor
set_option linter.unusedVariables false
set_option linter.unusedSimpArgs false
open Go.RowKit

theorem wp_append_E (w : World) {o : Oper} {a : Act} {K : Act → World → Prop} {Q : Exit → Act → World → Prop} (s x : Operand)
    (ho : o.op = .call { callee := .builtin .append, args := #[s, x], argTypes := #[23, 23] })
    (base : Nat) (v : Value) (zs : List ElemD) (hs : a.eval s = v) (hown : OwnE w base v zs) (u : Value) (ys : List ElemD) (hx : a.eval x = u) (hr : Elems w u ys)
    (hl : zs.length + ys.length ≤ 16777216) (hbase : base ≤ w.heap.size)
    (h : ∀ v' w', OwnE w' base v' (zs ++ ys) → w.grownBy w' v.ownBlock → K (a.put o.dst v') w') : o.wp Tryz.prog a w K Q := by
  obtain ⟨i0, hi, hz0, hz1, hz2⟩ := info_parts info_elem
  refine wp_append_seq w s x 23 ho base 31 i0 _ 4 40 Tryz.underlying23 hi hz0 hz1 hz2 rfl (by omega) v zs.length _ hs hown.1 u ys.length _ hx hr.1 (by rw [flat_length cells4 4 (fun _ => rfl)]) ?_ (by unfold maxLen; omega) (by omega) hbase (fun v' w' q1 q2 => h v' w' ?_ q2)
  · intro y hy
    obtain ⟨e, _, he⟩ := List.mem_flatMap.1 hy; simp only [cells4, List.mem_cons, List.not_mem_nil, or_false] at he; rcases he with rfl | rfl | rfl | rfl <;> rfl
  · refine ⟨?_, ?_⟩
    · rw [List.length_append, List.flatMap_append]
      exact q1
    · intro e he
      rcases List.mem_append.1 he with he | he
      · exact hown.2 e he
      · exact hr.2 e he
theorem wpList_append_E (w : World) {ops : Array Oper} {rest : List Oper} {o : Oper} {a : Act} {Q : Exit → Act → World → Prop} (hgd : o.guard = none) (s x : Operand)
    (ho : o.op = .call { callee := .builtin .append, args := #[s, x], argTypes := #[23, 23] })
    (base : Nat) (v : Value) (zs : List ElemD) (hs : a.eval s = v) (hown : OwnE w base v zs) (u : Value) (ys : List ElemD) (hx : a.eval x = u) (hr : Elems w u ys)
    (hl : zs.length + ys.length ≤ 16777216) (hbase : base ≤ w.heap.size)
    (h : ∀ v' w', OwnE w' base v' (zs ++ ys) → w.grownBy w' v.ownBlock → wpList Tryz.prog ops Q rest (a.put o.dst v') w') : wpList Tryz.prog ops Q (o :: rest) a w :=
  wpList_plain hgd fun _ hK => wp_append_E w s x ho base v zs hs hown u ys hx hr hl hbase fun v' w' h2 h3 => hK _ _ (h v' w' h2 h3)
theorem step_append_E (w : World) {ops : Array Oper} {o : Oper} {a : Act} {K : Act → World → Prop} {Q : Exit → Act → World → Prop} {E : Prop} (hgd : o.guard = none) (s x : Operand)
    (ho : o.op = .call { callee := .builtin .append, args := #[s, x], argTypes := #[23, 23] })
    (base : Nat) (v : Value) (zs : List ElemD) (hs : a.eval s = v) (hown : OwnE w base v zs) (u : Value) (ys : List ElemD) (hx : a.eval x = u) (hr : Elems w u ys)
    (hl : zs.length + ys.length ≤ 16777216) (hbase : base ≤ w.heap.size)
    (h : ∀ v' w', OwnE w' base v' (zs ++ ys) → w.grownBy w' v.ownBlock → K (a.put o.dst v') w') :
    if Region.wanted o (yielded ops a.tmps) = true then Oper.wp Tryz.prog o a w K Q else E := by
  have hw : Region.wanted o (yielded ops a.tmps) = true := by simp [Region.wanted, hgd]
  rw [if_pos hw]
  exact wp_append_E w s x ho base v zs hs hown u ys hx hr hl hbase h
end Go.Proofs.YtkekpolfdmmgeaaGreatDoor

/- append(out, xs...) to rows of elements and numbers: only the row's own block turns; where the new row lies. -/
namespace Go.Proofs.YtkekpolfdmmgeaaGreatDoor
set_option linter.unusedVariables false
set_option linter.unusedSimpArgs false
open Go.RowKit

theorem wp_append_ED (w : World) {o : Oper} {a : Act} {K : Act → World → Prop} {Q : Exit → Act → World → Prop} (s x : Operand)
    (ho : o.op = .call { callee := .builtin .append, args := #[s, x], argTypes := #[23, 23] })
    (base : Nat) (v : Value) (zs : List ElemD) (hs : a.eval s = v) (hown : OwnE w base v zs) (u : Value) (ys : List ElemD) (hx : a.eval x = u) (hr : Elems w u ys)
    (hl : zs.length + ys.length ≤ 16777216) (hbase : base ≤ w.heap.size)
    (h : ∀ v' w', OwnE w' base v' (zs ++ ys) → Only (fp v) w w' → (∀ b ∈ fp v', b ∈ fp v ∨ b = w.heap.size) → K (a.put o.dst v') w') : o.wp Tryz.prog a w K Q := by
  obtain ⟨i0, hi, hz0, hz1, hz2⟩ := info_parts info_elem
  have h1 : ∀ y ∈ ys.flatMap cells4, y.oneCell' = true := by
    intro y hy
    obtain ⟨e, _, he⟩ := List.mem_flatMap.1 hy
    simp only [cells4, List.mem_cons, List.not_mem_nil, or_false] at he
    rcases he with rfl | rfl | rfl | rfl <;> rfl
  obtain ⟨v', w', hrun, h2, h3, h4⟩ := run_append_locG (P := Tryz.prog) w base 23 o.type 31 i0 _ 4 40 Tryz.underlying23 hi hz0 hz1 hz2 rfl (by omega) v zs.length _ hown.1 u ys.length (ys.flatMap cells4) hr.1 (flat_length cells4 4 (fun _ => rfl) ys) h1 (by unfold maxLen; omega) (by omega) hbase
  unfold Oper.wp execOp
  simp only [ho, resolve, invoke, builtin, Sem.run_bind, Sem.run_pure, Result.andThen_ok, List.map_toArray, List.map_cons, List.map_nil, hs, hx, hrun]
  refine h v' w' ⟨?_, fun e he => ?_⟩ (only_of_grown h3) (fun b hb => ?_)
  · rw [List.length_append, List.flatMap_append]
    exact h2
  · rcases List.mem_append.1 he with he | he
    · exact hown.2 e he
    · exact hr.2 e he
  · have hb' : v'.ownBlock = some b := by simpa [fp] using hb
    rcases h4 with h4 | h4
    · left; rw [h4] at hb'; simpa [fp] using hb'
    · right; rw [h4] at hb'; exact (Option.some.inj hb').symm
theorem wpList_append_ED (w : World) {ops : Array Oper} {rest : List Oper} {o : Oper} {a : Act} {Q : Exit → Act → World → Prop} (hgd : o.guard = none) (s x : Operand)
    (ho : o.op = .call { callee := .builtin .append, args := #[s, x], argTypes := #[23, 23] })
    (base : Nat) (v : Value) (zs : List ElemD) (hs : a.eval s = v) (hown : OwnE w base v zs) (u : Value) (ys : List ElemD) (hx : a.eval x = u) (hr : Elems w u ys)
    (hl : zs.length + ys.length ≤ 16777216) (hbase : base ≤ w.heap.size)
    (h : ∀ v' w', OwnE w' base v' (zs ++ ys) → Only (fp v) w w' → (∀ b ∈ fp v', b ∈ fp v ∨ b = w.heap.size) → wpList Tryz.prog ops Q rest (a.put o.dst v') w') : wpList Tryz.prog ops Q (o :: rest) a w :=
  wpList_plain hgd fun _ hK => wp_append_ED w s x ho base v zs hs hown u ys hx hr hl hbase fun v' w' h2 h3 h4 => hK _ _ (h v' w' h2 h3 h4)
theorem step_append_ED (w : World) {ops : Array Oper} {o : Oper} {a : Act} {K : Act → World → Prop} {Q : Exit → Act → World → Prop} {E : Prop} (hgd : o.guard = none) (s x : Operand)
    (ho : o.op = .call { callee := .builtin .append, args := #[s, x], argTypes := #[23, 23] })
    (base : Nat) (v : Value) (zs : List ElemD) (hs : a.eval s = v) (hown : OwnE w base v zs) (u : Value) (ys : List ElemD) (hx : a.eval x = u) (hr : Elems w u ys)
    (hl : zs.length + ys.length ≤ 16777216) (hbase : base ≤ w.heap.size)
    (h : ∀ v' w', OwnE w' base v' (zs ++ ys) → Only (fp v) w w' → (∀ b ∈ fp v', b ∈ fp v ∨ b = w.heap.size) → K (a.put o.dst v') w') :
    if Region.wanted o (yielded ops a.tmps) = true then Oper.wp Tryz.prog o a w K Q else E := by
  have hw : Region.wanted o (yielded ops a.tmps) = true := by simp [Region.wanted, hgd]
  rw [if_pos hw]
  exact wp_append_ED w s x ho base v zs hs hown u ys hx hr hl hbase h
/-- the same, numbers -/
theorem wp_append_ID (w : World) {o : Oper} {a : Act} {K : Act → World → Prop} {Q : Exit → Act → World → Prop} (s x : Operand)
    (ho : o.op = .call { callee := .builtin .append, args := #[s, x], argTypes := #[24, 24] })
    (base : Nat) (v : Value) (zs : List Int) (hs : a.eval s = v) (hown : OwnI w base v zs) (u : Value) (ys : List Int) (hx : a.eval x = u) (hr : Ints w u ys)
    (hl : zs.length + ys.length ≤ 16777216) (hbase : base ≤ w.heap.size)
    (h : ∀ v' w', OwnI w' base v' (zs ++ ys) → Only (fp v) w w' → (∀ b ∈ fp v', b ∈ fp v ∨ b = w.heap.size) → K (a.put o.dst v') w') : o.wp Tryz.prog a w K Q := by
  obtain ⟨i0, hi, hz0, hz1, hz2⟩ := info_parts info_int
  obtain ⟨v', w', hrun, h2, h3, h4⟩ := run_append_locG (P := Tryz.prog) w base 24 o.type 3 i0 _ 1 8 Tryz.underlying24 hi hz0 hz1 hz2 rfl (by omega) v zs.length _ hown u ys.length (ys.map (Value.int .i64)) hr (by simp) (fun y hy => by obtain ⟨_, _, rfl⟩ := List.mem_map.1 hy; rfl) (by unfold maxLen; omega) (by omega) hbase
  unfold Oper.wp execOp
  simp only [ho, resolve, invoke, builtin, Sem.run_bind, Sem.run_pure, Result.andThen_ok, List.map_toArray, List.map_cons, List.map_nil, hs, hx, hrun]
  refine h v' w' ?_ (only_of_grown h3) (fun b hb => ?_)
  · unfold OwnI
    rw [List.length_append, List.map_append]
    exact h2
  · have hb' : v'.ownBlock = some b := by simpa [fp] using hb
    rcases h4 with h4 | h4
    · left; rw [h4] at hb'; simpa [fp] using hb'
    · right; rw [h4] at hb'; exact (Option.some.inj hb').symm
end Go.Proofs.YtkekpolfdmmgeaaGreatDoor
