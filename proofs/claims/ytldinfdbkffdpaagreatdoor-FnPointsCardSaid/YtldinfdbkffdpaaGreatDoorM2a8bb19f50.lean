/- Contracts of functions that the proof leans on. No condition. -/
import Derived.Test.YtldinfdbkffdpaaGreatDoorM88c715e063
import Derived.Test.YtldinfdbkffdpaaGreatDoorRows
import Derived.WalkKit
import Derived.ProofKit
import Derived.OpenShut
import Derived.ShutString
import Derived.ChangeOld
import Derived.Below
import Derived.LaidMore
import Derived.Lay
import Derived.MakeChecks
import Derived.Stop.LaidErr
import Derived.Shelf.Vars
import Derived.Lib.LaidTab
import Derived.OpenVars
import Derived.Test.YtldinfdbkffdpaaGreatDoorShelf
/- Points: reading their text, the reference's side. -/
namespace Go.Proofs.YtldinfdbkffdpaaGreatDoor
set_option linter.unusedVariables false
set_option linter.unusedSimpArgs false
set_option linter.unnecessarySimpa false
open Go.RowKit Go.Lib

theorem spB_ne (b : UInt8) (t : ByteArray) : spB b t ≠ [] := by
  intro e
  exact splitOn_ne b _ (List.map_eq_nil_iff.1 e)
theorem spB_two {t p q : ByteArray} (h : spB 46 t = [p, q]) : splitOn 46 t.data.toList = [p.data.toList, q.data.toList] := by
  unfold spB at h
  have e := congrArg (List.map fun x : ByteArray => x.data.toList) h
  rw [List.map_map] at e
  have e2 : ((fun x : ByteArray => x.data.toList) ∘ tx) = id := by funext l; rfl
  rw [e2, List.map_id] at e
  exact e
theorem spB_len (b : UInt8) (t : ByteArray) : (spB b t).length = (splitOn b t.data.toList).length := by unfold spB; rw [List.length_map]
theorem two_of {q : ByteArray} (h : q.size = 2) : q.data.toList = [q[0], q[1]] := by
  have hl : q.data.toList.length = 2 := by rw [← size_eq]; exact h
  match hq : q.data.toList, hl with
  | [a, b], _ =>
    have h0 := byte_get q 0 (by omega)
    have h1 := byte_get q 1 (by omega)
    rw [hq] at h0 h1
    simp at h0 h1
    rw [← h0, ← h1]
theorem lt_two {l : List ByteArray} (h : l.length = 2) : ∃ p q, l = [p, q] := by
  match l, h with
  | [p, q], _ => exact ⟨p, q, rfl⟩
theorem rn6_lt {l : List UInt8} {a : Nat} (h : readNum 6 l = some a) : a < 1000000 := by
  unfold readNum at h
  split at h
  · cases h
  · rename_i hn
    simp only [not_or] at hn
    have h1 := dval_lt' l (by simpa using hn.2.2.2)
    have h2 : 10 ^ l.length ≤ 10 ^ 6 := Nat.pow_le_pow_right (by decide) (by omega)
    have h3 := Option.some.inj h
    omega
theorem rdV_some {k : Nat} {s : ByteArray} (hk : ∀ n, readNum k s.data.toList = some n → n < 1000000) (h : ¬ rdV k s < 0) : ∃ a : Nat, readNum k s.data.toList = some a ∧ rdV k s = (a : Int) ∧ a < 1000000 := by
  unfold rdV at h ⊢
  cases hr : readNum k s.data.toList with
  | none => rw [hr] at h; exact absurd (by decide) h
  | some n => exact ⟨n, rfl, rfl, hk n hr⟩
def RdPost (l : List UInt8) (w : World) (e : Ending) (w' : World) : Prop := ∃ v ok, e = .returned (.tuple #[.int .i64 v, .bool ok]) ∧ IsRead l v ok ∧ Kept w w'
set_option maxRecDepth 100000 in
set_option maxHeartbeats 16000000 in
theorem poRead_any (s : ByteArray) (w : World) (hs : s.size ≤ 1048576) :
    Calls Tryz.prog 37 #[.string s] w fun e w' => RdPost s.data.toList w e w' := by
  obtain ⟨t, neg, ht, HT, hcase⟩ : ∃ (t : ByteArray) (neg : Bool), t.size ≤ 1048576 ∧ Hid (trimPrefix s.data.toList [45] = t.data.toList ∧ hasPrefix s.data.toList [45] = neg) ∧
      ((s.toList.isEmpty = true ∧ t = s ∧ neg = false) ∨ (∃ h : 0 < s.size, s.toList.isEmpty = false ∧ s[0].toNat = 45 ∧ t = s.extract 1 s.size ∧ neg = true) ∨ (∃ h : 0 < s.size, s.toList.isEmpty = false ∧ ¬ s[0].toNat = 45 ∧ t = s ∧ neg = false)) := by
    by_cases h0 : s.size = 0
    · have hd : s.data.toList = [] := List.eq_nil_of_length_eq_zero (by rw [← size_eq]; exact h0)
      exact ⟨s, false, hs, Lib.hid (tp_miss (by rw [hd]; simp)), .inl ⟨by rw [toList_data, hd]; rfl, rfl, rfl⟩⟩
    have hp : 0 < s.size := by omega
    have he : s.toList.isEmpty = false := by
      rw [toList_data]
      cases hq : s.data.toList with
      | nil => rw [size_eq, hq] at hp; simp at hp
      | cons _ _ => rfl
    have hg := byte_get s 0 hp
    by_cases h1 : s[0].toNat = 45
    · have hc : s[0] = 45 := UInt8.toNat_inj.1 h1
      rw [hc] at hg
      refine ⟨s.extract 1 s.size, true, ?_, Lib.hid ⟨?_, (tp_hit hg).2⟩, .inr (.inl ⟨hp, he, h1, rfl, rfl⟩)⟩
      · rw [pc_ext, tx_size, pc_size s 1 s.size (Nat.le_refl _)]; omega
      · rw [(tp_hit hg).1, pc_ext, tx_data, pc_all]
    · exact ⟨s, false, hs, Lib.hid (tp_miss (by rw [hg]; intro e; exact h1 (by rw [Option.some.inj e]; rfl))), .inr (.inr ⟨hp, he, h1, rfl, rfl⟩)⟩
  have CS : Hid (∀ w0 : World, Calls Tryz.prog 63 #[.string t, .int .u8 46] w0 fun e w' => ∃ v', e = .returned v' ∧ OwnS w' w0.heap.size v' (spB 46 t) ∧ Kept w0 w') := Lib.hid (fun w0 => l1Split_any t 46 w0 ht)
  rcases hcase with ⟨he, h2, hneg⟩ | ⟨hp, he, h1, h2, hneg⟩ | ⟨hp, he, h1, h2, hneg⟩
  · have h3 := h2.symm
    subst h3
    clear h2
    go_enter Tryz.func37, Tryz.ntmps37
    go_wp2_with fail
    refine (CS.out _).mono ?_
    rintro e w1 ⟨v1, rfl, o1, k1⟩
    rcases ownS_cases o1 with ⟨rfl, hn⟩ | ⟨g, cap, rfl, hc1, hc2⟩
    · exact absurd hn (spB_ne _ s)
    unfold maxLen at hc2
    by_cases hl : (spB 46 s).length = 2
    case neg =>
      have HN : Hid (IsRead s.data.toList 0 false) := Lib.hid (rd_no (fun p c d a hsp _ _ _ => hl (by rw [spB_len, ← HT.out.1, hsp]; rfl)))
      clear o1
      go_wp2_with fail
      go_ret2
      exact ⟨_, _, rfl, HN.out, k1⟩
    obtain ⟨p, q, hpq⟩ := lt_two hl
    have HSP := Lib.hid (spB_two hpq)
    obtain ⟨b0, i0, z0, e0, hb0, hz0, hx0⟩ := strs_at (k := 0) o1.strs.1.addr (by omega)
    obtain ⟨b1, i1, z1, e1, hb1, hz1, hx1⟩ := strs_at (k := 1) o1.strs.1.addr (by omega)
    have X0 : w1.cell? ⟨g, 0, none⟩ = some (.string p) ∧ w1.cell? ⟨g, 1, none⟩ = some (.string q) := by
      cases e0
      cases e1
      rw [hpq] at hz0 hz1
      simp at hz0 hz1
      subst hz0 hz1
      exact ⟨by simpa using hx0, by simpa using hx1⟩
    obtain ⟨x0, x1⟩ := X0
    have hgl : g < w1.heap.size := own_lt o1.1
    have HPS : Hid (p.size ≤ maxLen) := Lib.hid (o1.2 p (by rw [hpq]; simp))
    have HST := Lib.hid (HT.out.1.symm ▸ HSP.out : splitOn 46 (trimPrefix s.data.toList [45]) = [p.data.toList, q.data.toList])
    clear e0 e1 hz0 hz1 hx0 hx1 hb0 hb1 o1 hpq
    by_cases hq2 : q.size = 2
    case neg =>
      have HN : Hid (IsRead s.data.toList 0 false) := Lib.hid (rd_no (fun p' c d a hsp _ _ _ => by
        rw [HST.out] at hsp
        simp only [List.cons.injEq, and_true] at hsp
        apply hq2
        rw [size_eq, hsp.2]
        rfl))
      go_wp2_with fail
      go_ret2
      exact ⟨_, _, rfl, HN.out, k1⟩
    have HQ := Lib.hid (two_of hq2)
    by_cases hr : rdV 6 p < 0
    case pos =>
      have HN : Hid (IsRead s.data.toList 0 false) := Lib.hid (rd_no (fun p' c d a hsp ha _ _ => by
        rw [HST.out] at hsp
        simp only [List.cons.injEq, and_true] at hsp
        rw [← hsp.1, rdV_neg.1 hr] at ha
        cases ha))
      go_wp2_with (go_at_call 64; refine (l1Read_any p _ HPS.out).mono ?_; rintro e w' ⟨rfl, rfl⟩)
      go_ret2
      exact ⟨_, _, rfl, HN.out, k1⟩
    obtain ⟨a, ha, hv, hab⟩ := rdV_some (fun n h => rn6_lt h) hr
    have HA := Lib.hid ha
    have HV := Lib.hid hv
    clear ha hv hr
    go_wp2_with (go_at_call 64; refine (l1Read_any p _ HPS.out).mono ?_; rintro e w' ⟨rfl, rfl⟩; rw [HV.out])
    go_loop [7, 8] (fun n i => ∃ k m : Nat, i = .int .i64 k ∧ n = .int .i64 m ∧ ((k = 0 ∧ m = a) ∨ (k = 1 ∧ m = 10 * a + (q[0].toNat - 48) ∧ isDg q[0] = true) ∨ (k = 2 ∧ m = 100 * a + dg2 q[0] q[1] ∧ isDg q[0] = true ∧ isDg q[1] = true))) (fun _ i => 2 - (RowKit.intOf i).toNat)
    case atStart => exact ⟨0, a, rfl, rfl, .inl ⟨rfl, rfl⟩⟩
    case round =>
      obtain ⟨k, m, rfl, rfl, hrel⟩ := hrel
      rcases hrel with ⟨rfl, rfl⟩ | ⟨rfl, hm, hd0⟩ | ⟨rfl, hm, hd0, hd1⟩
      · rcases byte3 q[0].toNat with hc | hc | hc
        · have HN : Hid (IsRead s.data.toList 0 false) := Lib.hid (rd_no (fun p' c d a hsp _ hcd _ => by
            rw [HST.out, HQ.out] at hsp
            simp only [List.cons.injEq, and_true] at hsp
            rw [← hsp.2.1, dg_not (.inl hc)] at hcd
            cases hcd))
          go_wp2
          go_ret2
          exact ⟨_, _, rfl, HN.out, k1⟩
        · have HN : Hid (IsRead s.data.toList 0 false) := Lib.hid (rd_no (fun p' c d a hsp _ hcd _ => by
            rw [HST.out, HQ.out] at hsp
            simp only [List.cons.injEq, and_true] at hsp
            rw [← hsp.2.1, dg_not (.inr hc)] at hcd
            cases hcd))
          go_wp2
          go_ret2
          exact ⟨_, _, rfl, HN.out, k1⟩
        · go_wp2
          go_round
          case rel => exact ⟨1, 10 * m + (q[0].toNat - 48), rfl, by go_num, .inr (.inl ⟨rfl, rfl, dg_of hc.1 hc.2⟩)⟩
          case measure => simp [RowKit.intOf]
      · rcases byte3 q[1].toNat with hc | hc | hc
        · have HN : Hid (IsRead s.data.toList 0 false) := Lib.hid (rd_no (fun p' c d a hsp _ _ hcd => by
            rw [HST.out, HQ.out] at hsp
            simp only [List.cons.injEq, and_true] at hsp
            rw [← hsp.2.2, dg_not (.inl hc)] at hcd
            cases hcd))
          go_wp2
          go_ret2
          exact ⟨_, _, rfl, HN.out, k1⟩
        · have HN : Hid (IsRead s.data.toList 0 false) := Lib.hid (rd_no (fun p' c d a hsp _ _ hcd => by
            rw [HST.out, HQ.out] at hsp
            simp only [List.cons.injEq, and_true] at hsp
            rw [← hsp.2.2, dg_not (.inr hc)] at hcd
            cases hcd))
          go_wp2
          go_ret2
          exact ⟨_, _, rfl, HN.out, k1⟩
        · have hm2 : m < 100000000 := by have := (isDg_iff q[0]).1 hd0; omega
          have HM : Hid (10 * m + (q[1].toNat - 48) = 100 * a + dg2 q[0] q[1]) := Lib.hid (by unfold dg2; omega)
          clear hm
          go_wp2
          go_round
          case rel => exact ⟨2, 10 * m + (q[1].toNat - 48), rfl, by go_num, .inr (.inr ⟨rfl, HM.out, hd0, dg_of hc.1 hc.2⟩)⟩
          case measure => simp [RowKit.intOf]
      · have hm2 : m < 1000000000 := by
          have e1 := (isDg_iff q[0]).1 hd0
          have e2 := (isDg_iff q[1]).1 hd1
          unfold dg2 at hm
          omega
        have HY := Lib.hid (fun v hv => rd_yes (l := s.data.toList) (v := v) (HQ.out ▸ HST.out) HA.out hv)
        rw [HT.out.2, ← hm, hneg] at HY
        clear hm hd0 hd1
        go_wp2_with fail
        refine (poGood_any _ _).mono ?_
        rintro e w2 ⟨rfl, rfl⟩
        have hY := HY.out (m : Int) (by simp)
        clear HY
        by_cases hg : inB (m : Int) (-1000000) 1000000 = true
        case neg =>
          simp only [Bool.not_eq_true] at hg
          have HN : Hid (IsRead s.data.toList 0 false) := Lib.hid (hY.2 (fun h => by
            have h2 : inB (m : Int) (-1000000) 1000000 = true := by unfold inB; rw [decide_eq_true h.1.1, decide_eq_true h.1.2]; rfl
            rw [hg] at h2
            cases h2))
          rw [hg]
          clear hg hY
          go_wp2_with fail
          go_ret2
          exact ⟨_, _, rfl, HN.out, k1⟩
        have hgr := inB_true hg
        rw [hg]
        clear hg
        have CT := Lib.hid (poText_any (m : Int) hgr w1)
        by_cases he : ptT (m : Int) = s
        · have HN : Hid (IsRead s.data.toList (m : Int) true) := Lib.hid (hY.1 ⟨hgr, by rw [← he]; rfl⟩)
          rw [he] at CT
          clear hY hgr he
          go_wp2_with fail
          refine (CT.out).mono ?_
          rintro e w2 ⟨rfl, k2⟩
          go_wp2_with fail
          go_ret2
          exact ⟨_, _, rfl, HN.out, k1.trans k2⟩
        · have HN : Hid (IsRead s.data.toList 0 false) := Lib.hid (hY.2 (fun h => he (by show tx _ = _; rw [h.2, tx_of])))
          clear hY hgr
          generalize ptT (m : Int) = z at CT he
          have he2 : ¬ z.toList = s.toList := fun e => he (by rw [toList_data, toList_data] at e; rw [← tx_of z, ← tx_of s, e])
          have he3 : (z.toList == s.toList) = false := beq_eq_false_iff_ne.2 he2
          go_wp2_with fail
          refine (CT.out).mono ?_
          rintro e w2 ⟨rfl, k2⟩
          go_wp2_with fail
          go_ret2
          exact ⟨_, _, rfl, HN.out, k1.trans k2⟩
  · have hq : ((s[0].toNat : Int) == 45) = true := (by rw [beq_iff_eq]; omega)
    have HE2 := Lib.hid h2
    clear h2
    go_enter Tryz.func37, Tryz.ntmps37
    go_wp2_with fail
    rw [← HE2.out]
    refine (CS.out _).mono ?_
    rintro e w1 ⟨v1, rfl, o1, k1⟩
    rcases ownS_cases o1 with ⟨rfl, hn⟩ | ⟨g, cap, rfl, hc1, hc2⟩
    · exact absurd hn (spB_ne _ t)
    unfold maxLen at hc2
    by_cases hl : (spB 46 t).length = 2
    case neg =>
      have HN : Hid (IsRead s.data.toList 0 false) := Lib.hid (rd_no (fun p c d a hsp _ _ _ => hl (by rw [spB_len, ← HT.out.1, hsp]; rfl)))
      clear o1
      go_wp2_with fail
      go_ret2
      exact ⟨_, _, rfl, HN.out, k1⟩
    obtain ⟨p, q, hpq⟩ := lt_two hl
    have HSP := Lib.hid (spB_two hpq)
    obtain ⟨b0, i0, z0, e0, hb0, hz0, hx0⟩ := strs_at (k := 0) o1.strs.1.addr (by omega)
    obtain ⟨b1, i1, z1, e1, hb1, hz1, hx1⟩ := strs_at (k := 1) o1.strs.1.addr (by omega)
    have X0 : w1.cell? ⟨g, 0, none⟩ = some (.string p) ∧ w1.cell? ⟨g, 1, none⟩ = some (.string q) := by
      cases e0
      cases e1
      rw [hpq] at hz0 hz1
      simp at hz0 hz1
      subst hz0 hz1
      exact ⟨by simpa using hx0, by simpa using hx1⟩
    obtain ⟨x0, x1⟩ := X0
    have hgl : g < w1.heap.size := own_lt o1.1
    have HPS : Hid (p.size ≤ maxLen) := Lib.hid (o1.2 p (by rw [hpq]; simp))
    have HST := Lib.hid (HT.out.1.symm ▸ HSP.out : splitOn 46 (trimPrefix s.data.toList [45]) = [p.data.toList, q.data.toList])
    clear e0 e1 hz0 hz1 hx0 hx1 hb0 hb1 o1 hpq
    by_cases hq2 : q.size = 2
    case neg =>
      have HN : Hid (IsRead s.data.toList 0 false) := Lib.hid (rd_no (fun p' c d a hsp _ _ _ => by
        rw [HST.out] at hsp
        simp only [List.cons.injEq, and_true] at hsp
        apply hq2
        rw [size_eq, hsp.2]
        rfl))
      go_wp2_with fail
      go_ret2
      exact ⟨_, _, rfl, HN.out, k1⟩
    have HQ := Lib.hid (two_of hq2)
    by_cases hr : rdV 6 p < 0
    case pos =>
      have HN : Hid (IsRead s.data.toList 0 false) := Lib.hid (rd_no (fun p' c d a hsp ha _ _ => by
        rw [HST.out] at hsp
        simp only [List.cons.injEq, and_true] at hsp
        rw [← hsp.1, rdV_neg.1 hr] at ha
        cases ha))
      go_wp2_with (go_at_call 64; refine (l1Read_any p _ HPS.out).mono ?_; rintro e w' ⟨rfl, rfl⟩)
      go_ret2
      exact ⟨_, _, rfl, HN.out, k1⟩
    obtain ⟨a, ha, hv, hab⟩ := rdV_some (fun n h => rn6_lt h) hr
    have HA := Lib.hid ha
    have HV := Lib.hid hv
    clear ha hv hr
    go_wp2_with (go_at_call 64; refine (l1Read_any p _ HPS.out).mono ?_; rintro e w' ⟨rfl, rfl⟩; rw [HV.out])
    go_loop [7, 8] (fun n i => ∃ k m : Nat, i = .int .i64 k ∧ n = .int .i64 m ∧ ((k = 0 ∧ m = a) ∨ (k = 1 ∧ m = 10 * a + (q[0].toNat - 48) ∧ isDg q[0] = true) ∨ (k = 2 ∧ m = 100 * a + dg2 q[0] q[1] ∧ isDg q[0] = true ∧ isDg q[1] = true))) (fun _ i => 2 - (RowKit.intOf i).toNat)
    case atStart => exact ⟨0, a, rfl, rfl, .inl ⟨rfl, rfl⟩⟩
    case round =>
      obtain ⟨k, m, rfl, rfl, hrel⟩ := hrel
      rcases hrel with ⟨rfl, rfl⟩ | ⟨rfl, hm, hd0⟩ | ⟨rfl, hm, hd0, hd1⟩
      · rcases byte3 q[0].toNat with hc | hc | hc
        · have HN : Hid (IsRead s.data.toList 0 false) := Lib.hid (rd_no (fun p' c d a hsp _ hcd _ => by
            rw [HST.out, HQ.out] at hsp
            simp only [List.cons.injEq, and_true] at hsp
            rw [← hsp.2.1, dg_not (.inl hc)] at hcd
            cases hcd))
          go_wp2
          go_ret2
          exact ⟨_, _, rfl, HN.out, k1⟩
        · have HN : Hid (IsRead s.data.toList 0 false) := Lib.hid (rd_no (fun p' c d a hsp _ hcd _ => by
            rw [HST.out, HQ.out] at hsp
            simp only [List.cons.injEq, and_true] at hsp
            rw [← hsp.2.1, dg_not (.inr hc)] at hcd
            cases hcd))
          go_wp2
          go_ret2
          exact ⟨_, _, rfl, HN.out, k1⟩
        · go_wp2
          go_round
          case rel => exact ⟨1, 10 * m + (q[0].toNat - 48), rfl, by go_num, .inr (.inl ⟨rfl, rfl, dg_of hc.1 hc.2⟩)⟩
          case measure => simp [RowKit.intOf]
      · rcases byte3 q[1].toNat with hc | hc | hc
        · have HN : Hid (IsRead s.data.toList 0 false) := Lib.hid (rd_no (fun p' c d a hsp _ _ hcd => by
            rw [HST.out, HQ.out] at hsp
            simp only [List.cons.injEq, and_true] at hsp
            rw [← hsp.2.2, dg_not (.inl hc)] at hcd
            cases hcd))
          go_wp2
          go_ret2
          exact ⟨_, _, rfl, HN.out, k1⟩
        · have HN : Hid (IsRead s.data.toList 0 false) := Lib.hid (rd_no (fun p' c d a hsp _ _ hcd => by
            rw [HST.out, HQ.out] at hsp
            simp only [List.cons.injEq, and_true] at hsp
            rw [← hsp.2.2, dg_not (.inr hc)] at hcd
            cases hcd))
          go_wp2
          go_ret2
          exact ⟨_, _, rfl, HN.out, k1⟩
        · have hm2 : m < 100000000 := by have := (isDg_iff q[0]).1 hd0; omega
          have HM : Hid (10 * m + (q[1].toNat - 48) = 100 * a + dg2 q[0] q[1]) := Lib.hid (by unfold dg2; omega)
          clear hm
          go_wp2
          go_round
          case rel => exact ⟨2, 10 * m + (q[1].toNat - 48), rfl, by go_num, .inr (.inr ⟨rfl, HM.out, hd0, dg_of hc.1 hc.2⟩)⟩
          case measure => simp [RowKit.intOf]
      · have hm2 : m < 1000000000 := by
          have e1 := (isDg_iff q[0]).1 hd0
          have e2 := (isDg_iff q[1]).1 hd1
          unfold dg2 at hm
          omega
        have HY := Lib.hid (fun v hv => rd_yes (l := s.data.toList) (v := v) (HQ.out ▸ HST.out) HA.out hv)
        rw [HT.out.2, ← hm, hneg] at HY
        clear hm hd0 hd1
        go_wp2_with fail
        refine (poGood_any _ _).mono ?_
        rintro e w2 ⟨rfl, rfl⟩
        have hY := HY.out (-(m : Int)) (by simp)
        clear HY
        by_cases hg : inB (-(m : Int)) (-1000000) 1000000 = true
        case neg =>
          simp only [Bool.not_eq_true] at hg
          have HN : Hid (IsRead s.data.toList 0 false) := Lib.hid (hY.2 (fun h => by
            have h2 : inB (-(m : Int)) (-1000000) 1000000 = true := by unfold inB; rw [decide_eq_true h.1.1, decide_eq_true h.1.2]; rfl
            rw [hg] at h2
            cases h2))
          rw [hg]
          clear hg hY
          go_wp2_with fail
          go_ret2
          exact ⟨_, _, rfl, HN.out, k1⟩
        have hgr := inB_true hg
        rw [hg]
        clear hg
        have CT := Lib.hid (poText_any (-(m : Int)) hgr w1)
        by_cases he : ptT (-(m : Int)) = s
        · have HN : Hid (IsRead s.data.toList (-(m : Int)) true) := Lib.hid (hY.1 ⟨hgr, by rw [← he]; rfl⟩)
          rw [he] at CT
          clear hY hgr he
          go_wp2_with fail
          refine (CT.out).mono ?_
          rintro e w2 ⟨rfl, k2⟩
          go_wp2_with fail
          go_ret2
          exact ⟨_, _, rfl, HN.out, k1.trans k2⟩
        · have HN : Hid (IsRead s.data.toList 0 false) := Lib.hid (hY.2 (fun h => he (by show tx _ = _; rw [h.2, tx_of])))
          clear hY hgr
          generalize ptT (-(m : Int)) = z at CT he
          have he2 : ¬ z.toList = s.toList := fun e => he (by rw [toList_data, toList_data] at e; rw [← tx_of z, ← tx_of s, e])
          have he3 : (z.toList == s.toList) = false := beq_eq_false_iff_ne.2 he2
          go_wp2_with fail
          refine (CT.out).mono ?_
          rintro e w2 ⟨rfl, k2⟩
          go_wp2_with fail
          go_ret2
          exact ⟨_, _, rfl, HN.out, k1.trans k2⟩
  · have h3 := h2.symm
    subst h3
    clear h2
    have hq : ((s[0].toNat : Int) == 45) = false := (by rw [beq_eq_false_iff_ne]; omega)
    go_enter Tryz.func37, Tryz.ntmps37
    go_wp2_with fail
    refine (CS.out _).mono ?_
    rintro e w1 ⟨v1, rfl, o1, k1⟩
    rcases ownS_cases o1 with ⟨rfl, hn⟩ | ⟨g, cap, rfl, hc1, hc2⟩
    · exact absurd hn (spB_ne _ s)
    unfold maxLen at hc2
    by_cases hl : (spB 46 s).length = 2
    case neg =>
      have HN : Hid (IsRead s.data.toList 0 false) := Lib.hid (rd_no (fun p c d a hsp _ _ _ => hl (by rw [spB_len, ← HT.out.1, hsp]; rfl)))
      clear o1
      go_wp2_with fail
      go_ret2
      exact ⟨_, _, rfl, HN.out, k1⟩
    obtain ⟨p, q, hpq⟩ := lt_two hl
    have HSP := Lib.hid (spB_two hpq)
    obtain ⟨b0, i0, z0, e0, hb0, hz0, hx0⟩ := strs_at (k := 0) o1.strs.1.addr (by omega)
    obtain ⟨b1, i1, z1, e1, hb1, hz1, hx1⟩ := strs_at (k := 1) o1.strs.1.addr (by omega)
    have X0 : w1.cell? ⟨g, 0, none⟩ = some (.string p) ∧ w1.cell? ⟨g, 1, none⟩ = some (.string q) := by
      cases e0
      cases e1
      rw [hpq] at hz0 hz1
      simp at hz0 hz1
      subst hz0 hz1
      exact ⟨by simpa using hx0, by simpa using hx1⟩
    obtain ⟨x0, x1⟩ := X0
    have hgl : g < w1.heap.size := own_lt o1.1
    have HPS : Hid (p.size ≤ maxLen) := Lib.hid (o1.2 p (by rw [hpq]; simp))
    have HST := Lib.hid (HT.out.1.symm ▸ HSP.out : splitOn 46 (trimPrefix s.data.toList [45]) = [p.data.toList, q.data.toList])
    clear e0 e1 hz0 hz1 hx0 hx1 hb0 hb1 o1 hpq
    by_cases hq2 : q.size = 2
    case neg =>
      have HN : Hid (IsRead s.data.toList 0 false) := Lib.hid (rd_no (fun p' c d a hsp _ _ _ => by
        rw [HST.out] at hsp
        simp only [List.cons.injEq, and_true] at hsp
        apply hq2
        rw [size_eq, hsp.2]
        rfl))
      go_wp2_with fail
      go_ret2
      exact ⟨_, _, rfl, HN.out, k1⟩
    have HQ := Lib.hid (two_of hq2)
    by_cases hr : rdV 6 p < 0
    case pos =>
      have HN : Hid (IsRead s.data.toList 0 false) := Lib.hid (rd_no (fun p' c d a hsp ha _ _ => by
        rw [HST.out] at hsp
        simp only [List.cons.injEq, and_true] at hsp
        rw [← hsp.1, rdV_neg.1 hr] at ha
        cases ha))
      go_wp2_with (go_at_call 64; refine (l1Read_any p _ HPS.out).mono ?_; rintro e w' ⟨rfl, rfl⟩)
      go_ret2
      exact ⟨_, _, rfl, HN.out, k1⟩
    obtain ⟨a, ha, hv, hab⟩ := rdV_some (fun n h => rn6_lt h) hr
    have HA := Lib.hid ha
    have HV := Lib.hid hv
    clear ha hv hr
    go_wp2_with (go_at_call 64; refine (l1Read_any p _ HPS.out).mono ?_; rintro e w' ⟨rfl, rfl⟩; rw [HV.out])
    go_loop [7, 8] (fun n i => ∃ k m : Nat, i = .int .i64 k ∧ n = .int .i64 m ∧ ((k = 0 ∧ m = a) ∨ (k = 1 ∧ m = 10 * a + (q[0].toNat - 48) ∧ isDg q[0] = true) ∨ (k = 2 ∧ m = 100 * a + dg2 q[0] q[1] ∧ isDg q[0] = true ∧ isDg q[1] = true))) (fun _ i => 2 - (RowKit.intOf i).toNat)
    case atStart => exact ⟨0, a, rfl, rfl, .inl ⟨rfl, rfl⟩⟩
    case round =>
      obtain ⟨k, m, rfl, rfl, hrel⟩ := hrel
      rcases hrel with ⟨rfl, rfl⟩ | ⟨rfl, hm, hd0⟩ | ⟨rfl, hm, hd0, hd1⟩
      · rcases byte3 q[0].toNat with hc | hc | hc
        · have HN : Hid (IsRead s.data.toList 0 false) := Lib.hid (rd_no (fun p' c d a hsp _ hcd _ => by
            rw [HST.out, HQ.out] at hsp
            simp only [List.cons.injEq, and_true] at hsp
            rw [← hsp.2.1, dg_not (.inl hc)] at hcd
            cases hcd))
          go_wp2
          go_ret2
          exact ⟨_, _, rfl, HN.out, k1⟩
        · have HN : Hid (IsRead s.data.toList 0 false) := Lib.hid (rd_no (fun p' c d a hsp _ hcd _ => by
            rw [HST.out, HQ.out] at hsp
            simp only [List.cons.injEq, and_true] at hsp
            rw [← hsp.2.1, dg_not (.inr hc)] at hcd
            cases hcd))
          go_wp2
          go_ret2
          exact ⟨_, _, rfl, HN.out, k1⟩
        · go_wp2
          go_round
          case rel => exact ⟨1, 10 * m + (q[0].toNat - 48), rfl, by go_num, .inr (.inl ⟨rfl, rfl, dg_of hc.1 hc.2⟩)⟩
          case measure => simp [RowKit.intOf]
      · rcases byte3 q[1].toNat with hc | hc | hc
        · have HN : Hid (IsRead s.data.toList 0 false) := Lib.hid (rd_no (fun p' c d a hsp _ _ hcd => by
            rw [HST.out, HQ.out] at hsp
            simp only [List.cons.injEq, and_true] at hsp
            rw [← hsp.2.2, dg_not (.inl hc)] at hcd
            cases hcd))
          go_wp2
          go_ret2
          exact ⟨_, _, rfl, HN.out, k1⟩
        · have HN : Hid (IsRead s.data.toList 0 false) := Lib.hid (rd_no (fun p' c d a hsp _ _ hcd => by
            rw [HST.out, HQ.out] at hsp
            simp only [List.cons.injEq, and_true] at hsp
            rw [← hsp.2.2, dg_not (.inr hc)] at hcd
            cases hcd))
          go_wp2
          go_ret2
          exact ⟨_, _, rfl, HN.out, k1⟩
        · have hm2 : m < 100000000 := by have := (isDg_iff q[0]).1 hd0; omega
          have HM : Hid (10 * m + (q[1].toNat - 48) = 100 * a + dg2 q[0] q[1]) := Lib.hid (by unfold dg2; omega)
          clear hm
          go_wp2
          go_round
          case rel => exact ⟨2, 10 * m + (q[1].toNat - 48), rfl, by go_num, .inr (.inr ⟨rfl, HM.out, hd0, dg_of hc.1 hc.2⟩)⟩
          case measure => simp [RowKit.intOf]
      · have hm2 : m < 1000000000 := by
          have e1 := (isDg_iff q[0]).1 hd0
          have e2 := (isDg_iff q[1]).1 hd1
          unfold dg2 at hm
          omega
        have HY := Lib.hid (fun v hv => rd_yes (l := s.data.toList) (v := v) (HQ.out ▸ HST.out) HA.out hv)
        rw [HT.out.2, ← hm, hneg] at HY
        clear hm hd0 hd1
        go_wp2_with fail
        refine (poGood_any _ _).mono ?_
        rintro e w2 ⟨rfl, rfl⟩
        have hY := HY.out (m : Int) (by simp)
        clear HY
        by_cases hg : inB (m : Int) (-1000000) 1000000 = true
        case neg =>
          simp only [Bool.not_eq_true] at hg
          have HN : Hid (IsRead s.data.toList 0 false) := Lib.hid (hY.2 (fun h => by
            have h2 : inB (m : Int) (-1000000) 1000000 = true := by unfold inB; rw [decide_eq_true h.1.1, decide_eq_true h.1.2]; rfl
            rw [hg] at h2
            cases h2))
          rw [hg]
          clear hg hY
          go_wp2_with fail
          go_ret2
          exact ⟨_, _, rfl, HN.out, k1⟩
        have hgr := inB_true hg
        rw [hg]
        clear hg
        have CT := Lib.hid (poText_any (m : Int) hgr w1)
        by_cases he : ptT (m : Int) = s
        · have HN : Hid (IsRead s.data.toList (m : Int) true) := Lib.hid (hY.1 ⟨hgr, by rw [← he]; rfl⟩)
          rw [he] at CT
          clear hY hgr he
          go_wp2_with fail
          refine (CT.out).mono ?_
          rintro e w2 ⟨rfl, k2⟩
          go_wp2_with fail
          go_ret2
          exact ⟨_, _, rfl, HN.out, k1.trans k2⟩
        · have HN : Hid (IsRead s.data.toList 0 false) := Lib.hid (hY.2 (fun h => he (by show tx _ = _; rw [h.2, tx_of])))
          clear hY hgr
          generalize ptT (m : Int) = z at CT he
          have he2 : ¬ z.toList = s.toList := fun e => he (by rw [toList_data, toList_data] at e; rw [← tx_of z, ← tx_of s, e])
          have he3 : (z.toList == s.toList) = false := beq_eq_false_iff_ne.2 he2
          go_wp2_with fail
          refine (CT.out).mono ?_
          rintro e w2 ⟨rfl, k2⟩
          go_wp2_with fail
          go_ret2
          exact ⟨_, _, rfl, HN.out, k1.trans k2⟩
end Go.Proofs.YtldinfdbkffdpaaGreatDoor

/- The rows' step for statements that list package-level variables: the wrap with the listed variables and the world's shape; what the listed variables give a walk. -/
namespace Go.Proofs.YtldinfdbkffdpaaGreatDoor
set_option linter.unusedVariables false
set_option linter.unusedSimpArgs false
set_option linter.unnecessarySimpa false
open Go.ChangeShapes Go.WideShapes Go.ChangeAt Go.RowKit

theorem returns_lot {H : Type} {enc : TypeId × Value → H} {a : Assume} {C : Checked} {os : Os} {f : FuncId} {fn : Func} {s : ChangeSpec} {conds : List PathCond} {apart fresh handsOn again : Bool} {X : World → Array Value → Prop}
    (hX : ∀ (w w' : World) (args : Array Value), w.heap = w'.heap → X w args → X w' args)
    (own : ownKnob C.prog.godebug = none) (started : os.Started) (noInit : C.prog.inits.idxOf? f = none) (hfn : C.prog.funcs[f]? = some fn)
    (witness : ∃ (w : World) (tape : Tape) (i : Input), w.os = os ∧ (w.forCall tape i).Shaped C.prog ∧ i.vars = [] ∧ Input.okWide C.prog (w.forCall tape i) .any w.heap.size f i ∧
      ((s.pre enc C.prog fn conds apart (w.forCall tape i).memory i.args ∧ X (w.forCall tape i).memory i.args) ∧ sizedMet enc C.prog fn (OpenSpec.ofChange s) apart (w.forCall tape i).memory i.args) ∧ a.holds C.prog (lone (Frame.enter C.prog f i.args .normal) [] (w.forCall tape i)))
    (contract : ∀ (W : World) (base : Nat) (args : Array Value) (ds gs : List (DataW H)) (before : List MemPlace),
      (∀ (j : Nat) t v, fn.params[j]? = some t → args[j]? = some v → Value.okWide C.prog W .any base t v) →
      DataW.Whole enc C.prog fn.params.toList s.vars apart W args.toList ds gs before →
      X W args → W.ShapedOpen C.prog →
      Calls C.prog f args W fun e W' => ∃ v, e = .returned v ∧ s.post enc C.prog fn apart fresh handsOn again W args v W') :
    ReturnsInHanded a C os f .any (fun w args => (s.pre enc C.prog fn conds apart w args ∧ X w args) ∧ sizedMet enc C.prog fn (OpenSpec.ofChange s) apart w args) (s.post enc C.prog fn apart fresh handsOn again) := by
  refine returnsInHanded_of_calls own started noInit witness ?_
  intro w tape i _ hsh _ hok hpre hholds
  obtain ⟨_, _, _, fn', hfn', _, _, _, _, hval⟩ := hok
  have e : fn' = fn := Option.some.inj (hfn'.symm.trans hfn)
  subst e
  obtain ⟨⟨⟨ds, gs, before, hw, hc⟩, hx⟩, hz⟩ := hpre
  have hw' := DataW.Whole.of_heap (w' := w.forCall tape i) (by rfl) hw
  refine (contract (w.forCall tape i) w.heap.size i.args ds gs before hval hw' (hX _ _ _ (by rfl) hx) hsh).mono fun e W' ⟨v, he, hp⟩ => ?_
  subst he
  exact ChangeSpec.post_blind hp
theorem tab_of {W : World} (h : laidMet Tryz.prog [("math/bits.deBruijn32tab", Rows.laid_math_bits_deBruijn32tab), ("math/bits.deBruijn64tab", Rows.laid_math_bits_deBruijn64tab), ("internal/strconv.uint64pow10", Rows.laid_internal_strconv_uint64pow10)] W) : HasTab W := by
  have h3 := h.tail.tail
  have e : (Rows.laid_internal_strconv_uint64pow10 : DataW Unit) = Lib.tabData .u64 Lib.pow10Tab := by kernel_rfl
  rw [e] at h3
  have hg : Tryz.prog.globalNamed "internal/strconv.uint64pow10" = some 1 := by kernel_rfl
  have ht := Lib.tabIs_of_head (g := 1) hg (by kernel_rfl) Tryz.underlying102 Tryz.underlying44 (by kernel_rfl) (by kernel_rfl) h3
  refine ⟨ht, ?_⟩
  have hv := ht.cell hg 0 (by decide)
  unfold World.cell? at hv
  cases hh : W.heap[1]? with
  | none => rw [hh] at hv; cases hv
  | some o => exact (Array.getElem?_eq_some_iff.1 hh).1
def HasMax (w : World) : Prop := ∃ m, w.cell? ⟨0, 0, none⟩ = some (.int .i64 m)
theorem cell_lt {w : World} {g o : Nat} {v : Value} (h : w.cell? ⟨g, o, none⟩ = some v) : g < w.heap.size := by
  unfold World.cell? at h
  cases hh : w.heap[g]? with
  | none => simp [hh] at h
  | some o => exact (Array.getElem?_eq_some_iff.1 hh).1
theorem HasMax.kept {w w' : World} (h : HasMax w) (k : Kept w w') : HasMax w' := by
  obtain ⟨m, hm⟩ := h
  exact ⟨m, (k.cell (p := ⟨0, 0, none⟩) (cell_lt hm)).trans hm⟩
theorem max_of {W : World} (h : W.ShapedOpen Tryz.prog) : HasMax W :=
  Go.Proofs.cell_of_shapedOpen_int (zero := #[.int .i64 0]) (t := 3) h (of_decide_eq_true (by kernel_rfl)) (by kernel_rfl) rfl (by kernel_rfl) (by kernel_rfl) Tryz.underlying3
end Go.Proofs.YtldinfdbkffdpaaGreatDoor

/- Points: reading their text, the program's side; the law. -/
namespace Go.Proofs.YtldinfdbkffdpaaGreatDoor
set_option linter.unusedVariables false
set_option linter.unusedSimpArgs false
set_option linter.unnecessarySimpa false
open Go.RowKit Go.Lib

/-- where one of the program's steps fails, there is no number with the text -/
theorem ri_no {l : List UInt8} (h : ∀ u : Nat, u ≤ 1000000 → trimPrefix l [45] = ptN u → False) : IsRead l 0 false := by
  refine .inr ⟨rfl, rfl, fun n hg e => ?_⟩
  subst e
  unfold ptGood at hg
  exact h n.natAbs (by omega) (ptxt_sign n).1
/-- what the program's steps compute is the only candidate -/
theorem ri_yes {l : List UInt8} {a b : Nat} {v : Int} (ha : readNum 12 (cut (trimPrefix l [45]) [46]).1 = some a) (hb : readNum 12 (trimPrefix (cut (trimPrefix l [45]) [46]).2.1 [48]) = some b)
    (hv : v = if hasPrefix l [45] then -((100 * a + b : Nat) : Int) else ((100 * a + b : Nat) : Int)) :
    (ptGood v ∧ ptxt v = l → IsRead l v true) ∧ (¬ (ptGood v ∧ ptxt v = l) → IsRead l 0 false) := by
  refine ⟨fun h => .inl ⟨rfl, h.1, h.2⟩, fun h => .inr ⟨rfl, rfl, fun n hg e => ?_⟩⟩
  have hvn : v = n := by
    obtain ⟨h1, h2⟩ := ptxt_sign n
    rw [e] at h1 h2
    rw [h1, ptN_cut] at ha hb
    rw [cents_read] at hb
    unfold ptGood at hg
    rw [readNum_dec (k := 11) (by omega)] at ha
    have ha := Option.some.inj ha
    have hb := Option.some.inj hb
    rw [hv, h2]
    by_cases hn : n < 0
    · rw [decide_eq_true hn]; simp; omega
    · rw [decide_eq_false hn]; simp; omega
  subst hvn
  exact h ⟨hg, e⟩
theorem rn12_lt {l : List UInt8} {a : Nat} (h : readNum 12 l = some a) : a < 1000000000000 := by
  unfold readNum at h
  split at h
  · cases h
  · rename_i hn
    simp only [not_or] at hn
    have h1 := dval_lt' l (by simpa using hn.2.2.2)
    have h2 : 10 ^ l.length ≤ 10 ^ 12 := Nat.pow_le_pow_right (by decide) (by omega)
    have h3 := Option.some.inj h
    omega
theorem cut_len (l : List UInt8) (sep : List UInt8) : (cut l sep).1.length ≤ l.length ∧ (cut l sep).2.1.length ≤ l.length := by
  unfold cut
  split
  · refine ⟨?_, ?_⟩
    · rw [List.length_take]; omega
    · rw [List.length_drop]; omega
  · exact ⟨Nat.le_refl _, Nat.zero_le _⟩
theorem trim_len (l p : List UInt8) : (trimPrefix l p).length ≤ l.length := by
  unfold trimPrefix
  split
  · rw [List.length_drop]; omega
  · exact Nat.le_refl _
theorem nt_cases (s : ByteArray) : (ntB 12 s = false ∧ ntV 12 s = 0 ∧ readNum 12 s.data.toList = none) ∨ ∃ a : Nat, ntB 12 s = true ∧ ntV 12 s = (a : Int) ∧ readNum 12 s.data.toList = some a ∧ a < 1000000000000 := by
  cases h : readNum 12 s.data.toList with
  | none => exact .inl ⟨(nt_none h).2.symm, (nt_none h).1.symm, rfl⟩
  | some a => exact .inr ⟨a, (nt_some h).2.symm, (nt_some h).1.symm, rfl, rn12_lt h⟩
set_option maxRecDepth 100000 in
set_option maxHeartbeats 16000000 in
theorem implReadPoints_any (s : ByteArray) (w : World) (hs : s.size ≤ 1048576) (ht : HasTab w) (hmx : HasMax w) :
    Calls Tryz.prog 8 #[.string s] w fun e w' => RdPost s.data.toList w e w' := by
  have HTB := Lib.hid ht
  have HMX := Lib.hid hmx
  clear ht hmx
  obtain ⟨r, HR, hrs⟩ : ∃ r : ByteArray, Hid (r.data.toList = trimPrefix s.data.toList [45]) ∧ r.size ≤ 1048576 :=
    ⟨tx (trimPrefix s.data.toList [45]), Lib.hid (tx_data _), by rw [tx_size]; have := trim_len s.data.toList [45]; rw [← size_eq] at this; omega⟩
  have CP : Hid (∀ w0 : World, Calls Tryz.prog 30 #[.string s, .string ⟨#[45]⟩] w0 fun e w' => e = .returned (.tuple #[.string r, .bool (hasPrefix s.data.toList [45])]) ∧ w' = w0) := Lib.hid (fun w0 => by
    have e : r = tx (trimPrefix s.data.toList [45]) := by rw [← HR.out, tx_of]
    rw [e]
    exact Tryz.strings_CutPrefix s ⟨#[45]⟩ w0)
  generalize hneg : hasPrefix s.data.toList [45] = neg at CP
  have HNEG := Lib.hid hneg
  clear hneg
  obtain ⟨wh, HWH, hwh⟩ : ∃ x : ByteArray, Hid (x.data.toList = (cut r.data.toList [46]).1) ∧ x.size ≤ 1048576 :=
    ⟨tx (cut r.data.toList [46]).1, Lib.hid (tx_data _), by rw [tx_size]; have := (cut_len r.data.toList [46]).1; rw [← size_eq] at this; omega⟩
  obtain ⟨pt, HPT, hpt⟩ : ∃ x : ByteArray, Hid (x.data.toList = (cut r.data.toList [46]).2.1) ∧ x.size ≤ 1048576 :=
    ⟨tx (cut r.data.toList [46]).2.1, Lib.hid (tx_data _), by rw [tx_size]; have := (cut_len r.data.toList [46]).2; rw [← size_eq] at this; omega⟩
  have CC : Hid (∀ w0 : World, HasMax w0 → Calls Tryz.prog 31 #[.string r, .string ⟨#[46]⟩] w0 fun e w' => e = .returned (.tuple #[.string wh, .string pt, .bool (cut r.data.toList [46]).2.2]) ∧ Kept w0 w') := Lib.hid (fun w0 hm => by
    obtain ⟨m, hm⟩ := hm
    have e1 : wh = tx (cut r.data.toList [46]).1 := by rw [← HWH.out, tx_of]
    have e2 : pt = tx (cut r.data.toList [46]).2.1 := by rw [← HPT.out, tx_of]
    rw [e1, e2]
    refine (Tryz.strings_Cut r ⟨#[46]⟩ m w0 (by omega) hm).mono ?_
    rintro e w' ⟨h1, n, h2⟩
    exact ⟨h1, by rw [h2]; exact (Kept.refl w0).drewN n⟩)
  generalize hfd : (cut r.data.toList [46]).2.2 = fd at CC
  have HFD := Lib.hid hfd
  clear hfd
  obtain ⟨tp, HTP, htp⟩ : ∃ x : ByteArray, Hid (x.data.toList = trimPrefix pt.data.toList [48]) ∧ x.size ≤ 1048576 :=
    ⟨tx (trimPrefix pt.data.toList [48]), Lib.hid (tx_data _), by rw [tx_size]; have := trim_len pt.data.toList [48]; rw [← size_eq] at this; omega⟩
  have CT : Hid (∀ w0 : World, Calls Tryz.prog 33 #[.string pt, .string ⟨#[48]⟩] w0 fun e w' => e = .returned (.string tp) ∧ w' = w0) := Lib.hid (fun w0 => by
    have e : tp = tx (trimPrefix pt.data.toList [48]) := by rw [← HTP.out, tx_of]
    rw [e]
    exact Tryz.strings_TrimPrefix pt ⟨#[48]⟩ w0)
  have N1 : Hid (∀ w0 : World, Calls Tryz.prog 32 #[.string wh] w0 fun e w' => e = .returned (.tuple #[.int .i64 (ntV 12 wh), .bool (ntB 12 wh)]) ∧ w0 = w') := Lib.hid (fun w0 => natural_any wh w0 (by unfold maxLen; omega))
  have N2 : Hid (∀ w0 : World, Calls Tryz.prog 32 #[.string tp] w0 fun e w' => e = .returned (.tuple #[.int .i64 (ntV 12 tp), .bool (ntB 12 tp)]) ∧ w0 = w') := Lib.hid (fun w0 => natural_any tp w0 (by unfold maxLen; omega))
  have HNO : Hid (fd = false ∨ readNum 12 wh.data.toList = none ∨ ¬ pt.size = 2 ∨ (∃ a, readNum 12 wh.data.toList = some a ∧ 1000000 < a) ∨ readNum 12 tp.data.toList = none → IsRead s.data.toList 0 false) := Lib.hid (fun hh => ri_no (fun u hu e => by
    have hc := ptN_cut u
    rw [← e, ← HR.out] at hc
    have e1 := HWH.out
    have e2 := HPT.out
    have e3 := HTP.out
    have e4 := HFD.out
    rw [hc] at e1 e2 e4
    simp only at e1 e2 e4
    have hr1 : readNum 12 wh.data.toList = some (u / 100) := by rw [e1]; exact readNum_dec (k := 11) (by omega)
    have hr2 : readNum 12 tp.data.toList = some (u % 100) := by rw [e3, e2]; exact cents_read u
    rcases hh with h | h | h | ⟨a, h, h'⟩ | h
    · rw [← e4] at h; cases h
    · rw [hr1] at h; cases h
    · apply h; rw [size_eq, e2, two_digits]; rfl
    · rw [hr1] at h; have := Option.some.inj h; omega
    · rw [hr2] at h; cases h))
  clear hwh hpt htp hrs
  go_enter Tryz.func8, Tryz.ntmps8
  go_wp2_with fail
  refine (CP.out _).mono ?_
  rintro e w0 ⟨rfl, rfl⟩
  go_wp2_with fail
  refine (CC.out _ HMX.out).mono ?_
  rintro e w1 ⟨rfl, k1⟩
  go_wp2_with fail
  refine (N1.out _).mono ?_
  rintro e w2 ⟨rfl, rfl⟩
  rcases nt_cases wh with ⟨hb, hv, hn⟩ | ⟨a, hb, hv, hn, hab⟩
  · have HN := Lib.hid (HNO.out (.inr (.inl hn)))
    rw [hb, hv]
    clear hb hv hn
    cases fd with
    | false =>
      go_wp2_with fail
      go_ret2
      exact ⟨_, _, rfl, HN.out, k1⟩
    | true =>
      go_wp2_with fail
      go_ret2
      exact ⟨_, _, rfl, HN.out, k1⟩
  rw [hb, hv]
  have HA := Lib.hid hn
  clear hb hv hn
  cases hfd : fd with
  | false =>
    have HN := Lib.hid (HNO.out (.inl hfd))
    clear hfd
    go_wp2_with fail
    go_ret2
    exact ⟨_, _, rfl, HN.out, k1⟩
  | true =>
  clear hfd
  by_cases hp2 : pt.size = 2
  case neg =>
    have HN := Lib.hid (HNO.out (.inr (.inr (.inl hp2))))
    go_wp2_with fail
    go_ret2
    exact ⟨_, _, rfl, HN.out, k1⟩
  by_cases hbig : 1000000 < a
  case pos =>
    have HN := Lib.hid (HNO.out (.inr (.inr (.inr (.inl ⟨a, HA.out, hbig⟩)))))
    have hbig' : (1000000 : Int) < (a : Int) := by omega
    go_wp2_with fail
    go_ret2
    exact ⟨_, _, rfl, HN.out, k1⟩
  have hbig' : ¬ (1000000 : Int) < (a : Int) := by omega
  go_wp2_with fail
  refine (CT.out _).mono ?_
  rintro e w3 ⟨rfl, rfl⟩
  go_wp2_with fail
  refine (N2.out _).mono ?_
  rintro e w4 ⟨rfl, rfl⟩
  rcases nt_cases tp with ⟨hb, hv, hn⟩ | ⟨b, hb, hv, hn, hbb⟩
  · have HN := Lib.hid (HNO.out (.inr (.inr (.inr (.inr hn)))))
    rw [hb, hv]
    clear hb hv hn
    go_wp2_with fail
    go_ret2
    exact ⟨_, _, rfl, HN.out, k1⟩
  rw [hb, hv]
  clear hb hv
  have HY := Lib.hid (fun v hv => ri_yes (l := s.data.toList) (v := v) (a := a) (b := b) (by rw [← HR.out, ← HWH.out]; exact HA.out) (by rw [← HR.out, ← HPT.out, ← HTP.out]; exact hn) hv)
  rw [HNEG.out] at HY
  clear hn HNO
  cases neg with
  | false =>
    have hY := HY.out (100 * (a : Int) + (b : Int)) (by simp)
    clear HY
    go_wp2_with fail
    refine (arePoints_any _ [(100 * (a : Int) + (b : Int))] _ (ints_one _ (100 * (a : Int) + (b : Int)) _)).mono ?_
    rintro e w5 ⟨rfl, rfl⟩
    rw [show [(100 * (a : Int) + (b : Int))].all (inB · (-1000000) 1000000) = inB (100 * (a : Int) + (b : Int)) (-1000000) 1000000 from by simp]
    have k2 := k1.alloc (.cells #[.int .i64 (100 * (a : Int) + (b : Int))] 3)
    by_cases hg : inB (100 * (a : Int) + (b : Int)) (-1000000) 1000000 = true
    case neg =>
      simp only [Bool.not_eq_true] at hg
      have HN : Hid (IsRead s.data.toList 0 false) := Lib.hid (hY.2 (fun h => by
        have h2 : inB (100 * (a : Int) + (b : Int)) (-1000000) 1000000 = true := by unfold inB; rw [decide_eq_true h.1.1, decide_eq_true h.1.2]; rfl
        rw [hg] at h2
        cases h2))
      rw [hg]
      clear hg hY
      go_wp2_with fail
      go_ret2
      exact ⟨_, _, rfl, HN.out, k2⟩
    have hgr := inB_true hg
    rw [hg]
    clear hg
    have CQ := Lib.hid (pointsText_any (100 * (a : Int) + (b : Int)) hgr _ (HTB.out.kept k2))
    by_cases he : ptT (100 * (a : Int) + (b : Int)) = s
    · have HN : Hid (IsRead s.data.toList (100 * (a : Int) + (b : Int)) true) := Lib.hid (hY.1 ⟨hgr, by rw [← he]; rfl⟩)
      rw [he] at CQ
      clear hY hgr he
      go_wp2_with fail
      refine (CQ.out).mono ?_
      rintro e w2 ⟨rfl, k3⟩
      go_wp2_with fail
      go_ret2
      exact ⟨_, _, rfl, HN.out, k2.trans k3⟩
    · have HN : Hid (IsRead s.data.toList 0 false) := Lib.hid (hY.2 (fun h => he (by show tx _ = _; rw [h.2, tx_of])))
      clear hY hgr
      generalize ptT (100 * (a : Int) + (b : Int)) = z at CQ he
      have he2 : ¬ z.toList = s.toList := fun e => he (by rw [toList_data, toList_data] at e; rw [← tx_of z, ← tx_of s, e])
      have he3 : (z.toList == s.toList) = false := beq_eq_false_iff_ne.2 he2
      go_wp2_with fail
      refine (CQ.out).mono ?_
      rintro e w2 ⟨rfl, k3⟩
      go_wp2_with fail
      go_ret2
      exact ⟨_, _, rfl, HN.out, k2.trans k3⟩
  | true =>
    have hY := HY.out (-(100 * (a : Int) + (b : Int))) (by simp)
    clear HY
    go_wp2_with fail
    refine (arePoints_any _ [(-(100 * (a : Int) + (b : Int)))] _ (ints_one _ (-(100 * (a : Int) + (b : Int))) _)).mono ?_
    rintro e w5 ⟨rfl, rfl⟩
    rw [show [(-(100 * (a : Int) + (b : Int)))].all (inB · (-1000000) 1000000) = inB (-(100 * (a : Int) + (b : Int))) (-1000000) 1000000 from by simp]
    have k2 := k1.alloc (.cells #[.int .i64 (-(100 * (a : Int) + (b : Int)))] 3)
    by_cases hg : inB (-(100 * (a : Int) + (b : Int))) (-1000000) 1000000 = true
    case neg =>
      simp only [Bool.not_eq_true] at hg
      have HN : Hid (IsRead s.data.toList 0 false) := Lib.hid (hY.2 (fun h => by
        have h2 : inB (-(100 * (a : Int) + (b : Int))) (-1000000) 1000000 = true := by unfold inB; rw [decide_eq_true h.1.1, decide_eq_true h.1.2]; rfl
        rw [hg] at h2
        cases h2))
      rw [hg]
      clear hg hY
      go_wp2_with fail
      go_ret2
      exact ⟨_, _, rfl, HN.out, k2⟩
    have hgr := inB_true hg
    rw [hg]
    clear hg
    have CQ := Lib.hid (pointsText_any (-(100 * (a : Int) + (b : Int))) hgr _ (HTB.out.kept k2))
    by_cases he : ptT (-(100 * (a : Int) + (b : Int))) = s
    · have HN : Hid (IsRead s.data.toList (-(100 * (a : Int) + (b : Int))) true) := Lib.hid (hY.1 ⟨hgr, by rw [← he]; rfl⟩)
      rw [he] at CQ
      clear hY hgr he
      go_wp2_with fail
      refine (CQ.out).mono ?_
      rintro e w2 ⟨rfl, k3⟩
      go_wp2_with fail
      go_ret2
      exact ⟨_, _, rfl, HN.out, k2.trans k3⟩
    · have HN : Hid (IsRead s.data.toList 0 false) := Lib.hid (hY.2 (fun h => he (by show tx _ = _; rw [h.2, tx_of])))
      clear hY hgr
      generalize ptT (-(100 * (a : Int) + (b : Int))) = z at CQ he
      have he2 : ¬ z.toList = s.toList := fun e => he (by rw [toList_data, toList_data] at e; rw [← tx_of z, ← tx_of s, e])
      have he3 : (z.toList == s.toList) = false := beq_eq_false_iff_ne.2 he2
      go_wp2_with fail
      refine (CQ.out).mono ?_
      rintro e w2 ⟨rfl, k3⟩
      go_wp2_with fail
      go_ret2
      exact ⟨_, _, rfl, HN.out, k2.trans k3⟩
theorem specReadPoints_any (s : ByteArray) (w : World) (hs : s.size ≤ 1048576) :
    Calls Tryz.prog 10 #[.string s] w fun e w' => RdPost s.data.toList w e w' := by
  have C := Lib.hid (poRead_any s w hs)
  go_enter Tryz.func10, Tryz.ntmps10
  go_wp2_with fail
  refine (C.out).mono ?_
  rintro e w1 ⟨v, ok, rfl, h, k⟩
  have HH := Lib.hid h
  go_wp2_with fail
  go_ret2
  exact ⟨_, _, rfl, HH.out, k⟩
end Go.Proofs.YtldinfdbkffdpaaGreatDoor
