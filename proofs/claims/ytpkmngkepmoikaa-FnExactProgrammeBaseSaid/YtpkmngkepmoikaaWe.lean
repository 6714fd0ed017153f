/- Items over a code: repeats and bases. -/
import Derived.Test.YtpkmngkepmoikaaWd
namespace Go.Proofs.Ytpkmngkepmoikaa
set_option linter.unusedVariables false
set_option linter.unusedSimpArgs false
open Go.RowKit

def hasB (x : CodeD) (its : List ItemD) (k : Int) : Bool := gdB x its && inB k 0 ((its.length : Int) - 1)
theorem hasB_true {x : CodeD} {its : List ItemD} {k : Int} (h : hasB x its k = true) : gdB x its = true ∧ 0 ≤ k ∧ k.toNat < its.length := by
  unfold hasB at h
  rw [Bool.and_eq_true] at h
  have := inB_true h.2
  exact ⟨h.1, by omega, by omega⟩
theorem hasB_comm (x : CodeD) (its : List ItemD) (k : Int) : hasB x its k = (inB k 0 ((its.length : Int) - 1) && gdB x its) := Bool.and_comm _ _
theorem repP_eq {s z : ByteArray} {it : ItemD} {m : Int} (h : it.names[0]? = some z) (hm : it.marks[0]? = some m) : repP s it = (z.toList == s.toList && m != 3) := by
  unfold repP
  rw [h, hm]
  have e1 : ((some z : Option ByteArray) == some s) = (z.toList == s.toList) := by
    change (z.data == s.data) = (z.toList == s.toList)
    by_cases hz : z.toList = s.toList
    · obtain rfl := str_ext hz
      simp
    · have : ¬ z.data = s.data := fun e => hz (by cases z; cases s; simp_all)
      rw [beq_eq_false_iff_ne.2 this, beq_eq_false_iff_ne.2 hz]
  rw [e1]
  rfl
set_option maxHeartbeats 1000000 in
theorem bsHas_any (v0 v1 : Value) (x : CodeD) (its : List ItemD) (k : Int) (w : World) (h0 : CodeAt w v0 x) (h1 : ItemsAt w v1 its)  :
    Calls Try.prog 52 #[v0, v1, .int .i64 k] w fun e w' => e = .returned (.bool (hasB x its k)) ∧ Kept w w' := by
  have H0 := Lib.hid h0
  obtain ⟨n0, m0, rfl, p0, q0⟩ := h0
  have HE0 := Lib.hid p0; have HI0 := Lib.hid q0
  obtain ⟨A0, c0, rfl, hnc0, hcm0, _⟩ := p0.1.out; obtain ⟨D0, d0, rfl, hnd0, hdm0, _⟩ := q0.out; clear p0 q0; unfold maxLen at hcm0 hdm0
  have H1 := Lib.hid h1
  obtain ⟨A1, c1, cs1, rfl, hnc1, hcm1, hA1⟩ := h1.out; have HA1 := Lib.hid hA1; clear hA1 h1; unfold maxLen at hcm1
  go_enter Try.func52, Try.ntmps52
  have K0 := Kept.refl w
  go_wp2_with fail
  obtain ⟨wb1, hwb1⟩ : ∃ w' : World, w' = w.alloc (.cells #[.slice A0 x.elems.length c0, .slice D0 x.limits.length d0, .int .i64 x.repeats, .int .i64 x.bonus, .int .i64 x.keeps, .int .i64 x.fall] 32) := ⟨_, rfl⟩
  rw [← hwb1]
  have KB0 : Kept w wb1 := hwb1 ▸ (Kept.refl w).alloc _
  have B0 : Box wb1 (w.heap.size) 32 #[.slice A0 x.elems.length c0, .slice D0 x.limits.length d0, .int .i64 x.repeats, .int .i64 x.bonus, .int .i64 x.keeps, .int .i64 x.fall] := hwb1 ▸ Box.new w (w.heap.size) 32 #[.slice A0 x.elems.length c0, .slice D0 x.limits.length d0, .int .i64 x.repeats, .int .i64 x.bonus, .int .i64 x.keeps, .int .i64 x.fall] rfl
  have swb1 : wb1.heap.size = w.heap.size + 1 := by rw [hwb1]; simp
  clear hwb1
  have Kwb1 := K0.trans KB0
  refine (bsGood_any _ _ x its _ (H0.out.kept Kwb1) (H1.out.kept Kwb1)).mono ?_
  rintro e w1 ⟨rfl, k1⟩
  replace B0 := B0.kept k1
  have sz1 := k1.size
  have K1 := Kwb1.trans k1
  by_cases hg : gdB x its = true
  case neg =>
    simp only [Bool.not_eq_true] at hg
    rw [hg]
    have HO : Hid (hasB x its k = false) := Lib.hid (by unfold hasB; rw [hg]; rfl)
    obtain ⟨x0, y0⟩ := B0.six
    go_wp2_with fail
    clear x0 y0
    go_ret
    exact ⟨ret_bool HO.out.symm, K1⟩
  rw [hg]
  obtain ⟨x0, y0⟩ := B0.six
  go_wp2_with fail
  clear x0 y0
  refine (l1In_any _ _ _ _).mono ?_
  rintro e w' ⟨rfl, rfl⟩
  obtain ⟨x0, y0⟩ := B0.six
  go_wp2_with fail
  clear x0 y0
  go_ret
  exact ⟨ret_bool (by unfold hasB; rw [hg]; rfl), K1⟩
set_option maxHeartbeats 1000000 in
theorem hasKnown_any (v0 v1 : Value) (x : CodeD) (its : List ItemD) (k : Int) (w : World) (h0 : CodeAt w v0 x) (h1 : ItemsAt w v1 its)  :
    Calls Try.prog 55 #[v0, v1, .int .i64 k] w fun e w' => e = .returned (.bool (hasB x its k)) ∧ Kept w w' := by
  have H0 := Lib.hid h0
  obtain ⟨n0, m0, rfl, p0, q0⟩ := h0
  have HE0 := Lib.hid p0; have HI0 := Lib.hid q0
  obtain ⟨A0, c0, rfl, hnc0, hcm0, _⟩ := p0.1.out; obtain ⟨D0, d0, rfl, hnd0, hdm0, _⟩ := q0.out; clear p0 q0; unfold maxLen at hcm0 hdm0
  have H1 := Lib.hid h1
  obtain ⟨A1, c1, cs1, rfl, hnc1, hcm1, hA1⟩ := h1.out; have HA1 := Lib.hid hA1; clear hA1 h1; unfold maxLen at hcm1
  go_enter Try.func55, Try.ntmps55
  have K0 := Kept.refl w
  go_wp2_with fail
  obtain ⟨wb1, hwb1⟩ : ∃ w' : World, w' = w.alloc (.cells #[.slice A0 x.elems.length c0, .slice D0 x.limits.length d0, .int .i64 x.repeats, .int .i64 x.bonus, .int .i64 x.keeps, .int .i64 x.fall] 32) := ⟨_, rfl⟩
  rw [← hwb1]
  have KB0 : Kept w wb1 := hwb1 ▸ (Kept.refl w).alloc _
  have B0 : Box wb1 (w.heap.size) 32 #[.slice A0 x.elems.length c0, .slice D0 x.limits.length d0, .int .i64 x.repeats, .int .i64 x.bonus, .int .i64 x.keeps, .int .i64 x.fall] := hwb1 ▸ Box.new w (w.heap.size) 32 #[.slice A0 x.elems.length c0, .slice D0 x.limits.length d0, .int .i64 x.repeats, .int .i64 x.bonus, .int .i64 x.keeps, .int .i64 x.fall] rfl
  have swb1 : wb1.heap.size = w.heap.size + 1 := by rw [hwb1]; simp
  clear hwb1
  have Kwb1 := K0.trans KB0
  refine (within_any _ _ _ _).mono ?_
  rintro e w' ⟨rfl, rfl⟩
  by_cases hg : inB k 0 ((its.length : Int) - 1) = true
  case neg =>
    simp only [Bool.not_eq_true] at hg
    rw [hg]
    have HO : Hid (hasB x its k = false) := Lib.hid (by rw [hasB_comm, hg]; rfl)
    obtain ⟨x0, y0⟩ := B0.six
    go_wp2_with fail
    clear x0 y0
    go_ret
    exact ⟨ret_bool HO.out.symm, Kwb1⟩
  rw [hg]
  obtain ⟨x0, y0⟩ := B0.six
  go_wp2_with fail
  clear x0 y0
  refine (areKnown_any _ _ x its _ (H0.out.kept Kwb1) (H1.out.kept Kwb1)).mono ?_
  rintro e w1 ⟨rfl, k1⟩
  replace B0 := B0.kept k1
  have sz1 := k1.size
  have K1 := Kwb1.trans k1
  obtain ⟨x0, y0⟩ := B0.six
  go_wp2_with fail
  clear x0 y0
  go_ret
  exact ⟨ret_bool (by rw [hasB_comm, hg]; rfl), K1⟩
set_option maxHeartbeats 2000000 in
theorem bsRepeats_any (v0 : Value) (its : List ItemD) (k : Nat) (w : World) (h0 : ItemsAt w v0 its) (hb : itemsB its = true) (hk : k < its.length) :
    Calls Try.prog 82 #[v0, .int .i64 (k : Int)] w fun e w' => e = .returned (.int .i64 (repV its k)) ∧ Kept w w' := by
  have H0 := Lib.hid h0
  obtain ⟨A0, c0, cs0, rfl, hnc0, hcm0, hA0⟩ := h0.out; have HA0 := Lib.hid hA0; clear hA0 h0; unfold maxLen at hcm0
  obtain ⟨bk, ok, Ak, ck, Dk, dk, ik, rfl, hbk, hik, hik2, hitk, r0, r1, r2⟩ := items_at HA0.out hk
  obtain ⟨hk1, hk3, hkm⟩ := items_some hb hik
  obtain ⟨pk, qk⟩ := hitk.parts
  obtain ⟨bs, os, s, rfl, hbs, hs, hcs⟩ := strs_at pk.1.addr (k := 0) (by omega)
  rw [Nat.add_zero] at hcs
  have HRV := Lib.hid (repV_at hik hs)
  have HB := Lib.hid hb
  have hl14 := (itemsB_true hb).1
  have hlks : (0 : Int) < (ik.names.length : Int) := by omega
  have hkl : (k : Int) < (its.length : Int) := by omega
  have hkc : (k : Int) ≤ (c0 : Int) := by omega
  have RC := Lib.hid (⟨hcs, r0⟩ : _ ∧ _)
  clear hb hik hik2 hitk pk qk hs hkm hcs r0 r1 r2
  go_enter Try.func82, Try.ntmps82
  have K0 := Kept.refl w
  go_wp2_with fail
  go_loopw [5, 12] (fun q i wr => ∃ j : Nat, j ≤ k ∧ i = .int .i64 j ∧ q = .int .i64 (repN its j s : Int) ∧ Kept w wr) (fun _ i _ => k - (intOf i).toNat)
  case atStart => exact ⟨0, Nat.zero_le _, rfl, by simp [repN], Kept.refl _⟩
  case round =>
    obtain ⟨j, hj, rfl, rfl, hkept⟩ := hrel
    have szr := hkept.size
    have Kr := K0.trans hkept
    by_cases hlt : j < k
    · obtain ⟨b, o, Aa, ca, Ab, cb, it, hAA, hbb, h2, h3, hit, q0, q1, q2⟩ := items_at (HA0.out.kept Kr) (show j < its.length by omega)
      injection hAA with hAA; injection hAA with e1 e2; subst e1 e2
      obtain ⟨hi1, hi3, him⟩ := items_some HB.out h2
      obtain ⟨p1, p2⟩ := hit.parts
      obtain ⟨b1, o1, z, rfl, hb1, hz, hc1⟩ := strs_at p1.1.addr (k := 0) (by omega)
      obtain ⟨b2, o2, m, rfl, hb2, hm, hc2⟩ := ints_at p2.addr (k := 0) (by omega)
      rw [Nat.add_zero] at hc1 hc2
      have HP := Lib.hid (repP_eq (s := s) hz hm)
      have HN := Lib.hid (repN_snoc s h2)
      have hle := repN_le its j s
      have hli : (0 : Int) < (it.names.length : Int) := by omega
      have hlm : (0 : Int) < (it.marks.length : Int) := by omega
      clear h2 h3 hit p1 p2 hz hm him
      generalize repN its j s = rn at *
      have HC1 := Lib.hid hc1
      have HC2 := Lib.hid hc2
      clear hc1 hc2
      go_wp2_with fail
      obtain ⟨wb1, hwb1⟩ : ∃ w' : World, w' = wr.alloc (.cells #[.slice (some ⟨b1, o1, none⟩) it.names.length ca, .slice (some ⟨b2, o2, none⟩) it.marks.length cb, .bool it.late] 75) := ⟨_, rfl⟩
      rw [← hwb1]
      have KBt : Kept wr wb1 := hwb1 ▸ (Kept.refl wr).alloc _
      have Bt : Box wb1 (wr.heap.size) 75 #[.slice (some ⟨b1, o1, none⟩) it.names.length ca, .slice (some ⟨b2, o2, none⟩) it.marks.length cb, .bool it.late] := hwb1 ▸ Box.new wr (wr.heap.size) 75 #[.slice (some ⟨b1, o1, none⟩) it.names.length ca, .slice (some ⟨b2, o2, none⟩) it.marks.length cb, .bool it.late] rfl
      have swb1 : wb1.heap.size = wr.heap.size + 1 := by rw [hwb1]; simp
      clear hwb1
      have Kwb1 := Kr.trans KBt
      clear q0 q1 q2
      have t1 := (KBt.cell (p := ⟨b1, o1, none⟩) hb1).trans HC1.out
      have t2 := (KBt.cell (p := ⟨b2, o2, none⟩) hb2).trans HC2.out
      have t3 := (Kwb1.cell (p := ⟨bs, os, none⟩) hbs).trans RC.out.1
      have t4 := (Kwb1.cell (p := ⟨bk, ok + k * 3, none⟩) hbk).trans RC.out.2
      by_cases hzs : z.toList = s.toList <;> by_cases hm3 : m = 3
      · have e1 : (z.toList == s.toList) = true := by simp [hzs]
        have e2 : (m != 3) = false := by simp [hm3]
        have HQ : Hid (repP s it = false) := Lib.hid (by rw [HP.out, e1, e2]; rfl)
        clear hzs
        obtain ⟨xt, yt⟩ := Bt.three
        go_quiet (fail)
        rename_i nq
        clear xt yt
        go_wp2_with fail
        go_roundw
        case rel => exact ⟨j + 1, by omega, by go_num, by rw [HN.out, HQ.out]; first | rfl | go_num | simp, (hkept.trans KBt).drewN _⟩
        case measure => simp [intOf]; omega
      · have e1 : (z.toList == s.toList) = true := by simp [hzs]
        have e2 : (m != 3) = true := by simp [hm3]
        have HQ : Hid (repP s it = true) := Lib.hid (by rw [HP.out, e1, e2]; rfl)
        clear hzs hm3
        obtain ⟨xt, yt⟩ := Bt.three
        go_quiet (fail)
        rename_i nq
        clear xt yt
        go_wp2_with fail
        go_roundw
        case rel => exact ⟨j + 1, by omega, by go_num, by rw [HN.out, HQ.out]; first | rfl | go_num | simp, (hkept.trans KBt).drewN _⟩
        case measure => simp [intOf]; omega
      · have e1 : (z.toList == s.toList) = false := by simp [hzs]
        have e2 : (m != 3) = false := by simp [hm3]
        have HQ : Hid (repP s it = false) := Lib.hid (by rw [HP.out, e1, e2]; rfl)
        clear hzs
        obtain ⟨xt, yt⟩ := Bt.three
        go_quiet (fail)
        rename_i nq
        clear xt yt
        go_wp2_with fail
        go_roundw
        case rel => exact ⟨j + 1, by omega, by go_num, by rw [HN.out, HQ.out]; first | rfl | go_num | simp, (hkept.trans KBt).drewN _⟩
        case measure => simp [intOf]; omega
      · have e1 : (z.toList == s.toList) = false := by simp [hzs]
        have e2 : (m != 3) = true := by simp [hm3]
        have HQ : Hid (repP s it = false) := Lib.hid (by rw [HP.out, e1, e2]; rfl)
        clear hzs hm3
        obtain ⟨xt, yt⟩ := Bt.three
        go_quiet (fail)
        rename_i nq
        clear xt yt
        go_wp2_with fail
        go_roundw
        case rel => exact ⟨j + 1, by omega, by go_num, by rw [HN.out, HQ.out]; first | rfl | go_num | simp, (hkept.trans KBt).drewN _⟩
        case measure => simp [intOf]; omega
    · obtain rfl : j = k := by omega
      go_wp2_with fail
      go_ret
      exact ⟨ret_int HRV.out.symm, Kr⟩
set_option maxHeartbeats 2000000 in
theorem repeatsOf_any (v0 : Value) (its : List ItemD) (k : Nat) (w : World) (h0 : ItemsAt w v0 its) (hb : itemsB its = true) (hk : k < its.length) :
    Calls Try.prog 84 #[v0, .int .i64 (k : Int)] w fun e w' => e = .returned (.int .i64 (repV its k)) ∧ Kept w w' := by
  have H0 := Lib.hid h0
  obtain ⟨A0, c0, cs0, rfl, hnc0, hcm0, hA0⟩ := h0.out; have HA0 := Lib.hid hA0; clear hA0 h0; unfold maxLen at hcm0
  obtain ⟨bk, ok, Ak, ck, Dk, dk, ik, rfl, hbk, hik, hik2, hitk, r0, r1, r2⟩ := items_at HA0.out hk
  obtain ⟨hk1, hk3, hkm⟩ := items_some hb hik
  obtain ⟨pk, qk⟩ := hitk.parts
  obtain ⟨bs, os, s, rfl, hbs, hs, hcs⟩ := strs_at pk.1.addr (k := 0) (by omega)
  rw [Nat.add_zero] at hcs
  have HRV := Lib.hid (repV_at hik hs)
  have HB := Lib.hid hb
  have hl14 := (itemsB_true hb).1
  have hlks : (0 : Int) < (ik.names.length : Int) := by omega
  have hkl : (k : Int) < (its.length : Int) := by omega
  have hkc : (k : Int) ≤ (c0 : Int) := by omega
  have RC := Lib.hid (⟨hcs, r0⟩ : _ ∧ _)
  clear hb hik hik2 hitk pk qk hs hkm hcs r0 r1 r2
  go_enter Try.func84, Try.ntmps84
  have K0 := Kept.refl w
  go_wp2_with fail
  go_loopw [5, 12] (fun q i wr => ∃ j : Nat, j ≤ k ∧ i = .int .i64 j ∧ q = .int .i64 (repN its j s : Int) ∧ Kept w wr) (fun _ i _ => k - (intOf i).toNat)
  case atStart => exact ⟨0, Nat.zero_le _, rfl, by simp [repN], Kept.refl _⟩
  case round =>
    obtain ⟨j, hj, rfl, rfl, hkept⟩ := hrel
    have szr := hkept.size
    have Kr := K0.trans hkept
    by_cases hlt : j < k
    · obtain ⟨b, o, Aa, ca, Ab, cb, it, hAA, hbb, h2, h3, hit, q0, q1, q2⟩ := items_at (HA0.out.kept Kr) (show j < its.length by omega)
      injection hAA with hAA; injection hAA with e1 e2; subst e1 e2
      obtain ⟨hi1, hi3, him⟩ := items_some HB.out h2
      obtain ⟨p1, p2⟩ := hit.parts
      obtain ⟨b1, o1, z, rfl, hb1, hz, hc1⟩ := strs_at p1.1.addr (k := 0) (by omega)
      obtain ⟨b2, o2, m, rfl, hb2, hm, hc2⟩ := ints_at p2.addr (k := 0) (by omega)
      rw [Nat.add_zero] at hc1 hc2
      have HP := Lib.hid (repP_eq (s := s) hz hm)
      have HN := Lib.hid (repN_snoc s h2)
      have hle := repN_le its j s
      have hli : (0 : Int) < (it.names.length : Int) := by omega
      have hlm : (0 : Int) < (it.marks.length : Int) := by omega
      clear h2 h3 hit p1 p2 hz hm him
      generalize repN its j s = rn at *
      have HC1 := Lib.hid hc1
      have HC2 := Lib.hid hc2
      clear hc1 hc2
      go_wp2_with fail
      obtain ⟨wb1, hwb1⟩ : ∃ w' : World, w' = wr.alloc (.cells #[.slice (some ⟨b1, o1, none⟩) it.names.length ca, .slice (some ⟨b2, o2, none⟩) it.marks.length cb, .bool it.late] 75) := ⟨_, rfl⟩
      rw [← hwb1]
      have KBt : Kept wr wb1 := hwb1 ▸ (Kept.refl wr).alloc _
      have Bt : Box wb1 (wr.heap.size) 75 #[.slice (some ⟨b1, o1, none⟩) it.names.length ca, .slice (some ⟨b2, o2, none⟩) it.marks.length cb, .bool it.late] := hwb1 ▸ Box.new wr (wr.heap.size) 75 #[.slice (some ⟨b1, o1, none⟩) it.names.length ca, .slice (some ⟨b2, o2, none⟩) it.marks.length cb, .bool it.late] rfl
      have swb1 : wb1.heap.size = wr.heap.size + 1 := by rw [hwb1]; simp
      clear hwb1
      have Kwb1 := Kr.trans KBt
      clear q0 q1 q2
      have t1 := (KBt.cell (p := ⟨b1, o1, none⟩) hb1).trans HC1.out
      have t2 := (KBt.cell (p := ⟨b2, o2, none⟩) hb2).trans HC2.out
      have t3 := (Kwb1.cell (p := ⟨bs, os, none⟩) hbs).trans RC.out.1
      have t4 := (Kwb1.cell (p := ⟨bk, ok + k * 3, none⟩) hbk).trans RC.out.2
      by_cases hzs : z.toList = s.toList <;> by_cases hm3 : m = 3
      · have e1 : (z.toList == s.toList) = true := by simp [hzs]
        have e2 : (m != 3) = false := by simp [hm3]
        have HQ : Hid (repP s it = false) := Lib.hid (by rw [HP.out, e1, e2]; rfl)
        clear hzs
        obtain ⟨xt, yt⟩ := Bt.three
        go_quiet (fail)
        rename_i nq
        clear xt yt
        go_wp2_with fail
        go_roundw
        case rel => exact ⟨j + 1, by omega, by go_num, by rw [HN.out, HQ.out]; first | rfl | go_num | simp, (hkept.trans KBt).drewN _⟩
        case measure => simp [intOf]; omega
      · have e1 : (z.toList == s.toList) = true := by simp [hzs]
        have e2 : (m != 3) = true := by simp [hm3]
        have HQ : Hid (repP s it = true) := Lib.hid (by rw [HP.out, e1, e2]; rfl)
        clear hzs hm3
        obtain ⟨xt, yt⟩ := Bt.three
        go_quiet (fail)
        rename_i nq
        clear xt yt
        go_wp2_with fail
        go_roundw
        case rel => exact ⟨j + 1, by omega, by go_num, by rw [HN.out, HQ.out]; first | rfl | go_num | simp, (hkept.trans KBt).drewN _⟩
        case measure => simp [intOf]; omega
      · have e1 : (z.toList == s.toList) = false := by simp [hzs]
        have e2 : (m != 3) = false := by simp [hm3]
        have HQ : Hid (repP s it = false) := Lib.hid (by rw [HP.out, e1, e2]; rfl)
        clear hzs
        obtain ⟨xt, yt⟩ := Bt.three
        go_quiet (fail)
        rename_i nq
        clear xt yt
        go_wp2_with fail
        go_roundw
        case rel => exact ⟨j + 1, by omega, by go_num, by rw [HN.out, HQ.out]; first | rfl | go_num | simp, (hkept.trans KBt).drewN _⟩
        case measure => simp [intOf]; omega
      · have e1 : (z.toList == s.toList) = false := by simp [hzs]
        have e2 : (m != 3) = true := by simp [hm3]
        have HQ : Hid (repP s it = false) := Lib.hid (by rw [HP.out, e1, e2]; rfl)
        clear hzs hm3
        obtain ⟨xt, yt⟩ := Bt.three
        go_quiet (fail)
        rename_i nq
        clear xt yt
        go_wp2_with fail
        go_roundw
        case rel => exact ⟨j + 1, by omega, by go_num, by rw [HN.out, HQ.out]; first | rfl | go_num | simp, (hkept.trans KBt).drewN _⟩
        case measure => simp [intOf]; omega
    · obtain rfl : j = k := by omega
      go_wp2_with fail
      go_ret
      exact ⟨ret_int HRV.out.symm, Kr⟩
end Go.Proofs.Ytpkmngkepmoikaa
