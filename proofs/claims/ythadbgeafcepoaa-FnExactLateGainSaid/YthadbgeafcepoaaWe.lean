/- Items over a code: repeats and bases. -/
import Derived.Test.YthadbgeafcepoaaWd
namespace Go.Proofs.Ythadbgeafcepoaa
open Go.RowKit

def hasB (x : CodeD) (its : List ItemD) (k : Int) : Bool := gdB x its && inB k 0 ((its.length : Int) - 1)
theorem hasB_true {x : CodeD} {its : List ItemD} {k : Int} (h : hasB x its k = true) : gdB x its = true ∧ 0 ≤ k ∧ k.toNat < its.length := by
  unfold hasB at h
  rw [Bool.and_eq_true] at h
  have := inB_true h.2
  exact ⟨h.1, by omega, by omega⟩
theorem hasB_comm (x : CodeD) (its : List ItemD) (k : Int) : hasB x its k = (inB k 0 ((its.length : Int) - 1) && gdB x its) := Bool.and_comm _ _
theorem repP_eq {s z : ByteArray} {it : ItemD} {m : Int} (h : it.names[0]? = some z) (hm : it.marks[0]? = some m) : repP s it = (z.toList == s.toList && m != 3) := by
  unfold repP
  rw [h, hm]
  have e1 : ((some z : Option ByteArray) == some s) = (z.toList == s.toList) := by
    change (z.data == s.data) = (z.toList == s.toList)
    by_cases hz : z.toList = s.toList
    · obtain rfl := str_ext hz
      simp
    · have : ¬ z.data = s.data := fun e => hz (by cases z; cases s; simp_all)
      rw [beq_eq_false_iff_ne.2 this, beq_eq_false_iff_ne.2 hz]
  rw [e1]
  rfl
set_option maxHeartbeats 1000000 in
theorem bsHas_any (v0 v1 : Value) (x : CodeD) (its : List ItemD) (k : Int) (w : World) (h0 : CodeAt w v0 x) (h1 : ItemsAt w v1 its)  :
    Calls Try.prog 109 #[v0, v1, .int .i64 k] w fun e w' => e = .returned (.bool (hasB x its k)) ∧ Kept w w' := by
  have H0 := Lib.hid h0
  obtain ⟨n0, m0, rfl, p0, q0⟩ := h0
  have HE0 := Lib.hid p0; have HI0 := Lib.hid q0
  obtain ⟨A0, c0, rfl, hnc0, hcm0, _⟩ := p0.1.out; obtain ⟨D0, d0, rfl, hnd0, hdm0, _⟩ := q0.out; clear p0 q0; unfold maxLen at hcm0 hdm0
  have H1 := Lib.hid h1
  obtain ⟨A1, c1, cs1, rfl, hnc1, hcm1, hA1⟩ := h1.out; have HA1 := Lib.hid hA1; clear hA1 h1; unfold maxLen at hcm1
  go_enter Try.func109, Try.ntmps109
  have K0 := Kept.refl w
  go_wp2_with fail
  obtain ⟨wb1, hwb1⟩ : ∃ w' : World, w' = w.alloc (.cells #[.slice A0 x.elems.length c0, .slice D0 x.limits.length d0, .int .i64 x.repeats, .int .i64 x.bonus, .int .i64 x.keeps, .int .i64 x.fall] 32) := ⟨_, rfl⟩
  rw [← hwb1]
  have KB0 : Kept w wb1 := hwb1 ▸ (Kept.refl w).alloc _
  have B0 : Box wb1 (w.heap.size) 32 #[.slice A0 x.elems.length c0, .slice D0 x.limits.length d0, .int .i64 x.repeats, .int .i64 x.bonus, .int .i64 x.keeps, .int .i64 x.fall] := hwb1 ▸ Box.new w (w.heap.size) 32 #[.slice A0 x.elems.length c0, .slice D0 x.limits.length d0, .int .i64 x.repeats, .int .i64 x.bonus, .int .i64 x.keeps, .int .i64 x.fall] rfl
  have swb1 : wb1.heap.size = w.heap.size + 1 := by rw [hwb1]; simp
  clear hwb1
  have Kwb1 := K0.trans KB0
  refine (bsGood_any _ _ x its _ (H0.out.kept Kwb1) (H1.out.kept Kwb1)).mono ?_
  rintro e w1 ⟨rfl, k1⟩
  replace B0 := B0.kept k1
  have sz1 := k1.size
  have K1 := Kwb1.trans k1
  by_cases hg : gdB x its = true
  case neg =>
    simp only [Bool.not_eq_true] at hg
    rw [hg]
    have HO : Hid (hasB x its k = false) := Lib.hid (by unfold hasB; rw [hg]; rfl)
    obtain ⟨x0, y0⟩ := B0.six
    go_wp2_with fail
    clear x0 y0
    go_ret
    exact ⟨ret_bool HO.out.symm, K1⟩
  rw [hg]
  obtain ⟨x0, y0⟩ := B0.six
  go_wp2_with fail
  clear x0 y0
  refine (l1In_any _ _ _ _).mono ?_
  rintro e w' ⟨rfl, rfl⟩
  obtain ⟨x0, y0⟩ := B0.six
  go_wp2_with fail
  clear x0 y0
  go_ret
  exact ⟨ret_bool (by unfold hasB; rw [hg]; rfl), K1⟩
set_option maxHeartbeats 1000000 in
theorem hasKnown_any (v0 v1 : Value) (x : CodeD) (its : List ItemD) (k : Int) (w : World) (h0 : CodeAt w v0 x) (h1 : ItemsAt w v1 its)  :
    Calls Try.prog 111 #[v0, v1, .int .i64 k] w fun e w' => e = .returned (.bool (hasB x its k)) ∧ Kept w w' := by
  have H0 := Lib.hid h0
  obtain ⟨n0, m0, rfl, p0, q0⟩ := h0
  have HE0 := Lib.hid p0; have HI0 := Lib.hid q0
  obtain ⟨A0, c0, rfl, hnc0, hcm0, _⟩ := p0.1.out; obtain ⟨D0, d0, rfl, hnd0, hdm0, _⟩ := q0.out; clear p0 q0; unfold maxLen at hcm0 hdm0
  have H1 := Lib.hid h1
  obtain ⟨A1, c1, cs1, rfl, hnc1, hcm1, hA1⟩ := h1.out; have HA1 := Lib.hid hA1; clear hA1 h1; unfold maxLen at hcm1
  go_enter Try.func111, Try.ntmps111
  have K0 := Kept.refl w
  go_wp2_with fail
  obtain ⟨wb1, hwb1⟩ : ∃ w' : World, w' = w.alloc (.cells #[.slice A0 x.elems.length c0, .slice D0 x.limits.length d0, .int .i64 x.repeats, .int .i64 x.bonus, .int .i64 x.keeps, .int .i64 x.fall] 32) := ⟨_, rfl⟩
  rw [← hwb1]
  have KB0 : Kept w wb1 := hwb1 ▸ (Kept.refl w).alloc _
  have B0 : Box wb1 (w.heap.size) 32 #[.slice A0 x.elems.length c0, .slice D0 x.limits.length d0, .int .i64 x.repeats, .int .i64 x.bonus, .int .i64 x.keeps, .int .i64 x.fall] := hwb1 ▸ Box.new w (w.heap.size) 32 #[.slice A0 x.elems.length c0, .slice D0 x.limits.length d0, .int .i64 x.repeats, .int .i64 x.bonus, .int .i64 x.keeps, .int .i64 x.fall] rfl
  have swb1 : wb1.heap.size = w.heap.size + 1 := by rw [hwb1]; simp
  clear hwb1
  have Kwb1 := K0.trans KB0
  refine (within_any _ _ _ _).mono ?_
  rintro e w' ⟨rfl, rfl⟩
  by_cases hg : inB k 0 ((its.length : Int) - 1) = true
  case neg =>
    simp only [Bool.not_eq_true] at hg
    rw [hg]
    have HO : Hid (hasB x its k = false) := Lib.hid (by rw [hasB_comm, hg]; rfl)
    obtain ⟨x0, y0⟩ := B0.six
    go_wp2_with fail
    clear x0 y0
    go_ret
    exact ⟨ret_bool HO.out.symm, Kwb1⟩
  rw [hg]
  obtain ⟨x0, y0⟩ := B0.six
  go_wp2_with fail
  clear x0 y0
  refine (areKnown_any _ _ x its _ (H0.out.kept Kwb1) (H1.out.kept Kwb1)).mono ?_
  rintro e w1 ⟨rfl, k1⟩
  replace B0 := B0.kept k1
  have sz1 := k1.size
  have K1 := Kwb1.trans k1
  obtain ⟨x0, y0⟩ := B0.six
  go_wp2_with fail
  clear x0 y0
  go_ret
  exact ⟨ret_bool (by rw [hasB_comm, hg]; rfl), K1⟩
set_option maxHeartbeats 2000000 in
theorem bsRepeats_any (v0 : Value) (its : List ItemD) (k : Nat) (w : World) (h0 : ItemsAt w v0 its) (hb : itemsB its = true) (hk : k < its.length) :
    Calls Try.prog 110 #[v0, .int .i64 (k : Int)] w fun e w' => e = .returned (.int .i64 (repV its k)) ∧ Kept w w' := by
  have H0 := Lib.hid h0
  obtain ⟨A0, c0, cs0, rfl, hnc0, hcm0, hA0⟩ := h0.out; have HA0 := Lib.hid hA0; clear hA0 h0; unfold maxLen at hcm0
  obtain ⟨bk, ok, Ak, ck, Dk, dk, ik, rfl, hbk, hik, hik2, hitk, r0, r1, r2⟩ := items_at HA0.out hk
  obtain ⟨hk1, hk3, hkm⟩ := items_some hb hik
  obtain ⟨pk, qk⟩ := hitk.parts
  obtain ⟨bs, os, s, rfl, hbs, hs, hcs⟩ := strs_at pk.1.addr (k := 0) (by omega)
  rw [Nat.add_zero] at hcs
  have HRV := Lib.hid (repV_at hik hs)
  have HB := Lib.hid hb
  have hl14 := (itemsB_true hb).1
  have hlks : (0 : Int) < (ik.names.length : Int) := by omega
  have hkl : (k : Int) < (its.length : Int) := by omega
  have hkc : (k : Int) ≤ (c0 : Int) := by omega
  have RC := Lib.hid (⟨hcs, r0⟩ : _ ∧ _)
  clear hb hik hik2 hitk pk qk hs hkm hcs r0 r1 r2
  go_enter Try.func110, Try.ntmps110
  have K0 := Kept.refl w
  go_wp2_with fail
  go_loopw [5, 12] (fun q i wr => ∃ j : Nat, j ≤ k ∧ i = .int .i64 j ∧ q = .int .i64 (repN its j s : Int) ∧ Kept w wr) (fun _ i _ => k - (intOf i).toNat)
  case atStart => exact ⟨0, Nat.zero_le _, rfl, by simp [repN], Kept.refl _⟩
  case round =>
    obtain ⟨j, hj, rfl, rfl, hkept⟩ := hrel
    have szr := hkept.size
    have Kr := K0.trans hkept
    by_cases hlt : j < k
    · obtain ⟨b, o, Aa, ca, Ab, cb, it, hAA, hbb, h2, h3, hit, q0, q1, q2⟩ := items_at (HA0.out.kept Kr) (show j < its.length by omega)
      injection hAA with hAA; injection hAA with e1 e2; subst e1 e2
      obtain ⟨hi1, hi3, him⟩ := items_some HB.out h2
      obtain ⟨p1, p2⟩ := hit.parts
      obtain ⟨b1, o1, z, rfl, hb1, hz, hc1⟩ := strs_at p1.1.addr (k := 0) (by omega)
      obtain ⟨b2, o2, m, rfl, hb2, hm, hc2⟩ := ints_at p2.addr (k := 0) (by omega)
      rw [Nat.add_zero] at hc1 hc2
      have HP := Lib.hid (repP_eq (s := s) hz hm)
      have HN := Lib.hid (repN_snoc s h2)
      have hle := repN_le its j s
      have hli : (0 : Int) < (it.names.length : Int) := by omega
      have hlm : (0 : Int) < (it.marks.length : Int) := by omega
      clear h2 h3 hit p1 p2 hz hm him
      generalize repN its j s = rn at *
      have HC1 := Lib.hid hc1
      have HC2 := Lib.hid hc2
      clear hc1 hc2
      go_wp2_with fail
      obtain ⟨wb1, hwb1⟩ : ∃ w' : World, w' = wr.alloc (.cells #[.slice (some ⟨b1, o1, none⟩) it.names.length ca, .slice (some ⟨b2, o2, none⟩) it.marks.length cb, .bool it.late] 47) := ⟨_, rfl⟩
      rw [← hwb1]
      have KBt : Kept wr wb1 := hwb1 ▸ (Kept.refl wr).alloc _
      have Bt : Box wb1 (wr.heap.size) 47 #[.slice (some ⟨b1, o1, none⟩) it.names.length ca, .slice (some ⟨b2, o2, none⟩) it.marks.length cb, .bool it.late] := hwb1 ▸ Box.new wr (wr.heap.size) 47 #[.slice (some ⟨b1, o1, none⟩) it.names.length ca, .slice (some ⟨b2, o2, none⟩) it.marks.length cb, .bool it.late] rfl
      have swb1 : wb1.heap.size = wr.heap.size + 1 := by rw [hwb1]; simp
      clear hwb1
      have Kwb1 := Kr.trans KBt
      clear q0 q1 q2
      have t1 := (KBt.cell (p := ⟨b1, o1, none⟩) hb1).trans HC1.out
      have t2 := (KBt.cell (p := ⟨b2, o2, none⟩) hb2).trans HC2.out
      have t3 := (Kwb1.cell (p := ⟨bs, os, none⟩) hbs).trans RC.out.1
      have t4 := (Kwb1.cell (p := ⟨bk, ok + k * 3, none⟩) hbk).trans RC.out.2
      by_cases hzs : z.toList = s.toList <;> by_cases hm3 : m = 3
      · have e1 : (z.toList == s.toList) = true := by simp [hzs]
        have e2 : (m != 3) = false := by simp [hm3]
        have HQ : Hid (repP s it = false) := Lib.hid (by rw [HP.out, e1, e2]; rfl)
        clear hzs
        obtain ⟨xt, yt⟩ := Bt.three
        go_quiet (fail)
        rename_i nq
        clear xt yt
        go_wp2_with fail
        go_roundw
        case rel => exact ⟨j + 1, by omega, by go_num, by rw [HN.out, HQ.out]; first | rfl | go_num | simp, (hkept.trans KBt).drewN _⟩
        case measure => simp [intOf]; omega
      · have e1 : (z.toList == s.toList) = true := by simp [hzs]
        have e2 : (m != 3) = true := by simp [hm3]
        have HQ : Hid (repP s it = true) := Lib.hid (by rw [HP.out, e1, e2]; rfl)
        clear hzs hm3
        obtain ⟨xt, yt⟩ := Bt.three
        go_quiet (fail)
        rename_i nq
        clear xt yt
        go_wp2_with fail
        go_roundw
        case rel => exact ⟨j + 1, by omega, by go_num, by rw [HN.out, HQ.out]; first | rfl | go_num | simp, (hkept.trans KBt).drewN _⟩
        case measure => simp [intOf]; omega
      · have e1 : (z.toList == s.toList) = false := by simp [hzs]
        have e2 : (m != 3) = false := by simp [hm3]
        have HQ : Hid (repP s it = false) := Lib.hid (by rw [HP.out, e1, e2]; rfl)
        clear hzs
        obtain ⟨xt, yt⟩ := Bt.three
        go_quiet (fail)
        rename_i nq
        clear xt yt
        go_wp2_with fail
        go_roundw
        case rel => exact ⟨j + 1, by omega, by go_num, by rw [HN.out, HQ.out]; first | rfl | go_num | simp, (hkept.trans KBt).drewN _⟩
        case measure => simp [intOf]; omega
      · have e1 : (z.toList == s.toList) = false := by simp [hzs]
        have e2 : (m != 3) = true := by simp [hm3]
        have HQ : Hid (repP s it = false) := Lib.hid (by rw [HP.out, e1, e2]; rfl)
        clear hzs hm3
        obtain ⟨xt, yt⟩ := Bt.three
        go_quiet (fail)
        rename_i nq
        clear xt yt
        go_wp2_with fail
        go_roundw
        case rel => exact ⟨j + 1, by omega, by go_num, by rw [HN.out, HQ.out]; first | rfl | go_num | simp, (hkept.trans KBt).drewN _⟩
        case measure => simp [intOf]; omega
    · obtain rfl : j = k := by omega
      go_wp2_with fail
      go_ret
      exact ⟨ret_int HRV.out.symm, Kr⟩
set_option maxHeartbeats 2000000 in
theorem repeatsOf_any (v0 : Value) (its : List ItemD) (k : Nat) (w : World) (h0 : ItemsAt w v0 its) (hb : itemsB its = true) (hk : k < its.length) :
    Calls Try.prog 112 #[v0, .int .i64 (k : Int)] w fun e w' => e = .returned (.int .i64 (repV its k)) ∧ Kept w w' := by
  have H0 := Lib.hid h0
  obtain ⟨A0, c0, cs0, rfl, hnc0, hcm0, hA0⟩ := h0.out; have HA0 := Lib.hid hA0; clear hA0 h0; unfold maxLen at hcm0
  obtain ⟨bk, ok, Ak, ck, Dk, dk, ik, rfl, hbk, hik, hik2, hitk, r0, r1, r2⟩ := items_at HA0.out hk
  obtain ⟨hk1, hk3, hkm⟩ := items_some hb hik
  obtain ⟨pk, qk⟩ := hitk.parts
  obtain ⟨bs, os, s, rfl, hbs, hs, hcs⟩ := strs_at pk.1.addr (k := 0) (by omega)
  rw [Nat.add_zero] at hcs
  have HRV := Lib.hid (repV_at hik hs)
  have HB := Lib.hid hb
  have hl14 := (itemsB_true hb).1
  have hlks : (0 : Int) < (ik.names.length : Int) := by omega
  have hkl : (k : Int) < (its.length : Int) := by omega
  have hkc : (k : Int) ≤ (c0 : Int) := by omega
  have RC := Lib.hid (⟨hcs, r0⟩ : _ ∧ _)
  clear hb hik hik2 hitk pk qk hs hkm hcs r0 r1 r2
  go_enter Try.func112, Try.ntmps112
  have K0 := Kept.refl w
  go_wp2_with fail
  go_loopw [5, 12] (fun q i wr => ∃ j : Nat, j ≤ k ∧ i = .int .i64 j ∧ q = .int .i64 (repN its j s : Int) ∧ Kept w wr) (fun _ i _ => k - (intOf i).toNat)
  case atStart => exact ⟨0, Nat.zero_le _, rfl, by simp [repN], Kept.refl _⟩
  case round =>
    obtain ⟨j, hj, rfl, rfl, hkept⟩ := hrel
    have szr := hkept.size
    have Kr := K0.trans hkept
    by_cases hlt : j < k
    · obtain ⟨b, o, Aa, ca, Ab, cb, it, hAA, hbb, h2, h3, hit, q0, q1, q2⟩ := items_at (HA0.out.kept Kr) (show j < its.length by omega)
      injection hAA with hAA; injection hAA with e1 e2; subst e1 e2
      obtain ⟨hi1, hi3, him⟩ := items_some HB.out h2
      obtain ⟨p1, p2⟩ := hit.parts
      obtain ⟨b1, o1, z, rfl, hb1, hz, hc1⟩ := strs_at p1.1.addr (k := 0) (by omega)
      obtain ⟨b2, o2, m, rfl, hb2, hm, hc2⟩ := ints_at p2.addr (k := 0) (by omega)
      rw [Nat.add_zero] at hc1 hc2
      have HP := Lib.hid (repP_eq (s := s) hz hm)
      have HN := Lib.hid (repN_snoc s h2)
      have hle := repN_le its j s
      have hli : (0 : Int) < (it.names.length : Int) := by omega
      have hlm : (0 : Int) < (it.marks.length : Int) := by omega
      clear h2 h3 hit p1 p2 hz hm him
      generalize repN its j s = rn at *
      have HC1 := Lib.hid hc1
      have HC2 := Lib.hid hc2
      clear hc1 hc2
      go_wp2_with fail
      obtain ⟨wb1, hwb1⟩ : ∃ w' : World, w' = wr.alloc (.cells #[.slice (some ⟨b1, o1, none⟩) it.names.length ca, .slice (some ⟨b2, o2, none⟩) it.marks.length cb, .bool it.late] 47) := ⟨_, rfl⟩
      rw [← hwb1]
      have KBt : Kept wr wb1 := hwb1 ▸ (Kept.refl wr).alloc _
      have Bt : Box wb1 (wr.heap.size) 47 #[.slice (some ⟨b1, o1, none⟩) it.names.length ca, .slice (some ⟨b2, o2, none⟩) it.marks.length cb, .bool it.late] := hwb1 ▸ Box.new wr (wr.heap.size) 47 #[.slice (some ⟨b1, o1, none⟩) it.names.length ca, .slice (some ⟨b2, o2, none⟩) it.marks.length cb, .bool it.late] rfl
      have swb1 : wb1.heap.size = wr.heap.size + 1 := by rw [hwb1]; simp
      clear hwb1
      have Kwb1 := Kr.trans KBt
      clear q0 q1 q2
      have t1 := (KBt.cell (p := ⟨b1, o1, none⟩) hb1).trans HC1.out
      have t2 := (KBt.cell (p := ⟨b2, o2, none⟩) hb2).trans HC2.out
      have t3 := (Kwb1.cell (p := ⟨bs, os, none⟩) hbs).trans RC.out.1
      have t4 := (Kwb1.cell (p := ⟨bk, ok + k * 3, none⟩) hbk).trans RC.out.2
      by_cases hzs : z.toList = s.toList <;> by_cases hm3 : m = 3
      · have e1 : (z.toList == s.toList) = true := by simp [hzs]
        have e2 : (m != 3) = false := by simp [hm3]
        have HQ : Hid (repP s it = false) := Lib.hid (by rw [HP.out, e1, e2]; rfl)
        clear hzs
        obtain ⟨xt, yt⟩ := Bt.three
        go_quiet (fail)
        rename_i nq
        clear xt yt
        go_wp2_with fail
        go_roundw
        case rel => exact ⟨j + 1, by omega, by go_num, by rw [HN.out, HQ.out]; first | rfl | go_num | simp, (hkept.trans KBt).drewN _⟩
        case measure => simp [intOf]; omega
      · have e1 : (z.toList == s.toList) = true := by simp [hzs]
        have e2 : (m != 3) = true := by simp [hm3]
        have HQ : Hid (repP s it = true) := Lib.hid (by rw [HP.out, e1, e2]; rfl)
        clear hzs hm3
        obtain ⟨xt, yt⟩ := Bt.three
        go_quiet (fail)
        rename_i nq
        clear xt yt
        go_wp2_with fail
        go_roundw
        case rel => exact ⟨j + 1, by omega, by go_num, by rw [HN.out, HQ.out]; first | rfl | go_num | simp, (hkept.trans KBt).drewN _⟩
        case measure => simp [intOf]; omega
      · have e1 : (z.toList == s.toList) = false := by simp [hzs]
        have e2 : (m != 3) = false := by simp [hm3]
        have HQ : Hid (repP s it = false) := Lib.hid (by rw [HP.out, e1, e2]; rfl)
        clear hzs
        obtain ⟨xt, yt⟩ := Bt.three
        go_quiet (fail)
        rename_i nq
        clear xt yt
        go_wp2_with fail
        go_roundw
        case rel => exact ⟨j + 1, by omega, by go_num, by rw [HN.out, HQ.out]; first | rfl | go_num | simp, (hkept.trans KBt).drewN _⟩
        case measure => simp [intOf]; omega
      · have e1 : (z.toList == s.toList) = false := by simp [hzs]
        have e2 : (m != 3) = true := by simp [hm3]
        have HQ : Hid (repP s it = false) := Lib.hid (by rw [HP.out, e1, e2]; rfl)
        clear hzs hm3
        obtain ⟨xt, yt⟩ := Bt.three
        go_quiet (fail)
        rename_i nq
        clear xt yt
        go_wp2_with fail
        go_roundw
        case rel => exact ⟨j + 1, by omega, by go_num, by rw [HN.out, HQ.out]; first | rfl | go_num | simp, (hkept.trans KBt).drewN _⟩
        case measure => simp [intOf]; omega
    · obtain rfl : j = k := by omega
      go_wp2_with fail
      go_ret
      exact ⟨ret_int HRV.out.symm, Kr⟩
set_option maxHeartbeats 1000000 in
theorem specRepeatsOf_any (v0 v1 : Value) (x : CodeD) (its : List ItemD) (a : Int) (w : World) (h0 : CodeAt w v0 x) (h1 : ItemsAt w v1 its)  :
    Calls Try.prog 38 #[v0, v1, .int .i64 a] w fun e w' => e = .returned (.tuple #[.int .i64 (onI (hasB x its a) (repV its a.toNat)), .bool (hasB x its a)]) ∧ Kept w w' := by
  have H0 := Lib.hid h0
  obtain ⟨n0, m0, rfl, p0, q0⟩ := h0
  have HE0 := Lib.hid p0; have HI0 := Lib.hid q0
  obtain ⟨A0, c0, rfl, hnc0, hcm0, _⟩ := p0.1.out; obtain ⟨D0, d0, rfl, hnd0, hdm0, _⟩ := q0.out; clear p0 q0; unfold maxLen at hcm0 hdm0
  have H1 := Lib.hid h1
  obtain ⟨A1, c1, cs1, rfl, hnc1, hcm1, hA1⟩ := h1.out; have HA1 := Lib.hid hA1; clear hA1 h1; unfold maxLen at hcm1
  go_enter Try.func38, Try.ntmps38
  have K0 := Kept.refl w
  go_wp2_with fail
  obtain ⟨wb1, hwb1⟩ : ∃ w' : World, w' = w.alloc (.cells #[.slice A0 x.elems.length c0, .slice D0 x.limits.length d0, .int .i64 x.repeats, .int .i64 x.bonus, .int .i64 x.keeps, .int .i64 x.fall] 32) := ⟨_, rfl⟩
  rw [← hwb1]
  have KB0 : Kept w wb1 := hwb1 ▸ (Kept.refl w).alloc _
  have B0 : Box wb1 (w.heap.size) 32 #[.slice A0 x.elems.length c0, .slice D0 x.limits.length d0, .int .i64 x.repeats, .int .i64 x.bonus, .int .i64 x.keeps, .int .i64 x.fall] := hwb1 ▸ Box.new w (w.heap.size) 32 #[.slice A0 x.elems.length c0, .slice D0 x.limits.length d0, .int .i64 x.repeats, .int .i64 x.bonus, .int .i64 x.keeps, .int .i64 x.fall] rfl
  have swb1 : wb1.heap.size = w.heap.size + 1 := by rw [hwb1]; simp
  clear hwb1
  have Kwb1 := K0.trans KB0
  refine (bsHas_any _ _ x its a _ (H0.out.kept Kwb1) (H1.out.kept Kwb1)).mono ?_
  rintro e w1 ⟨rfl, k1⟩
  replace B0 := B0.kept k1
  have sz1 := k1.size
  have K1 := Kwb1.trans k1
  by_cases hg : hasB x its a = true
  case neg =>
    simp only [Bool.not_eq_true] at hg
    rw [hg]
    have HO := Lib.hid hg
    clear hg
    obtain ⟨x0, y0⟩ := B0.six
    go_wp2_with fail
    clear x0 y0
    go_ret2
    exact ⟨by rw [HO.out]; rfl, K1⟩
  rw [hg]
  have HG := Lib.hid hg
  obtain ⟨hgd, h0a, hka⟩ := hasB_true hg
  have hb := (gdB_true hgd).2.1
  clear hg
  obtain ⟨k, rfl⟩ := Int.eq_ofNat_of_zero_le h0a
  rw [Int.toNat_natCast] at hka
  obtain ⟨x0, y0⟩ := B0.six
  go_wp2_with fail
  clear x0 y0
  refine (bsRepeats_any _ its k _ (H1.out.kept K1) hb hka).mono ?_
  rintro e w2 ⟨rfl, k2⟩
  replace B0 := B0.kept k2
  have sz2 := k2.size
  have K2 := K1.trans k2
  obtain ⟨x0, y0⟩ := B0.six
  go_wp2_with fail
  clear x0 y0
  go_ret2
  exact ⟨by rw [HG.out]; first | rfl | (simp only [Int.toNat_natCast]; rfl), K2⟩
set_option maxHeartbeats 1000000 in
theorem implRepeatsOf_any (v0 v1 : Value) (x : CodeD) (its : List ItemD) (a : Int) (w : World) (h0 : CodeAt w v0 x) (h1 : ItemsAt w v1 its)  :
    Calls Try.prog 39 #[v0, v1, .int .i64 a] w fun e w' => e = .returned (.tuple #[.int .i64 (onI (hasB x its a) (repV its a.toNat)), .bool (hasB x its a)]) ∧ Kept w w' := by
  have H0 := Lib.hid h0
  obtain ⟨n0, m0, rfl, p0, q0⟩ := h0
  have HE0 := Lib.hid p0; have HI0 := Lib.hid q0
  obtain ⟨A0, c0, rfl, hnc0, hcm0, _⟩ := p0.1.out; obtain ⟨D0, d0, rfl, hnd0, hdm0, _⟩ := q0.out; clear p0 q0; unfold maxLen at hcm0 hdm0
  have H1 := Lib.hid h1
  obtain ⟨A1, c1, cs1, rfl, hnc1, hcm1, hA1⟩ := h1.out; have HA1 := Lib.hid hA1; clear hA1 h1; unfold maxLen at hcm1
  go_enter Try.func39, Try.ntmps39
  have K0 := Kept.refl w
  go_wp2_with fail
  obtain ⟨wb1, hwb1⟩ : ∃ w' : World, w' = w.alloc (.cells #[.slice A0 x.elems.length c0, .slice D0 x.limits.length d0, .int .i64 x.repeats, .int .i64 x.bonus, .int .i64 x.keeps, .int .i64 x.fall] 32) := ⟨_, rfl⟩
  rw [← hwb1]
  have KB0 : Kept w wb1 := hwb1 ▸ (Kept.refl w).alloc _
  have B0 : Box wb1 (w.heap.size) 32 #[.slice A0 x.elems.length c0, .slice D0 x.limits.length d0, .int .i64 x.repeats, .int .i64 x.bonus, .int .i64 x.keeps, .int .i64 x.fall] := hwb1 ▸ Box.new w (w.heap.size) 32 #[.slice A0 x.elems.length c0, .slice D0 x.limits.length d0, .int .i64 x.repeats, .int .i64 x.bonus, .int .i64 x.keeps, .int .i64 x.fall] rfl
  have swb1 : wb1.heap.size = w.heap.size + 1 := by rw [hwb1]; simp
  clear hwb1
  have Kwb1 := K0.trans KB0
  refine (hasKnown_any _ _ x its a _ (H0.out.kept Kwb1) (H1.out.kept Kwb1)).mono ?_
  rintro e w1 ⟨rfl, k1⟩
  replace B0 := B0.kept k1
  have sz1 := k1.size
  have K1 := Kwb1.trans k1
  by_cases hg : hasB x its a = true
  case neg =>
    simp only [Bool.not_eq_true] at hg
    rw [hg]
    have HO := Lib.hid hg
    clear hg
    obtain ⟨x0, y0⟩ := B0.six
    go_wp2_with fail
    clear x0 y0
    go_ret2
    exact ⟨by rw [HO.out]; rfl, K1⟩
  rw [hg]
  have HG := Lib.hid hg
  obtain ⟨hgd, h0a, hka⟩ := hasB_true hg
  have hb := (gdB_true hgd).2.1
  clear hg
  obtain ⟨k, rfl⟩ := Int.eq_ofNat_of_zero_le h0a
  rw [Int.toNat_natCast] at hka
  obtain ⟨x0, y0⟩ := B0.six
  go_wp2_with fail
  clear x0 y0
  refine (repeatsOf_any _ its k _ (H1.out.kept K1) hb hka).mono ?_
  rintro e w2 ⟨rfl, k2⟩
  replace B0 := B0.kept k2
  have sz2 := k2.size
  have K2 := K1.trans k2
  obtain ⟨x0, y0⟩ := B0.six
  go_wp2_with fail
  clear x0 y0
  go_ret2
  exact ⟨by rw [HG.out]; first | rfl | (simp only [Int.toNat_natCast]; rfl), K2⟩
set_option maxHeartbeats 2000000 in
theorem lawRepeatsOf_any {w : World} {v0 : Value} {v1 : Value} (z0 : CodeD) (z1 : List ItemD) (a2 : Int) (h0 : CodeAt w v0 z0) (h1 : ItemsAt w v1 z1) (_ : (Lit.int .i64 a2).wf = true) :
    Calls Try.prog 7 #[v0, v1, .int .i64 a2] w fun e w' => e = .returned (.bool true) ∧ Kept w w' := by
  have H0 := Lib.hid h0
  obtain ⟨n0, m0, rfl, p0, q0⟩ := h0
  obtain ⟨A0, c0, rfl, _⟩ := p0.1.out
  obtain ⟨D0, d0, rfl, _⟩ := q0.out
  clear p0 q0
  have H1 := Lib.hid h1
  clear h1
  go_enter Try.func7, Try.ntmps7
  have K0 := Kept.refl w
  go_wp2_with fail
  obtain ⟨wb1, hwb1⟩ : ∃ w' : World, w' = w.alloc (.cells #[.slice A0 z0.elems.length c0, .slice D0 z0.limits.length d0, .int .i64 z0.repeats, .int .i64 z0.bonus, .int .i64 z0.keeps, .int .i64 z0.fall] 25) := ⟨_, rfl⟩
  rw [← hwb1]
  have KB0 : Kept w wb1 := hwb1 ▸ (Kept.refl w).alloc _
  have B0 : Box wb1 (w.heap.size) 25 #[.slice A0 z0.elems.length c0, .slice D0 z0.limits.length d0, .int .i64 z0.repeats, .int .i64 z0.bonus, .int .i64 z0.keeps, .int .i64 z0.fall] := hwb1 ▸ Box.new w (w.heap.size) 25 #[.slice A0 z0.elems.length c0, .slice D0 z0.limits.length d0, .int .i64 z0.repeats, .int .i64 z0.bonus, .int .i64 z0.keeps, .int .i64 z0.fall] rfl
  have szwb1 : wb1.heap.size = w.heap.size + 1 := by rw [hwb1]; simp
  clear hwb1
  have Kwb1 := K0.trans KB0
  refine (szCode_any _ z0 _ _ (H0.out.kept Kwb1) (by omega) (by omega)).mono ?_
  rintro e w1 ⟨rfl, k1⟩
  replace B0 := B0.kept k1
  have sz1 := k1.size
  have K1 := Kwb1.trans k1
  by_cases hbig0 : ((z0.size : Nat) : Int) ≤ 1048576
  case neg =>
    have e1 : lessOr 1048576 (z0.size) = -1 := by unfold lessOr; exact if_neg (by omega)
    rw [e1]
    go_wp2_with fail
    go_ret
    exact ⟨rfl, K1⟩
  have e1 : lessOr 1048576 (z0.size) = 1048576 - (z0.size : Int) := by unfold lessOr; exact if_pos (by omega)
  rw [e1]
  clear e1
  have hparts0 := code_parts z0
  obtain ⟨x0, y0⟩ := B0.six
  go_wp2_with fail
  clear x0 y0
  refine (szItemS_any _ z1 _ _ (H1.out.kept K1) (by omega) (by omega)).mono ?_
  rintro e w2 ⟨rfl, k2⟩
  replace B0 := B0.kept k2
  have sz2 := k2.size
  have K2 := K1.trans k2
  by_cases hbig1 : ((itemsSize z1 : Nat) : Int) ≤ (1048576 - (z0.size : Int))
  case neg =>
    have e1 : lessOr (1048576 - (z0.size : Int)) (itemsSize z1) = -1 := by unfold lessOr; exact if_neg (by omega)
    rw [e1]
    go_wp2_with fail
    go_ret
    exact ⟨rfl, K2⟩
  have e1 : lessOr (1048576 - (z0.size : Int)) (itemsSize z1) = (1048576 - (z0.size : Int)) - (itemsSize z1 : Int) := by unfold lessOr; exact if_pos (by omega)
  rw [e1]
  clear e1
  obtain ⟨x0, y0⟩ := B0.six
  go_wp2_with fail
  clear x0 y0
  refine (toCode_any _ z0 _ (H0.out.kept K2) (by omega) (by omega)).mono ?_
  rintro e w3 ⟨u3, rfl, o3, k3⟩
  replace B0 := B0.kept k3
  have sz3 := k3.size
  have K3 := K2.trans k3
  have R3 := Lib.hid o3.code
  clear o3
  obtain ⟨x0, y0⟩ := B0.six
  go_wp2_with fail
  clear x0 y0
  refine (toItemS_any _ z1 _ (H1.out.kept K3) (by omega)).mono ?_
  rintro e w4 ⟨u4, S4, rfl, o4, k4⟩
  replace B0 := B0.kept k4
  replace R3 := Lib.hid (R3.out.kept k4)
  have sz4 := k4.size
  have K4 := K3.trans k4
  have R4 := Lib.hid o4.items
  clear o4
  obtain ⟨x0, y0⟩ := B0.six
  go_wp2_with fail
  clear x0 y0
  refine (specRepeatsOf_any _ _ z0 z1 _ _ R3.out R4.out).mono ?_
  rintro e w5 ⟨rfl, k5⟩
  replace B0 := B0.kept k5
  replace R3 := Lib.hid (R3.out.kept k5)
  replace R4 := Lib.hid (R4.out.kept k5)
  have sz5 := k5.size
  have K5 := K4.trans k5
  clear R3
  clear R4
  obtain ⟨x0, y0⟩ := B0.six
  go_wp2_with fail
  clear x0 y0
  refine (toCode_any _ z0 _ (H0.out.kept K5) (by omega) (by omega)).mono ?_
  rintro e w6 ⟨u6, rfl, o6, k6⟩
  replace B0 := B0.kept k6
  have sz6 := k6.size
  have K6 := K5.trans k6
  obtain ⟨n6, m6, rfl, p6, q6, nd6⟩ := o6
  obtain ⟨A6, c6, rfl, _⟩ := own_form p6.1
  obtain ⟨D6, d6, rfl, _⟩ := own_form q6
  have o6 : OwnK w6 _ (.agg #[.slice A6 z0.elems.length c6, .slice D6 z0.limits.length d6, .int .i64 z0.repeats, .int .i64 z0.bonus, .int .i64 z0.keeps, .int .i64 z0.fall]) z0 := ⟨_, _, rfl, p6, q6, nd6⟩
  clear p6 q6 nd6
  have F6 := Lib.hid o6.fps
  have O6 := Lib.hid o6
  clear o6
  obtain ⟨x0, y0⟩ := B0.six
  have l0 := B0.lt
  go_wp2_with fail
  clear x0 y0 l0
  obtain ⟨wb2, hwb2⟩ : ∃ w' : World, w' = w6.alloc (.cells #[.slice A6 z0.elems.length c6, .slice D6 z0.limits.length d6, .int .i64 z0.repeats, .int .i64 z0.bonus, .int .i64 z0.keeps, .int .i64 z0.fall] 32) := ⟨_, rfl⟩
  rw [← hwb2]
  have KB6 : Kept w6 wb2 := hwb2 ▸ (Kept.refl w6).alloc _
  have B6 : Box wb2 (w6.heap.size) 32 #[.slice A6 z0.elems.length c6, .slice D6 z0.limits.length d6, .int .i64 z0.repeats, .int .i64 z0.bonus, .int .i64 z0.keeps, .int .i64 z0.fall] := hwb2 ▸ Box.new w6 (w6.heap.size) 32 #[.slice A6 z0.elems.length c6, .slice D6 z0.limits.length d6, .int .i64 z0.repeats, .int .i64 z0.bonus, .int .i64 z0.keeps, .int .i64 z0.fall] rfl
  have szwb2 : wb2.heap.size = w6.heap.size + 1 := by rw [hwb2]; simp
  clear hwb2
  replace B0 := B0.kept KB6
  replace O6 := Lib.hid (O6.out.kept KB6)
  have Kwb2 := K6.trans KB6
  refine (toItemS_any _ z1 _ (H1.out.kept Kwb2) (by omega)).mono ?_
  rintro e w7 ⟨u7, S7, rfl, o7, k7⟩
  replace B0 := B0.kept k7
  replace B6 := B6.kept k7
  replace O6 := Lib.hid (O6.out.kept k7)
  have sz7 := k7.size
  have K7 := Kwb2.trans k7
  obtain ⟨cs7, oc7, rfl, hF7⟩ := o7.toC
  have O7 := Lib.hid oc7
  have F7 := Lib.hid hF7
  clear o7 oc7 hF7
  obtain ⟨x0, y0⟩ := B0.six
  obtain ⟨x6, y6⟩ := B6.six
  go_wp2_with fail
  clear x0 y0 x6 y6
  refine (implRepeatsOf_any _ _ z0 z1 _ _ O6.out.code O7.out.items).mono ?_
  rintro e w8 ⟨rfl, k8⟩
  replace B0 := B0.kept k8
  replace B6 := B6.kept k8
  replace O6 := Lib.hid (O6.out.kept k8)
  replace O7 := Lib.hid (O7.out.kept k8)
  have sz8 := k8.size
  have K8 := K7.trans k8
  obtain ⟨x0, y0⟩ := B0.six
  obtain ⟨x6, y6⟩ := B6.six
  go_wp2_with fail
  clear x0 y0 x6 y6
  have KDw8 : Kept w8 w8.drew := (Kept.refl _).drew
  replace B0 := B0.kept KDw8
  replace B6 := B6.kept KDw8
  replace O6 := Lib.hid (O6.out.kept KDw8)
  replace O7 := Lib.hid (O7.out.kept KDw8)
  have KKw8 := K8.trans KDw8
  have szdw8 : w8.heap.size ≤ w8.drew.heap.size := KDw8.size
  go_region_held3 (fun w' => (w'.cell? ⟨w.heap.size, 0, none⟩ = some (.slice A0 z0.elems.length c0) ∧ w'.cell? ⟨w.heap.size, 1, none⟩ = some (.slice D0 z0.limits.length d0) ∧ w'.cell? ⟨w.heap.size, 2, none⟩ = some (.int .i64 z0.repeats) ∧ w'.cell? ⟨w.heap.size, 3, none⟩ = some (.int .i64 z0.bonus) ∧ w'.cell? ⟨w.heap.size, 4, none⟩ = some (.int .i64 z0.keeps) ∧ w'.cell? ⟨w.heap.size, 5, none⟩ = some (.int .i64 z0.fall)) ∧ (w'.cell? ⟨w6.heap.size, 0, none⟩ = some (.slice A6 z0.elems.length c6) ∧ w'.cell? ⟨w6.heap.size, 1, none⟩ = some (.slice D6 z0.limits.length d6) ∧ w'.cell? ⟨w6.heap.size, 2, none⟩ = some (.int .i64 z0.repeats) ∧ w'.cell? ⟨w6.heap.size, 3, none⟩ = some (.int .i64 z0.bonus) ∧ w'.cell? ⟨w6.heap.size, 4, none⟩ = some (.int .i64 z0.keeps) ∧ w'.cell? ⟨w6.heap.size, 5, none⟩ = some (.int .i64 z0.fall))) (first | exact ⟨B0.six.1, B6.six.1⟩ | exact ⟨(B0.kept (by assumption)).six.1, (B6.kept (by assumption)).six.1⟩)
    (first | (go_at_call 20; refine (toCode_any _ z0 _ (H0.out.kept KKw8) (by omega) (by omega)).mono ?_; rintro e w9 ⟨u9, rfl, o9, k9⟩) | (go_at_call 23; refine (eqCode_any _ _ z0 _ (O6.out.code.kept k9) o9.code).mono ?_; rintro e w10 ⟨rfl, k10⟩; have kk10 := k9.trans k10))
  clear o9
  replace B0 := B0.kept kk10
  replace B6 := B6.kept kk10
  replace O6 := Lib.hid (O6.out.kept kk10)
  replace O7 := Lib.hid (O7.out.kept kk10)
  have sz10 := kk10.size
  have K10 := KKw8.trans kk10
  obtain ⟨x0, y0⟩ := B0.six
  obtain ⟨x6, y6⟩ := B6.six
  go_wp2_with fail
  clear x0 y0 x6 y6
  refine (toItemS_any _ z1 _ (H1.out.kept K10) (by omega)).mono ?_
  rintro e w11 ⟨u11, S11, rfl, o11, k11⟩
  replace B0 := B0.kept k11
  replace B6 := B6.kept k11
  replace O6 := Lib.hid (O6.out.kept k11)
  replace O7 := Lib.hid (O7.out.kept k11)
  have sz11 := k11.size
  have K11 := K10.trans k11
  have R11 := Lib.hid o11.items
  clear o11
  obtain ⟨x0, y0⟩ := B0.six
  obtain ⟨x6, y6⟩ := B6.six
  go_wp2_with fail
  clear x0 y0 x6 y6
  refine (eqItemS_any _ _ (z1) _ O7.out.items R11.out).mono ?_
  rintro e w12 ⟨rfl, k12⟩
  replace B0 := B0.kept k12
  replace B6 := B6.kept k12
  replace R11 := Lib.hid (R11.out.kept k12)
  replace O6 := Lib.hid (O6.out.kept k12)
  replace O7 := Lib.hid (O7.out.kept k12)
  have sz12 := k12.size
  have K12 := K11.trans k12
  clear R11
  go_wp2_with fail
  go_ret
  exact ⟨rfl, K12⟩
end Go.Proofs.Ythadbgeafcepoaa
