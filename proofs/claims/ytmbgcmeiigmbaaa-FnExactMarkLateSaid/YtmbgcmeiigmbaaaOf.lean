/- CleanItems, MarkLate. -/
import Derived.Test.YtmbgcmeiigmbaaaOe
import Derived.Test.YtmbgcmeiigmbaaaRow
namespace Go.Proofs.Ytmbgcmeiigmbaaa
open Go.RowKit

theorem ItemAt.two {w : World} {a b : Value} {l : Bool} {it : ItemD} (h : ItemAt w (.agg #[a, b, .bool l]) it) : Strs w a it.names ∧ Ints w b it.marks := by
  obtain ⟨nv, mv, e, h1, h2⟩ := h
  simp only [Value.agg.injEq] at e
  simp at e
  obtain ⟨rfl, rfl, _⟩ := e
  exact ⟨h1, h2⟩
theorem zeroI (w : World) : (zeroValue 3).run Try.prog w = .ok (.int .i64 0) w := by kernel_rfl
theorem clearI {w : World} {base g cap : Nat} {zs : List Int} (h : OwnI w base (.slice (some ⟨g, 0, none⟩) zs.length cap) zs) (hn : 0 < zs.length) :
    (∀ ty, (Builtin.clear_ #[22] ty #[.slice (some ⟨g, 0, none⟩) zs.length cap]).run Try.prog w = .ok (.tuple #[]) (w.setCells g 0 (List.replicate zs.length (.int .i64 0)))) ∧
    OwnI (w.setCells g 0 (List.replicate zs.length (.int .i64 0))) base (.slice (some ⟨g, 0, none⟩) zs.length cap) (List.replicate zs.length 0) ∧ Only [g] w (w.setCells g 0 (List.replicate zs.length (.int .i64 0))) := by
  have hg := (h.lt g rfl).1
  obtain ⟨cur, B, hnc, hcm, hsz, htk⟩ := own_box h
  have hcl : zs.length ≤ cur.size := by omega
  refine ⟨fun ty => ?_, ?_, only_sets g _ 0 w⟩
  · exact Lib.run_clear_slice w 22 3 ty (.int .i64 0) Try.underlying22 zeroI rfl rfl g 0 zs.length cap hn (fun j hj => by rw [Nat.zero_add]; exact B.some (by omega)) (fun j _ => B.free _)
  · have hl : (List.replicate zs.length (0 : Int)).length = zs.length := List.length_replicate
    unfold OwnI
    rw [hl, List.map_replicate]
    refine own_of_box (Box.sets _ 0 _ _ B) hg hnc hcm (by rw [sets_size]; exact hsz) ?_
    rw [sets_toList _ 0 _ (by simp; omega)]
    simp
set_option maxHeartbeats 1000000 in
theorem isLateAt_is (k : Nat) (n : Nat) (b : Bool) (w : World)  (hb : decide (n ≤ 2 * k) = b) (hk : k ≤ 1000) (hn : n ≤ 1000) :
    Calls Try.prog 99 #[.int .i64 (k : Int), .int .i64 (n : Int)] w fun e w' => e = .returned (.bool b) ∧ w = w' := by
  subst hb
  go_enter Try.func99, Try.ntmps99
  have K0 := Kept.refl w
  go_wp2_with fail
  go_ret
  exact ⟨ret_bool (by rw [Bool.eq_iff_iff]; simp; omega), rfl⟩
set_option maxRecDepth 100000 in
set_option maxHeartbeats 4000000 in
theorem itOwn_any (v0 : Value) (its : List ItemD) (w : World) (h0 : ItemsAt w v0 its) (hv : its.all itemB = true) (hl : its.length ≤ 1000) :
    Calls Try.prog 98 #[v0] w fun e w' => ∃ v' cs, e = .returned v' ∧ OwnC w' w.heap.size v' its cs ∧ Kept w w' := by
  have H0 := Lib.hid h0
  obtain ⟨A0, c0, cs0, rfl, hnc0, hcm0, hA0⟩ := h0.out; have HA0 := Lib.hid hA0; clear hA0 h0; unfold maxLen at hcm0
  go_enter Try.func98, Try.ntmps98
  have K0 := Kept.refl w
  have HV := Lib.hid hv
  clear hv
  go_wp2_with fail
  have KE := Kept.refl w
  have HO0 : Hid (OwnC w w.heap.size (.slice none 0 0) (its.take 0) []) := Lib.hid (OwnC.nil0 _ _)
  go_loopw [3, 8] (fun q i wr => ∃ (j : Nat) (cs : List (Value × Value)), j ≤ its.length ∧ i = .int .i64 j ∧ OwnC wr w.heap.size q ((its).take j) cs ∧ Kept w wr) (fun _ i _ => its.length - (intOf i).toNat)
  case atStart => exact ⟨0, [], Nat.zero_le _, rfl, HO0.out, KE⟩
  case round =>
    obtain ⟨j, cs, hj, rfl, ho, hkept⟩ := hrel
    have HO := Lib.hid ho
    clear ho HO0
    have szr := hkept.size
    have Kr := K0.trans hkept
    by_cases hlt : j < its.length
    · obtain ⟨b, o, Aa, ca, Ab, cb, it, rfl, hbb, h2, h3, hit, q0, q1, q2⟩ := items_at (HA0.out.kept Kr) hlt
      obtain ⟨hib, hi1, hi3, him⟩ := all_some HV.out h2
      have him3 : it.marks.length ≤ 3 := by omega
      clear him
      have HIT := Lib.hid hit
      have HSN := Lib.hid (take_snoc h2)
      clear h2 h3 hit
      have htl : ((its).take j).length ≤ 1000 := by rw [List.length_take]; omega
      go_upto_region 5 with (fail)
      obtain ⟨wb1, hwb1⟩ : ∃ w' : World, w' = wr.alloc (.cells #[.slice Aa it.names.length ca, .slice Ab it.marks.length cb, .bool it.late] 64) := ⟨_, rfl⟩
      rw [← hwb1]
      have KBt : Kept wr wb1 := hwb1 ▸ (Kept.refl wr).alloc _
      have Bt : Box wb1 (wr.heap.size) 64 #[.slice Aa it.names.length ca, .slice Ab it.marks.length cb, .bool it.late] := hwb1 ▸ Box.new wr (wr.heap.size) 64 #[.slice Aa it.names.length ca, .slice Ab it.marks.length cb, .bool it.late] rfl
      have swb1 : wb1.heap.size = wr.heap.size + 1 := by rw [hwb1]; simp
      clear hwb1
      have Kwb1 := Kr.trans KBt
      clear q0 q1 q2
      have Kd1_ : Kept wb1 wb1.drew := (Kept.refl _).drew
      replace Bt := Bt.kept Kd1_
      have Kd1 := Kwb1.trans Kd1_
      have KWd : Kept wr wb1.drew := (KBt.trans Kd1_)
      have p1 := HIT.out.two.1
      have p2 := HIT.out.two.2
      have P1s := Lib.hid (p1.kept KWd)
      have P2s := Lib.hid (p2.kept KWd)
      clear p1 p2
      have HOd := Lib.hid (HO.out.kept KWd)
      go_region_held3 (fun w' => (w'.cell? ⟨wr.heap.size, 0, none⟩ = some (.slice Aa it.names.length ca) ∧ w'.cell? ⟨wr.heap.size, 1, none⟩ = some (.slice Ab it.marks.length cb) ∧ w'.cell? ⟨wr.heap.size, 2, none⟩ = some (.bool it.late))) (first | exact Bt.three.1 | exact (Bt.kept (by assumption)).three.1 | exact ((Bt.kept (by assumption)).alloc _).three.1 | (with_reducible exact hS3)) (first | (go_at_call 96; refine (l1OwnS_any _ it.names _ P1s.out (by omega)).mono ?_; rintro e wa ⟨va, rfl, oa, ka⟩; obtain ⟨A1, c1, rfl, _⟩ := own_form oa.1; have OA := Lib.hid oa; clear oa) | (go_at_call 136; refine (l1OwnI_any _ it.marks _ (P2s.out.kept ka) (by omega)).mono ?_; rintro e wb ⟨vb, rfl, ob, kb⟩; obtain ⟨A2, c2, rfl, _⟩ := own_form ob; have OB := Lib.hid ob; clear ob; have kab := ka.trans kb) | (refine step_append_T _ rfl (.tmp 12) (.tmp 22) rfl w.heap.size _ _ _ rfl ((HOd.out.kept kab).kept ((Kept.refl _).alloc _)).2.1 wb.heap.size (.slice A1 it.names.length c1) (.slice A2 it.marks.length c2) (.bool it.late) rfl (Box.new _ _ _ _ rfl) ⟨rfl, rfl, rfl⟩ (by omega) (by have := K0.size; have := kab.size; have := KWd.size; have := hkept.size; simp at *; omega) ?_; intro v3 w3 o3 g3 h3; have HOk := Lib.hid ((HOd.out.kept kab).kept ((Kept.refl wb).alloc (.cells #[.slice A1 it.names.length c1, .slice A2 it.marks.length c2, .bool it.late] 64))); have hS3 := ((Bt.kept (kab.alloc (.cells #[.slice A1 it.names.length c1, .slice A2 it.marks.length c2, .bool it.late] 64))).only (only_of_grown g3) (fun hb => by have := HO.out.fps _ (List.mem_append_left _ hb); omega)).three.1))
      rename_i hheld
      clear hheld hS3
      have sza := ka.size
      have szb := kb.size
      have szd := KWd.size
      have hpush := OwnC.push (it := it) HOk.out ⟨own_base (OA.out.kept (kb.trans ((Kept.refl _).alloc _))).1 (by omega), OA.out.2⟩ (own_base (OB.out.kept ((Kept.refl _).alloc _)) (by omega)) (nodup_fp (m := wa.heap.size) (fun y hy => (own_fp OA.out.1 y hy).2) (fun y hy => (own_fp OB.out y hy).1)) (fun b hb hb' => by
        have h1 := (HO.out.fps b hb').2
        rcases List.mem_append.1 hb with hb | hb
        · have := (own_fp OA.out.1 b hb).1; omega
        · have := (own_fp OB.out b hb).1; omega) o3 g3 h3
      have kg : Kept w w3 := (((hkept.trans KWd).trans kab).alloc _).grew HOk.out.2.1 g3 (Nat.le_refl _)
      have HP := Lib.hid hpush
      clear hpush o3 g3 h3
      go_wp2_with fail
      go_roundw
      case rel => exact ⟨j + 1, _, by omega, by go_num, by rw [HSN.out]; exact HP.out, kg⟩
      case measure => simp [intOf]; omega
    · obtain rfl : j = its.length := by omega
      have HOE : Hid (OwnC wr w.heap.size _ its cs) := Lib.hid (by have := HO.out; rw [List.take_length] at this; exact this)
      go_wp2_with fail
      go_ret
      exact ⟨_, cs, rfl, HOE.out, Kr⟩
set_option maxHeartbeats 4000000 in
theorem markLate_any (v0 : Value) (its : List ItemD) (w : World) (h0 : ItemsAt w v0 its) (hv : its.all itemB = true) (hl : its.length ≤ 1000) :
    Calls Try.prog 64 #[v0] w fun e w' => ∃ v' cs, e = .returned v' ∧ OwnC w' w.heap.size v' (lated its) cs ∧ Kept w w' := by
  have H0 := Lib.hid h0
  obtain ⟨A0, c0, cs0, rfl, hnc0, hcm0, hA0⟩ := h0.out; have HA0 := Lib.hid hA0; clear hA0 h0; unfold maxLen at hcm0
  go_enter Try.func64, Try.ntmps64
  have K0 := Kept.refl w
  have HV := Lib.hid hv
  clear hv
  go_wp2_with fail
  refine (copyItems_any _ its _ (H0.out.kept K0) HV.out hl).mono ?_
  rintro e w1 ⟨v1, cs, rfl, o1, k1⟩
  have sz1 := k1.size
  have K1 := K0.trans k1
  obtain ⟨Ag, cg, rfl, hng, hcg, hAg⟩ := own_form o1.2.1
  unfold maxLen at hcg
  have hcl := o1.1
  have HCL := Lib.hid hcl
  clear hcl
  have HO1 : Hid (OwnC w1 w.heap.size (.slice Ag its.length cg) ((lated its).take 0 ++ its.drop 0) cs) := Lib.hid (by rw [List.take_zero, List.drop_zero, List.nil_append]; exact o1)
  clear o1
  have HAg := Lib.hid hAg
  clear hAg
  go_wp2_with fail
  go_loopw [9] (fun i wr => ∃ k : Nat, k ≤ its.length ∧ i = .int .i64 k ∧ OwnC wr w.heap.size (.slice Ag its.length cg) ((lated its).take k ++ its.drop k) cs ∧ Kept w wr) (fun i _ => its.length - (intOf i).toNat)
  case atStart => exact ⟨0, Nat.zero_le _, rfl, HO1.out, K1⟩
  case round =>
    obtain ⟨k, hk, rfl, ho, hkept⟩ := hrel
    clear HO1
    by_cases hlt : k < its.length
    · obtain ⟨g, rfl⟩ := HAg.out (by omega)
      obtain ⟨it, hit⟩ : ∃ it, its[k]? = some it := ⟨_, List.getElem?_eq_getElem hlt⟩
      obtain ⟨⟨nv, mv⟩, hc⟩ : ∃ p, cs[k]? = some p := ⟨_, List.getElem?_eq_getElem (by rw [HCL.out]; exact hlt)⟩
      have hmx : ((lated its).take k ++ its.drop k)[k]? = some it := (mixA_get (lated_length its) hlt).trans hit
      obtain ⟨⟨q0, q1, q2⟩, f0, f1, f2⟩ := ownC_cells ho hmx hc
      have hst := OwnC.setLate (it' := lateI its.length k it) ho (mixA_len (lated_length its) (Nat.le_of_lt hlt)).symm hmx hc rfl rfl
      rw [mixA_set (lated_length its) hlt (lated_get hit)] at hst
      have hgl := (ho.2.1.lt g rfl).1
      clear ho hmx hit hc q0 q1 f0 f1
      by_cases hq : its.length ≤ 2 * k
      · rw [show (lateI its.length k it).late = true from decide_eq_true hq] at hst
        have HST := Lib.hid hst
        clear hst
        have hd0 : decide (its.length ≤ 2 * k) = true := decide_eq_true hq
        have hd1 : decide ((its.length : Int) ≤ 2 * (k : Int)) = true := by simp; omega
        have hd2 : decide (2 * (k : Int) ≥ (its.length : Int)) = true := by simp; omega
        have hkl : (k : Int) < (its.length : Int) := by omega
        have HD := Lib.hid hd0
        clear hd0 hq
        go_wp2_with (go_at_call 99; refine (isLateAt_is k its.length true _ HD.out (by omega) (by omega)).mono ?_; rintro e w' ⟨rfl, rfl⟩)
        go_roundw
        case rel => exact ⟨k + 1, by omega, by go_num, HST.out, Kept.setCell hkept hgl _⟩
        case measure => simp [intOf]; omega
      · rw [show (lateI its.length k it).late = false from decide_eq_false hq] at hst
        have HST := Lib.hid hst
        clear hst
        have hd0 : decide (its.length ≤ 2 * k) = false := decide_eq_false hq
        have hd1 : decide ((its.length : Int) ≤ 2 * (k : Int)) = false := by simp; omega
        have hd2 : decide (2 * (k : Int) ≥ (its.length : Int)) = false := by simp; omega
        have hkl : (k : Int) < (its.length : Int) := by omega
        have HD := Lib.hid hd0
        clear hd0 hq
        go_wp2_with (go_at_call 99; refine (isLateAt_is k its.length false _ HD.out (by omega) (by omega)).mono ?_; rintro e w' ⟨rfl, rfl⟩)
        go_roundw
        case rel => exact ⟨k + 1, by omega, by go_num, HST.out, Kept.setCell hkept hgl _⟩
        case measure => simp [intOf]; omega
    · obtain rfl : k = its.length := by omega
      have HOE : Hid (OwnC wr w.heap.size (.slice Ag its.length cg) (lated its) cs) := Lib.hid (by have q := ho; rw [List.take_of_length_le (by rw [lated_length]; exact Nat.le_refl _), List.drop_length, List.append_nil] at q; exact q)
      clear ho
      go_wp2_with fail
      go_ret
      exact ⟨_, cs, rfl, HOE.out, hkept⟩
set_option maxHeartbeats 4000000 in
theorem pgLate_any (v0 : Value) (its : List ItemD) (w : World) (h0 : ItemsAt w v0 its) (hv : its.all itemB = true) (hl : its.length ≤ 1000) :
    Calls Try.prog 63 #[v0] w fun e w' => ∃ v' cs, e = .returned v' ∧ OwnC w' w.heap.size v' (lated its) cs ∧ Kept w w' := by
  have H0 := Lib.hid h0
  obtain ⟨A0, c0, cs0, rfl, hnc0, hcm0, hA0⟩ := h0.out; have HA0 := Lib.hid hA0; clear hA0 h0; unfold maxLen at hcm0
  go_enter Try.func63, Try.ntmps63
  have K0 := Kept.refl w
  have HV := Lib.hid hv
  clear hv
  go_wp2_with fail
  refine (itOwn_any _ its _ (H0.out.kept K0) HV.out hl).mono ?_
  rintro e w1 ⟨v1, cs, rfl, o1, k1⟩
  have sz1 := k1.size
  have K1 := K0.trans k1
  obtain ⟨Ag, cg, rfl, hng, hcg, hAg⟩ := own_form o1.2.1
  unfold maxLen at hcg
  have hcl := o1.1
  have HCL := Lib.hid hcl
  clear hcl
  have HO1 : Hid (OwnC w1 w.heap.size (.slice Ag its.length cg) ((lated its).take 0 ++ its.drop 0) cs) := Lib.hid (by rw [List.take_zero, List.drop_zero, List.nil_append]; exact o1)
  clear o1
  have HAg := Lib.hid hAg
  clear hAg
  go_wp2_with fail
  go_loopw [9] (fun i wr => ∃ k : Nat, k ≤ its.length ∧ i = .int .i64 k ∧ OwnC wr w.heap.size (.slice Ag its.length cg) ((lated its).take k ++ its.drop k) cs ∧ Kept w wr) (fun i _ => its.length - (intOf i).toNat)
  case atStart => exact ⟨0, Nat.zero_le _, rfl, HO1.out, K1⟩
  case round =>
    obtain ⟨k, hk, rfl, ho, hkept⟩ := hrel
    clear HO1
    by_cases hlt : k < its.length
    · obtain ⟨g, rfl⟩ := HAg.out (by omega)
      obtain ⟨it, hit⟩ : ∃ it, its[k]? = some it := ⟨_, List.getElem?_eq_getElem hlt⟩
      obtain ⟨⟨nv, mv⟩, hc⟩ : ∃ p, cs[k]? = some p := ⟨_, List.getElem?_eq_getElem (by rw [HCL.out]; exact hlt)⟩
      have hmx : ((lated its).take k ++ its.drop k)[k]? = some it := (mixA_get (lated_length its) hlt).trans hit
      obtain ⟨⟨q0, q1, q2⟩, f0, f1, f2⟩ := ownC_cells ho hmx hc
      have hst := OwnC.setLate (it' := lateI its.length k it) ho (mixA_len (lated_length its) (Nat.le_of_lt hlt)).symm hmx hc rfl rfl
      rw [mixA_set (lated_length its) hlt (lated_get hit)] at hst
      have hgl := (ho.2.1.lt g rfl).1
      clear ho hmx hit hc q0 q1 f0 f1
      by_cases hq : its.length ≤ 2 * k
      · rw [show (lateI its.length k it).late = true from decide_eq_true hq] at hst
        have HST := Lib.hid hst
        clear hst
        have hd0 : decide (its.length ≤ 2 * k) = true := decide_eq_true hq
        have hd1 : decide ((its.length : Int) ≤ 2 * (k : Int)) = true := by simp; omega
        have hd2 : decide (2 * (k : Int) ≥ (its.length : Int)) = true := by simp; omega
        have hkl : (k : Int) < (its.length : Int) := by omega
        have HD := Lib.hid hd0
        clear hd0 hq
        go_wp2_with fail
        go_roundw
        case rel => exact ⟨k + 1, by omega, by go_num, HST.out, Kept.setCell hkept hgl _⟩
        case measure => simp [intOf]; omega
      · rw [show (lateI its.length k it).late = false from decide_eq_false hq] at hst
        have HST := Lib.hid hst
        clear hst
        have hd0 : decide (its.length ≤ 2 * k) = false := decide_eq_false hq
        have hd1 : decide ((its.length : Int) ≤ 2 * (k : Int)) = false := by simp; omega
        have hd2 : decide (2 * (k : Int) ≥ (its.length : Int)) = false := by simp; omega
        have hkl : (k : Int) < (its.length : Int) := by omega
        have HD := Lib.hid hd0
        clear hd0 hq
        go_wp2_with fail
        go_roundw
        case rel => exact ⟨k + 1, by omega, by go_num, HST.out, Kept.setCell hkept hgl _⟩
        case measure => simp [intOf]; omega
    · obtain rfl : k = its.length := by omega
      have HOE : Hid (OwnC wr w.heap.size (.slice Ag its.length cg) (lated its) cs) := Lib.hid (by have q := ho; rw [List.take_of_length_le (by rw [lated_length]; exact Nat.le_refl _), List.drop_length, List.append_nil] at q; exact q)
      clear ho
      go_wp2_with fail
      go_ret
      exact ⟨_, cs, rfl, HOE.out, hkept⟩
set_option maxHeartbeats 4000000 in
theorem cleanItems_any (v0 : Value) (its : List ItemD) (w : World) (h0 : ItemsAt w v0 its) (hv : its.all itemB = true) (hl : its.length ≤ 1000) :
    Calls Try.prog 62 #[v0] w fun e w' => ∃ v' cs, e = .returned v' ∧ OwnC w' w.heap.size v' (cleaned its) cs ∧ Kept w w' := by
  have H0 := Lib.hid h0
  obtain ⟨A0, c0, cs0, rfl, hnc0, hcm0, hA0⟩ := h0.out; have HA0 := Lib.hid hA0; clear hA0 h0; unfold maxLen at hcm0
  go_enter Try.func62, Try.ntmps62
  have K0 := Kept.refl w
  have HV := Lib.hid hv
  clear hv
  go_wp2_with fail
  refine (copyItems_any _ its _ (H0.out.kept K0) HV.out hl).mono ?_
  rintro e w1 ⟨v1, cs, rfl, o1, k1⟩
  have sz1 := k1.size
  have K1 := K0.trans k1
  obtain ⟨Ag, cg, rfl, hng, hcg, hAg⟩ := own_form o1.2.1
  unfold maxLen at hcg
  have hcl := o1.1
  have HCL := Lib.hid hcl
  clear hcl
  have HO1 : Hid (OwnC w1 w.heap.size (.slice Ag its.length cg) ((cleaned its).take 0 ++ its.drop 0) cs) := Lib.hid (by rw [List.take_zero, List.drop_zero, List.nil_append]; exact o1)
  clear o1
  have HAg := Lib.hid hAg
  clear hAg
  go_wp2_with fail
  go_loopw [9] (fun i wr => ∃ k : Nat, k ≤ its.length ∧ i = .int .i64 k ∧ OwnC wr w.heap.size (.slice Ag its.length cg) ((cleaned its).take k ++ its.drop k) cs ∧ Kept w wr) (fun i _ => its.length - (intOf i).toNat)
  case atStart => exact ⟨0, Nat.zero_le _, rfl, HO1.out, K1⟩
  case round =>
    obtain ⟨k, hk, rfl, ho, hkept⟩ := hrel
    clear HO1
    by_cases hlt : k < its.length
    · obtain ⟨g, rfl⟩ := HAg.out (by omega)
      obtain ⟨it, hit⟩ : ∃ it, its[k]? = some it := ⟨_, List.getElem?_eq_getElem hlt⟩
      obtain ⟨⟨nv, mv⟩, hc⟩ : ∃ p, cs[k]? = some p := ⟨_, List.getElem?_eq_getElem (by rw [HCL.out]; exact hlt)⟩
      have hmx : ((cleaned its).take k ++ its.drop k)[k]? = some it := (mixA_get (cleaned_length its) hlt).trans hit
      obtain ⟨⟨q0, q1, q2⟩, f0, f1, f2⟩ := ownC_cells ho hmx hc
      obtain ⟨rn, rm⟩ := ho.2.2.1 k nv mv it hc hmx
      obtain ⟨hib, hi1, hi3, him⟩ := all_some HV.out hit
      obtain ⟨A2, c2, rfl, _, hc2m, hA2⟩ := own_form rm
      obtain ⟨g2, rfl⟩ := hA2 (by omega)
      unfold maxLen at hc2m
      have hg2 := (rm.lt g2 rfl).1
      obtain ⟨hclr, hown2, honly⟩ := clearI rm (by omega)
      have hnd := fpL_inner (List.nodup_append.1 ho.2.2.2).2.1 hc
      have hrn := rn.only honly (fun b hb hb' => by
        rw [List.mem_singleton] at hb'
        subst hb'
        exact (List.nodup_append.1 hnd).2.2 b hb b (by simp [fp_some]) rfl)
      have hst := OwnC.setItem (it' := cleanIt it) ho hmx hc honly (fun b hb => by rw [List.mem_singleton] at hb; subst hb; simp [fp_some]) rfl hrn (by rw [him] at hown2; unfold cleanIt; exact him ▸ hown2)
      rw [mixA_set (cleaned_length its) hlt (cleaned_get hit)] at hst
      have HST := Lib.hid hst
      have kk : Kept w _ := honly.above hkept (fun b hb => by rw [List.mem_singleton] at hb; subst hb; exact hg2)
      have KK := Lib.hid kk
      have hkl : (k : Int) < (its.length : Int) := by omega
      clear ho hmx hit hc q0 q2 f0 f1 f2 hst kk honly hown2 rn rm hnd hrn hib him
      go_wp2_with fail
      go_roundw
      case rel => exact ⟨k + 1, by omega, by go_num, HST.out, KK.out⟩
      case measure => simp [intOf]; omega
    · obtain rfl : k = its.length := by omega
      have HOE : Hid (OwnC wr w.heap.size (.slice Ag its.length cg) (cleaned its) cs) := Lib.hid (by have q := ho; rw [List.take_of_length_le (by rw [cleaned_length]; exact Nat.le_refl _), List.drop_length, List.append_nil] at q; exact q)
      clear ho
      go_wp2_with fail
      go_ret
      exact ⟨_, cs, rfl, HOE.out, hkept⟩
set_option maxHeartbeats 2000000 in
theorem implCleanItems_any (v0 : Value) (its : List ItemD) (w : World) (h0 : ItemsAt w v0 its)  :
    Calls Try.prog 22 #[v0] w fun e w' => ∃ v' S, e = .returned (.tuple #[v', .bool (itemsB its)]) ∧ OwnL w' w.heap.size v' (onT (itemsB its) (cleaned its)) S ∧ Kept w w' := by
  have H0 := Lib.hid h0
  obtain ⟨A0, c0, cs0, rfl, hnc0, hcm0, hA0⟩ := h0.out; have HA0 := Lib.hid hA0; clear hA0 h0; unfold maxLen at hcm0
  go_enter Try.func22, Try.ntmps22
  have K0 := Kept.refl w
  go_wp2_with fail
  refine (areItems_any _ its _ (H0.out.kept K0)).mono ?_
  rintro e w1 ⟨rfl, k1⟩
  have sz1 := k1.size
  have K1 := K0.trans k1
  by_cases hb : itemsB its = true
  case neg =>
    simp only [Bool.not_eq_true] at hb
    rw [hb]
    have HO := Lib.hid hb
    clear hb
    go_wp2_with fail
    go_ret2
    exact ⟨_, _, ret_vb3 HO.out.symm, by rw [HO.out]; exact nilL _ _, K1⟩
  rw [hb]
  have HB := Lib.hid hb
  have hl14 := (itemsB_true hb).1
  have HV : Hid (its.all itemB = true) := Lib.hid (List.all_eq_true.2 (fun it hi => (itemsB_true hb).2 it hi))
  clear hb
  go_wp2_with fail
  refine (cleanItems_any _ its _ (H0.out.kept K1) HV.out (by omega)).mono ?_
  rintro e w2 ⟨v2, cs, rfl, o2, k2⟩
  have sz2 := k2.size
  have K2 := K1.trans k2
  have HO := Lib.hid o2
  clear o2
  go_wp2_with fail
  go_ret2
  exact ⟨_, _, ret_vb3 HB.out.symm, by rw [HB.out]; exact (HO.out.base K1.size).toL, K2⟩
set_option maxHeartbeats 2000000 in
theorem implMarkLate_any (v0 : Value) (its : List ItemD) (w : World) (h0 : ItemsAt w v0 its)  :
    Calls Try.prog 27 #[v0] w fun e w' => ∃ v' S, e = .returned (.tuple #[v', .bool (itemsB its)]) ∧ OwnL w' w.heap.size v' (onT (itemsB its) (lated its)) S ∧ Kept w w' := by
  have H0 := Lib.hid h0
  obtain ⟨A0, c0, cs0, rfl, hnc0, hcm0, hA0⟩ := h0.out; have HA0 := Lib.hid hA0; clear hA0 h0; unfold maxLen at hcm0
  go_enter Try.func27, Try.ntmps27
  have K0 := Kept.refl w
  go_wp2_with fail
  refine (areItems_any _ its _ (H0.out.kept K0)).mono ?_
  rintro e w1 ⟨rfl, k1⟩
  have sz1 := k1.size
  have K1 := K0.trans k1
  by_cases hb : itemsB its = true
  case neg =>
    simp only [Bool.not_eq_true] at hb
    rw [hb]
    have HO := Lib.hid hb
    clear hb
    go_wp2_with fail
    go_ret2
    exact ⟨_, _, ret_vb3 HO.out.symm, by rw [HO.out]; exact nilL _ _, K1⟩
  rw [hb]
  have HB := Lib.hid hb
  have hl14 := (itemsB_true hb).1
  have HV : Hid (its.all itemB = true) := Lib.hid (List.all_eq_true.2 (fun it hi => (itemsB_true hb).2 it hi))
  clear hb
  go_wp2_with fail
  refine (markLate_any _ its _ (H0.out.kept K1) HV.out (by omega)).mono ?_
  rintro e w2 ⟨v2, cs, rfl, o2, k2⟩
  have sz2 := k2.size
  have K2 := K1.trans k2
  have HO := Lib.hid o2
  clear o2
  go_wp2_with fail
  go_ret2
  exact ⟨_, _, ret_vb3 HB.out.symm, by rw [HB.out]; exact (HO.out.base K1.size).toL, K2⟩
set_option maxHeartbeats 2000000 in
theorem specMarkLate_any (v0 : Value) (its : List ItemD) (w : World) (h0 : ItemsAt w v0 its)  :
    Calls Try.prog 26 #[v0] w fun e w' => ∃ v' S, e = .returned (.tuple #[v', .bool (itemsB its)]) ∧ OwnL w' w.heap.size v' (onT (itemsB its) (lated its)) S ∧ Kept w w' := by
  have H0 := Lib.hid h0
  obtain ⟨A0, c0, cs0, rfl, hnc0, hcm0, hA0⟩ := h0.out; have HA0 := Lib.hid hA0; clear hA0 h0; unfold maxLen at hcm0
  go_enter Try.func26, Try.ntmps26
  have K0 := Kept.refl w
  go_wp2_with fail
  refine (itList_any _ its _ (H0.out.kept K0)).mono ?_
  rintro e w1 ⟨rfl, k1⟩
  have sz1 := k1.size
  have K1 := K0.trans k1
  by_cases hb : itemsB its = true
  case neg =>
    simp only [Bool.not_eq_true] at hb
    rw [hb]
    have HO := Lib.hid hb
    clear hb
    go_wp2_with fail
    go_ret2
    exact ⟨_, _, ret_vb3 HO.out.symm, by rw [HO.out]; exact nilL _ _, K1⟩
  rw [hb]
  have HB := Lib.hid hb
  have hl14 := (itemsB_true hb).1
  have HV : Hid (its.all itemB = true) := Lib.hid (List.all_eq_true.2 (fun it hi => (itemsB_true hb).2 it hi))
  clear hb
  go_wp2_with fail
  refine (pgLate_any _ its _ (H0.out.kept K1) HV.out (by omega)).mono ?_
  rintro e w2 ⟨v2, cs, rfl, o2, k2⟩
  have sz2 := k2.size
  have K2 := K1.trans k2
  have HO := Lib.hid o2
  clear o2
  go_wp2_with fail
  go_ret2
  exact ⟨_, _, ret_vb3 HB.out.symm, by rw [HB.out]; exact (HO.out.base K1.size).toL, K2⟩
end Go.Proofs.Ytmbgcmeiigmbaaa
