/- Lists of items: copied, cleaned, with Late as rule 8 says. -/
import Derived.Test.YtmbgcmeiigmbaaaOd
namespace Go.Proofs.Ytmbgcmeiigmbaaa
open Go.RowKit

theorem madeZ (n : Nat) : (madeCells (Value.int .i64 0).cells (n * 1)).toList = (List.replicate n (0 : Int)).map (Value.int .i64) := by
  apply List.ext_getElem?
  intro j
  by_cases hj : j < n
  · simp [madeCells, hj, show (Value.int .i64 0).cells = #[Value.int .i64 0] from rfl, Nat.mod_one]
  · simp [madeCells, hj]
theorem run_make_Z (w : World) (n : Nat) (hn : n ≤ 1048576) : (Instr.makeSlice 22 (.int .i64 (n : Int)) (.int .i64 (n : Int))).run Try.prog w = .ok (.slice (some ⟨w.heap.size, 0, none⟩) n n) (w.alloc (.cells (madeCells (Value.int .i64 0).cells (n * 1)) 3)) := by
  obtain ⟨i0, hi, hz0, hz1, hz2⟩ := info_parts info_int
  have hr := run_make (P := Try.prog) w 22 3 i0 _ Try.underlying22 hi hz0 .i64 .i64 n n (by omega) (Int.le_refl _) (by rw [hz2]; omega) (by omega)
  simp only [Int.toNat_natCast, hz1] at hr
  exact hr
theorem own_make_Z (w : World) (n : Nat) (hn : n ≤ 1048576) : OwnI (w.alloc (.cells (madeCells (Value.int .i64 0).cells (n * 1)) 3)) w.heap.size (.slice (some ⟨w.heap.size, 0, none⟩) n n) (List.replicate n 0) := by
  have h := World.ownsRow_lit (base := w.heap.size) (e := 3) (size := 1) w (madeCells (Value.int .i64 0).cells (n * 1)) n (Nat.le_refl _) (by unfold maxLen; omega) (size_madeCells _ _)
  rw [madeZ] at h
  unfold OwnI
  rw [List.length_replicate]
  exact h
theorem nodup_fp2 {a b : Value} {m : Nat} (h1 : ∀ x ∈ fp a, m ≤ x) (h2 : ∀ x ∈ fp b, x < m) : (fp a ++ fp b).Nodup := by
  rw [List.nodup_append]
  exact ⟨nodup_one a, nodup_one b, fun x hx y hy e => by have := h1 x hx; have := h2 y hy; omega⟩
def cleanIt (it : ItemD) : ItemD := ⟨it.names, List.replicate it.names.length 0, it.late⟩
def cleaned (its : List ItemD) : List ItemD := its.map cleanIt
theorem cleaned_get {its : List ItemD} {k : Nat} {it : ItemD} (h : its[k]? = some it) : (cleaned its)[k]? = some (cleanIt it) := by unfold cleaned; rw [List.getElem?_map, h]; rfl
theorem cleaned_length (its : List ItemD) : (cleaned its).length = its.length := by simp [cleaned]
theorem all_some {its : List ItemD} (h : its.all itemB = true) {k : Nat} {it : ItemD} (hi : its[k]? = some it) : itemB it = true ∧ 1 ≤ it.names.length ∧ it.names.length ≤ 3 ∧ it.marks.length = it.names.length := by
  have h1 := List.all_eq_true.1 h it (List.mem_of_getElem? hi)
  have := itemB_true h1
  exact ⟨h1, this.2.1, this.2.2.1, this.2.2.2.1⟩
def lateI (n k : Nat) (it : ItemD) : ItemD := { it with late := decide (n ≤ 2 * k) }
def lated (its : List ItemD) : List ItemD := its.mapIdx (lateI its.length)
theorem lated_length (its : List ItemD) : (lated its).length = its.length := by simp [lated]
theorem lated_get {its : List ItemD} {k : Nat} {it : ItemD} (h : its[k]? = some it) : (lated its)[k]? = some (lateI its.length k it) := by
  unfold lated; rw [List.getElem?_mapIdx, h]; rfl
def onT (b : Bool) (v : List ItemD) : List ItemD := cond b v []
theorem ret_vb3 {v : Value} {b b' : Bool} (h : b = b') : Ending.returned (.tuple #[v, .bool b]) = .returned (.tuple #[v, .bool b']) := by rw [h]
theorem nilL (w : World) (base : Nat) : OwnL w base (.slice none 0 0) [] (fp (.slice none 0 0) ++ fpL []) := (OwnC.nil0 w base).toL
theorem OwnL.base {w : World} {base base' : Nat} {v : Value} {its : List ItemD} {S : List Nat} (h : OwnL w base v its S) (hb : base' ≤ base) : OwnL w base' v its S := by
  obtain ⟨cs, h1, h2, h3, h4, h5, h6⟩ := h
  exact ⟨cs, h1, own_base h2 hb, fun k nv mv it q1 q2 => ⟨⟨own_base (h3 k nv mv it q1 q2).1.1 hb, (h3 k nv mv it q1 q2).1.2⟩, own_base (h3 k nv mv it q1 q2).2 hb⟩, h4, h5, fun b hb' => ⟨Nat.le_trans hb (h6 b hb').1, (h6 b hb').2⟩⟩
set_option maxHeartbeats 4000000 in
theorem copyItems_any (v0 : Value) (its : List ItemD) (w : World) (h0 : ItemsAt w v0 its) (hv : its.all itemB = true) (hl : its.length ≤ 1000) :
    Calls Try.prog 97 #[v0] w fun e w' => ∃ v' cs, e = .returned v' ∧ OwnC w' w.heap.size v' its cs ∧ Kept w w' := by
  have H0 := Lib.hid h0
  obtain ⟨A0, c0, cs0, rfl, hnc0, hcm0, hA0⟩ := h0.out; have HA0 := Lib.hid hA0; clear hA0 h0; unfold maxLen at hcm0
  go_enter Try.func97, Try.ntmps97
  have K0 := Kept.refl w
  have HV := Lib.hid hv
  clear hv
  go_wp2_with fail
  obtain ⟨w0, hw0⟩ : ∃ w' : World, w' = w.alloc (.cells #[] 64) := ⟨_, rfl⟩
  rw [← hw0]
  have KE : Kept w w0 := hw0 ▸ (Kept.refl w).alloc _
  have HO0 : Hid (OwnC w0 w.heap.size (.slice (some ⟨w.heap.size, 0, none⟩) 0 0) (its.take 0) []) := Lib.hid (OwnC.made _ (Nat.le_refl _) (hw0 ▸ Box.new w _ _ _ rfl))
  clear hw0
  go_loopw [3, 9] (fun q i wr => ∃ (j : Nat) (cs : List (Value × Value)), j ≤ its.length ∧ i = .int .i64 j ∧ OwnC wr w.heap.size q ((its).take j) cs ∧ Kept w wr) (fun _ i _ => its.length - (intOf i).toNat)
  case atStart => exact ⟨0, [], Nat.zero_le _, rfl, HO0.out, KE⟩
  case round =>
    obtain ⟨j, cs, hj, rfl, ho, hkept⟩ := hrel
    have HO := Lib.hid ho
    clear ho HO0
    have szr := hkept.size
    have Kr := K0.trans hkept
    by_cases hlt : j < its.length
    · obtain ⟨b, o, Aa, ca, Ab, cb, it, rfl, hbb, h2, h3, hit, q0, q1, q2⟩ := items_at (HA0.out.kept Kr) hlt
      obtain ⟨hib, hi1, hi3, him⟩ := all_some HV.out h2
      have him3 : it.marks.length ≤ 3 := by omega
      clear him
      have HIT := Lib.hid hit
      have HSN := Lib.hid (take_snoc h2)
      clear h2 h3 hit
      have htl : ((its).take j).length ≤ 1000 := by rw [List.length_take]; omega
      go_upto_region 5 with (fail)
      obtain ⟨wb1, hwb1⟩ : ∃ w' : World, w' = wr.alloc (.cells #[.slice Aa it.names.length ca, .slice Ab it.marks.length cb, .bool it.late] 64) := ⟨_, rfl⟩
      rw [← hwb1]
      have KBt : Kept wr wb1 := hwb1 ▸ (Kept.refl wr).alloc _
      have Bt : Box wb1 (wr.heap.size) 64 #[.slice Aa it.names.length ca, .slice Ab it.marks.length cb, .bool it.late] := hwb1 ▸ Box.new wr (wr.heap.size) 64 #[.slice Aa it.names.length ca, .slice Ab it.marks.length cb, .bool it.late] rfl
      have swb1 : wb1.heap.size = wr.heap.size + 1 := by rw [hwb1]; simp
      clear hwb1
      have Kwb1 := Kr.trans KBt
      clear q0 q1 q2
      obtain ⟨xt, yt⟩ := Bt.three
      go_wp2_with fail
      clear xt yt
      refine (copyItem_any _ it _ (HIT.out.kept KBt) (by omega) (by omega)).mono ?_
      rintro e w1 ⟨v1, rfl, o1, k1⟩
      replace Bt := Bt.kept k1
      have sz1 := k1.size
      have K1 := Kwb1.trans k1
      obtain ⟨nv, mv, rfl, p1, p2, nd⟩ := o1
      rw [fpA_item] at nd
      obtain ⟨A1, c1, rfl, _⟩ := own_form p1.1
      obtain ⟨A2, c2, rfl, _⟩ := own_form p2
      have P1 := Lib.hid p1
      have P2 := Lib.hid p2
      have ND := Lib.hid nd
      clear p1 p2 nd
      have HOk := Lib.hid (HO.out.kept ((KBt.trans k1).alloc (.cells #[.slice A1 it.names.length c1, .slice A2 it.marks.length c2, .bool it.late] 64)))
      obtain ⟨xt, yt⟩ := Bt.three
      go_wp2_with (at_builtin; refine wpList_append_T _ rfl _ _ rfl w.heap.size _ _ _ rfl HOk.out.2.1 w1.heap.size (.slice A1 it.names.length c1) (.slice A2 it.marks.length c2) (.bool it.late) rfl (Box.new _ _ _ _ rfl) ⟨rfl, rfl, rfl⟩ (by omega) (by have := sz1; simp; omega) ?_; intro v3 w3 o3 g3 h3)
      clear xt yt
      have hpush := OwnC.push (it := it) HOk.out ⟨own_base (P1.out.kept ((Kept.refl _).alloc _)).1 (by omega), P1.out.2⟩ (own_base (P2.out.kept ((Kept.refl _).alloc _)) (by omega)) ND.out (fun b hb hb' => by
        have h1 := (HO.out.fps b hb').2
        rcases List.mem_append.1 hb with hb | hb
        · have := (own_fp P1.out.1 b hb).1; omega
        · have := (own_fp P2.out b hb).1; omega) o3 g3 h3
      have kg : Kept w w3 := ((hkept.trans (KBt.trans k1)).alloc _).grew HOk.out.2.1 g3 (Nat.le_refl _)
      have HP := Lib.hid hpush
      clear hpush o3 g3 h3
      go_wp2_with fail
      go_roundw
      case rel => exact ⟨j + 1, _, by omega, by go_num, by rw [HSN.out]; exact HP.out, kg⟩
      case measure => simp [intOf]; omega
    · obtain rfl : j = its.length := by omega
      have HOE : Hid (OwnC wr w.heap.size _ its cs) := Lib.hid (by have := HO.out; rw [List.take_length] at this; exact this)
      go_wp2_with fail
      go_ret
      exact ⟨_, cs, rfl, HOE.out, Kr⟩
set_option maxRecDepth 100000 in
set_option maxHeartbeats 4000000 in
theorem itClean_any (v : Value) (it : ItemD) (w : World) (h : ItemAt w v it) (hn : it.names.length ≤ 1048576) (_ : it.marks.length ≤ 1048576) :
    Calls Try.prog 60 #[v] w fun e w' => ∃ v', e = .returned v' ∧ OwnT w' w.heap.size v' (cleanIt it) ∧ Kept w w' := by
  obtain ⟨nv, mv, rfl, q1, q2⟩ := h
  obtain ⟨A, c, rfl, hnc, hcm, hl⟩ := q1.1.out
  obtain ⟨A2, c2, rfl, _, _, _⟩ := q2.out
  have H1 := Lib.hid q1
  have H2 := Lib.hid q2
  clear q1 q2 hl
  obtain ⟨Z, hZ⟩ : ∃ Z, Z = madeCells (Value.int .i64 0).cells (it.names.length * 1) := ⟨_, rfl⟩
  have hmk : ∀ w : World, (Instr.makeSlice 22 (.int .i64 (it.names.length : Int)) (.int .i64 (it.names.length : Int))).run Try.prog w = .ok (.slice (some ⟨w.heap.size, 0, none⟩) it.names.length it.names.length) (w.alloc (.cells Z 3)) := fun w => by rw [hZ]; exact run_make_Z w it.names.length (by omega)
  have HOZ : Hid (∀ w : World, OwnI (w.alloc (.cells Z 3)) w.heap.size (.slice (some ⟨w.heap.size, 0, none⟩) it.names.length it.names.length) (List.replicate it.names.length 0)) := Lib.hid (fun w => by rw [hZ]; exact own_make_Z w it.names.length (by omega))
  clear hZ
  go_enter Try.func60, Try.ntmps60
  go_wp2_with fail
  have B0 := (Box.new w w.heap.size 64 #[.slice A it.names.length c, .slice A2 it.marks.length c2, .bool it.late] rfl).alloc (.cells #[.slice none 0 0, .slice none 0 0, .bool false] 64)
  have B1 := Box.new (w.alloc (.cells #[.slice A it.names.length c, .slice A2 it.marks.length c2, .bool it.late] 64)) (w.heap.size + 1) 64 #[.slice none 0 0, .slice none 0 0, .bool false] (by simp)
  have K0 : Kept w ((w.alloc (.cells #[.slice A it.names.length c, .slice A2 it.marks.length c2, .bool it.late] 64)).alloc (.cells #[.slice none 0 0, .slice none 0 0, .bool false] 64)) := ((Kept.refl w).alloc _).alloc _
  generalize (w.alloc (.cells #[.slice A it.names.length c, .slice A2 it.marks.length c2, .bool it.late] 64)).alloc (.cells #[.slice none 0 0, .slice none 0 0, .bool false] 64) = w0 at *
  replace B0 : Box w0.drew w.heap.size 64 _ := B0
  have hz0 : w.heap.size + 1 < w0.heap.size := B1.lt
  have B1d : Box w0.drew (w.heap.size + 1) 64 #[.slice none 0 0, .slice none 0 0, .bool false] := B1
  have K0d : Kept w w0.drew := K0.drew
  have B0a : Box (w0.alloc (.cells Z 3)).drew w.heap.size 64 #[.slice A it.names.length c, .slice A2 it.marks.length c2, .bool it.late] := B0.alloc _
  have B1a : Box (w0.alloc (.cells Z 3)).drew (w.heap.size + 1) 64 #[.slice none 0 0, .slice none 0 0, .bool false] := B1.alloc _
  clear B1
  go_region_held3 (fun w' => w'.cell? ⟨w.heap.size, 0, none⟩ = some (.slice A it.names.length c) ∧ w'.cell? ⟨w.heap.size, 1, none⟩ = some (.slice A2 it.marks.length c2) ∧ w'.cell? ⟨w.heap.size, 2, none⟩ = some (.bool it.late)) (first | (with_reducible exact B0.three.1) | (with_reducible exact bz0.three.1) | (with_reducible exact (Box.far3 bz0 (by omega) _ _ _).three.1) | (with_reducible exact B0a.three.1) | (with_reducible exact (B0.kept (by assumption)).three.1) | (with_reducible exact (Box.far3 (B0.kept (by assumption)) (by omega) _ _ _).three.1))
    (first | (go_at_call 96; (with_reducible refine (l1OwnS_any _ it.names _ (H1.out.kept (K0.trans (Kept.refl w0).drew)) hn).mono ?_); rintro e w1 ⟨v1, rfl, o1, k1⟩; obtain ⟨A1, c1, rfl, _, _, _⟩ := own_form o1.1; have O1 := Lib.hid o1; clear o1; have kz : Kept w0 w1 := (Kept.refl w0).drew.trans k1; have bz0 := (B0.kept k1).alloc (.cells Z 3); have bz := (B1d.kept k1).alloc (.cells Z 3); have OZ := Lib.hid (HOZ.out w1); have O1z := Lib.hid (O1.out.kept ((Kept.refl w1).alloc (.cells Z 3))); have ND := Lib.hid (nodup_fp (b := .slice (some ⟨w1.heap.size, 0, none⟩) it.names.length it.names.length) (m := w1.heap.size) (fun y hy => (own_fp O1.out.1 y hy).2) (fun y hy => (own_fp OZ.out y hy).1)); have kf := kz.alloc (.cells Z 3); obtain ⟨cc, ff⟩ := bz.three) | (go_at_call 96; (with_reducible refine (l1OwnS_any _ it.names _ (H1.out.kept (K0.trans ((Kept.refl w0).alloc (.cells Z 3)).drew)) hn).mono ?_); rintro e w1 ⟨v1, rfl, o1, k1⟩; obtain ⟨A1, c1, rfl, _, _, _⟩ := own_form o1.1; have O1 := Lib.hid o1; clear o1; have kz : Kept w0 w1 := ((Kept.refl w0).alloc (.cells Z 3)).drew.trans k1; have bz0 := B0a.kept k1; have bz := B1a.kept k1; have OZ := Lib.hid ((HOZ.out w0).kept (((Kept.refl (w0.alloc (.cells Z 3))).drew).trans k1)); have O1z := O1; have ND := Lib.hid (nodup_fp2 (a := .slice A1 it.names.length c1) (b := .slice (some ⟨w0.heap.size, 0, none⟩) it.names.length it.names.length) (m := w0.heap.size + 1) (fun y hy => by have := (own_fp O1.out.1 y hy).1; simpa using this) (fun y hy => by simp [fp_some] at hy; omega)); have kf := kz; obtain ⟨cc, ff⟩ := bz.three))
  all_goals
    rename_i hheld
    clear hheld cc ff
  · obtain ⟨w3, hw3, B3, Q3⟩ := set3 bz (.slice A1 it.names.length c1) (.slice (some ⟨w1.heap.size, 0, none⟩) it.names.length it.names.length) (.bool it.late)
    rw [← hw3]
    clear hw3
    obtain ⟨cc, ff⟩ := B3.three
    go_wp2_with fail
    have hz1 := k1.size
    have hzd : w0.drew.heap.size = w0.heap.size := rfl
    have hza : (w0.alloc (.cells Z 3)).drew.heap.size = w0.heap.size + 1 := by simp
    refine bodyPost_ret (v := .agg #[.slice A1 it.names.length c1, .slice (some ⟨w1.heap.size, 0, none⟩) it.names.length it.names.length, .bool it.late]) (by simp [results, Try.results60, go_sem, cc, ff]) rfl ⟨_, rfl, ⟨_, _, rfl, ?_, ?_, ?_⟩, ?_⟩
    · exact OwnS.far (S := [w.heap.size + 1]) O1z.out Q3 (by simp; omega) (by omega)
    · exact OwnI.far (S := [w.heap.size + 1]) OZ.out Q3 (by simp; omega) (by omega)
    · rw [fpA_item]; exact ND.out
    · exact Q3.above (K0.trans kf) (by simp)
  · obtain ⟨w3, hw3, B3, Q3⟩ := set3 bz (.slice A1 it.names.length c1) (.slice (some ⟨w0.heap.size, 0, none⟩) it.names.length it.names.length) (.bool it.late)
    rw [← hw3]
    clear hw3
    obtain ⟨cc, ff⟩ := B3.three
    go_wp2_with fail
    have hz1 := k1.size
    have hzd : w0.drew.heap.size = w0.heap.size := rfl
    have hza : (w0.alloc (.cells Z 3)).drew.heap.size = w0.heap.size + 1 := by simp
    refine bodyPost_ret (v := .agg #[.slice A1 it.names.length c1, .slice (some ⟨w0.heap.size, 0, none⟩) it.names.length it.names.length, .bool it.late]) (by simp [results, Try.results60, go_sem, cc, ff]) rfl ⟨_, rfl, ⟨_, _, rfl, ?_, ?_, ?_⟩, ?_⟩
    · exact OwnS.far (S := [w.heap.size + 1]) O1z.out Q3 (by simp; omega) (by omega)
    · exact OwnI.far (S := [w.heap.size + 1]) OZ.out Q3 (by simp; omega) (by omega)
    · rw [fpA_item]; exact ND.out
    · exact Q3.above (K0.trans kf) (by simp)
set_option maxHeartbeats 4000000 in
theorem specCleanItems_any (v0 : Value) (its : List ItemD) (w : World) (h0 : ItemsAt w v0 its)  :
    Calls Try.prog 20 #[v0] w fun e w' => ∃ v' S, e = .returned (.tuple #[v', .bool (itemsB its)]) ∧ OwnL w' w.heap.size v' (onT (itemsB its) (cleaned its)) S ∧ Kept w w' := by
  have H0 := Lib.hid h0
  obtain ⟨A0, c0, cs0, rfl, hnc0, hcm0, hA0⟩ := h0.out; have HA0 := Lib.hid hA0; clear hA0 h0; unfold maxLen at hcm0
  go_enter Try.func20, Try.ntmps20
  have K0 := Kept.refl w
  go_wp2_with fail
  refine (itList_any _ its _ (H0.out.kept K0)).mono ?_
  rintro e w1 ⟨rfl, k1⟩
  have sz1 := k1.size
  have K1 := K0.trans k1
  by_cases hb : itemsB its = true
  case neg =>
    simp only [Bool.not_eq_true] at hb
    rw [hb]
    have HO := Lib.hid hb
    clear hb
    go_wp2_with fail
    go_ret2
    exact ⟨_, _, ret_vb3 HO.out.symm, by rw [HO.out]; exact nilL _ _, K1⟩
  rw [hb]
  have HB := Lib.hid hb
  have hl14 := (itemsB_true hb).1
  have HV : Hid (its.all itemB = true) := Lib.hid (List.all_eq_true.2 (fun it hi => (itemsB_true hb).2 it hi))
  clear hb
  have KE := Kept.refl w1
  have HO0 : Hid (OwnC w1 w1.heap.size (.slice none 0 0) ((cleaned its).take 0) []) := Lib.hid (OwnC.nil0 _ _)
  have hcl := cleaned_length its
  have HCL := Lib.hid hcl
  clear hcl
  go_wp2_with fail
  go_loopw [4, 12] (fun q i wr => ∃ (j : Nat) (cs : List (Value × Value)), j ≤ its.length ∧ i = .int .i64 j ∧ OwnC wr w1.heap.size q ((cleaned its).take j) cs ∧ Kept w1 wr) (fun _ i _ => its.length - (intOf i).toNat)
  case atStart => exact ⟨0, [], Nat.zero_le _, rfl, HO0.out, KE⟩
  case round =>
    obtain ⟨j, cs, hj, rfl, ho, hkept⟩ := hrel
    have HO := Lib.hid ho
    clear ho HO0
    have szr := hkept.size
    have Kr := K1.trans hkept
    by_cases hlt : j < its.length
    · obtain ⟨b, o, Aa, ca, Ab, cb, it, rfl, hbb, h2, h3, hit, q0, q1, q2⟩ := items_at (HA0.out.kept Kr) hlt
      obtain ⟨hib, hi1, hi3, him⟩ := all_some HV.out h2
      have him3 : it.marks.length ≤ 3 := by omega
      clear him
      have HIT := Lib.hid hit
      have HSN := Lib.hid (take_snoc (cleaned_get h2))
      clear h2 h3 hit
      have htl : ((cleaned its).take j).length ≤ 1000 := by rw [List.length_take]; omega
      go_upto_region 7 with (fail)
      obtain ⟨wb1, hwb1⟩ : ∃ w' : World, w' = wr.alloc (.cells #[.slice Aa it.names.length ca, .slice Ab it.marks.length cb, .bool it.late] 64) := ⟨_, rfl⟩
      rw [← hwb1]
      have KBt : Kept wr wb1 := hwb1 ▸ (Kept.refl wr).alloc _
      have Bt : Box wb1 (wr.heap.size) 64 #[.slice Aa it.names.length ca, .slice Ab it.marks.length cb, .bool it.late] := hwb1 ▸ Box.new wr (wr.heap.size) 64 #[.slice Aa it.names.length ca, .slice Ab it.marks.length cb, .bool it.late] rfl
      have swb1 : wb1.heap.size = wr.heap.size + 1 := by rw [hwb1]; simp
      clear hwb1
      have Kwb1 := Kr.trans KBt
      clear q0 q1 q2
      obtain ⟨xt, yt⟩ := Bt.three
      go_wp2_with fail
      clear xt yt
      refine (itClean_any _ it _ (HIT.out.kept KBt) (by omega) (by omega)).mono ?_
      rintro e w2 ⟨v2, rfl, o2, k2⟩
      replace Bt := Bt.kept k2
      have sz2 := k2.size
      have K2 := Kwb1.trans k2
      obtain ⟨nv, mv, rfl, p1, p2, nd⟩ := o2
      rw [fpA_item] at nd
      obtain ⟨A1, c1, rfl, _⟩ := own_form p1.1
      obtain ⟨A2, c2, rfl, _⟩ := own_form p2
      have P1 := Lib.hid p1
      have P2 := Lib.hid p2
      have ND := Lib.hid nd
      clear p1 p2 nd
      have HOk := Lib.hid (HO.out.kept ((KBt.trans k2).alloc (.cells #[.slice A1 (cleanIt it).names.length c1, .slice A2 (cleanIt it).marks.length c2, .bool (cleanIt it).late] 64)))
      obtain ⟨xt, yt⟩ := Bt.three
      go_wp2_with (at_builtin; refine wpList_append_T _ rfl _ _ rfl w1.heap.size _ _ _ rfl HOk.out.2.1 w2.heap.size (.slice A1 (cleanIt it).names.length c1) (.slice A2 (cleanIt it).marks.length c2) (.bool (cleanIt it).late) rfl (Box.new _ _ _ _ rfl) ⟨rfl, rfl, rfl⟩ (by omega) (by have := sz2; simp; omega) ?_; intro v3 w3 o3 g3 h3)
      clear xt yt
      have hpush := OwnC.push (it := cleanIt it) HOk.out ⟨own_base (P1.out.kept ((Kept.refl _).alloc _)).1 (by omega), P1.out.2⟩ (own_base (P2.out.kept ((Kept.refl _).alloc _)) (by omega)) ND.out (fun b hb hb' => by
        have h1 := (HO.out.fps b hb').2
        rcases List.mem_append.1 hb with hb | hb
        · have := (own_fp P1.out.1 b hb).1; omega
        · have := (own_fp P2.out b hb).1; omega) o3 g3 h3
      have kg : Kept w1 w3 := ((hkept.trans (KBt.trans k2)).alloc _).grew HOk.out.2.1 g3 (Nat.le_refl _)
      have HP := Lib.hid hpush
      clear hpush o3 g3 h3
      go_wp2_with fail
      go_roundw
      case rel => exact ⟨j + 1, _, by omega, by go_num, by rw [HSN.out]; exact HP.out, kg⟩
      case measure => simp [intOf]; omega
    · obtain rfl : j = its.length := by omega
      have HOE : Hid (OwnC wr w1.heap.size _ (cleaned its) cs) := Lib.hid (by have := HO.out; rw [List.take_of_length_le (by rw [HCL.out]; exact Nat.le_refl _)] at this; exact this)
      go_wp2_with fail
      go_ret2
      exact ⟨_, _, ret_vb3 HB.out.symm, by rw [HB.out]; exact (HOE.out.base K1.size).toL, Kr⟩
end Go.Proofs.Ytmbgcmeiigmbaaa
