/- Contracts of functions that the proof leans on. No condition. -/
import Derived.Test.YtkekpolfdmmgeaaGreatMc5ca7b1b16
import Derived.Deep.RegionHeld3
import Derived.Deep.DeepCutAuto
/- Lists of items copied; marks cleared, late ones set. -/
namespace Go.Proofs.YtkekpolfdmmgeaaGreat
set_option linter.unusedVariables false
set_option linter.unusedSimpArgs false
open Go.RowKit

theorem l1OwnI_any (v : Value) (zs : List Int) (w : World) (h : Ints w v zs) (hn : zs.length ≤ 1048576) :
    Calls Tryz.prog 74 #[v] w fun e w' => ∃ v', e = .returned v' ∧ OwnI w' w.heap.size v' zs ∧ Kept w w' := by
  have H := Lib.hid h
  clear h
  go_enter Tryz.func74, Tryz.ntmps74
  go_wp2_with (at_builtin; refine wpList_append_I _ rfl _ _ rfl w.heap.size _ [] rfl (own_made _ _ 1 (Nat.le_refl _) (Box.new _ _ _ _ rfl)) _ zs rfl (H.out.kept ((Kept.refl _).alloc _)) (by simp; omega) (by simp) ?_; intro v' w' ho' hg)
  have kg := ((Kept.refl w).alloc (.cells #[] 3)).grew (own_made (base := w.heap.size) _ _ 1 (Nat.le_refl _) (Box.new _ _ _ _ rfl)) hg (Nat.le_refl _)
  go_ret
  exact ⟨_, rfl, ho', kg⟩
theorem copyIntsI_any (v : Value) (zs : List Int) (w : World) (h : Ints w v zs) (hn : zs.length ≤ 1048576) :
    Calls Tryz.prog 95 #[v] w fun e w' => ∃ v', e = .returned v' ∧ OwnI w' w.heap.size v' zs ∧ Kept w w' := by
  have H := Lib.hid h
  clear h
  go_enter Tryz.func95, Tryz.ntmps95
  go_wp2_with (at_builtin; refine wpList_append_I _ rfl _ _ rfl w.heap.size _ [] rfl (own_made _ _ 1 (Nat.le_refl _) (Box.new _ _ _ _ rfl)) _ zs rfl (H.out.kept ((Kept.refl _).alloc _)) (by simp; omega) (by simp) ?_; intro v' w' ho' hg)
  have kg := ((Kept.refl w).alloc (.cells #[] 3)).grew (own_made (base := w.heap.size) _ _ 1 (Nat.le_refl _) (Box.new _ _ _ _ rfl)) hg (Nat.le_refl _)
  go_ret
  exact ⟨_, rfl, ho', kg⟩
theorem l1OwnS_any (v : Value) (zs : List ByteArray) (w : World) (h : Strs w v zs) (hn : zs.length ≤ 1048576) :
    Calls Tryz.prog 73 #[v] w fun e w' => ∃ v', e = .returned v' ∧ OwnS w' w.heap.size v' zs ∧ Kept w w' := by
  have H := Lib.hid h
  clear h
  go_enter Tryz.func73, Tryz.ntmps73
  go_wp2_with (at_builtin; refine wpList_append_S _ rfl _ _ rfl w.heap.size _ [] rfl ⟨own_made _ _ 1 (Nat.le_refl _) (Box.new _ _ _ _ rfl), (fun _ h => by cases h)⟩ _ zs rfl (H.out.kept ((Kept.refl _).alloc _)) (by simp; omega) (by simp) ?_; intro v' w' ho' hg)
  have kg := ((Kept.refl w).alloc (.cells #[] 9)).grew (own_made (base := w.heap.size) _ _ 1 (Nat.le_refl _) (Box.new _ _ _ _ rfl)) hg (Nat.le_refl _)
  go_ret
  exact ⟨_, rfl, ho', kg⟩
set_option maxRecDepth 100000 in
set_option maxHeartbeats 4000000 in
theorem copyItem_any (v : Value) (it : ItemD) (w : World) (h : ItemAt w v it) (hn : it.names.length ≤ 1048576) (hm : it.marks.length ≤ 1048576) :
    Calls Tryz.prog 80 #[v] w fun e w' => ∃ v', e = .returned v' ∧ OwnT w' w.heap.size v' it ∧ Kept w w' := by
  obtain ⟨nv, mv, rfl, q1, q2⟩ := h
  obtain ⟨A, c, rfl, hnc, hcm, hl⟩ := q1.1.out
  obtain ⟨A2, c2, rfl, _, _, _⟩ := q2.out
  have H1 := Lib.hid q1
  have H2 := Lib.hid q2
  clear q1 q2 hl
  go_enter Tryz.func80, Tryz.ntmps80
  go_wp2_with fail
  have B0 := (Box.new w w.heap.size 30 #[.slice A it.names.length c, .slice A2 it.marks.length c2, .bool it.late] rfl).alloc (.cells #[.slice none 0 0, .slice none 0 0, .bool false] 30)
  have B1 := Box.new (w.alloc (.cells #[.slice A it.names.length c, .slice A2 it.marks.length c2, .bool it.late] 30)) (w.heap.size + 1) 30 #[.slice none 0 0, .slice none 0 0, .bool false] (by simp)
  have K0 : Kept w ((w.alloc (.cells #[.slice A it.names.length c, .slice A2 it.marks.length c2, .bool it.late] 30)).alloc (.cells #[.slice none 0 0, .slice none 0 0, .bool false] 30)) := ((Kept.refl w).alloc _).alloc _
  generalize (w.alloc (.cells #[.slice A it.names.length c, .slice A2 it.marks.length c2, .bool it.late] 30)).alloc (.cells #[.slice none 0 0, .slice none 0 0, .bool false] 30) = w0 at *
  replace B0 : Box w0.drew w.heap.size 30 _ := B0
  have hz0 : w.heap.size + 1 < w0.heap.size := B1.lt
  have B1d : Box w0.drew (w.heap.size + 1) 30 #[.slice none 0 0, .slice none 0 0, .bool false] := B1
  have K0d : Kept w w0.drew := K0.drew
  have B0a : Box (w0.alloc (.cells #[] 9)).drew w.heap.size 30 #[.slice A it.names.length c, .slice A2 it.marks.length c2, .bool it.late] := B0.alloc _
  clear B1
  go_region_held3 (fun w' => w'.cell? ⟨w.heap.size, 0, none⟩ = some (.slice A it.names.length c) ∧ w'.cell? ⟨w.heap.size, 1, none⟩ = some (.slice A2 it.marks.length c2) ∧ w'.cell? ⟨w.heap.size, 2, none⟩ = some (.bool it.late)) (first | (with_reducible exact B0.three.1) | (with_reducible exact B0a.three.1) | (with_reducible exact (B0.kept (by assumption)).three.1) | (with_reducible exact (Box.far3 (B0.kept (by assumption)) (by omega) _ _ _).three.1))
    (first | (refine step_append_S _ rfl _ _ rfl w0.drew.heap.size _ [] rfl ⟨own_made _ _ 1 (Nat.le_refl _) (Box.new _ _ _ _ rfl), (fun _ h => by cases h)⟩ _ it.names rfl (H1.out.kept (K0d.alloc _)) (by simp; omega) (by simp) ?_; intro v1 w1 o1 hg1; have k1 := ((Kept.refl w0.drew).alloc (.cells #[] 9)).grew (own_made (base := w0.drew.heap.size) _ _ 1 (Nat.le_refl _) (Box.new _ _ _ _ rfl)) hg1 (Nat.le_refl _); clear hg1; obtain ⟨A1, c1, rfl, _, _, _⟩ := own_form o1.1; have O1 := Lib.hid o1; clear o1) | (go_at_call 95; refine (copyIntsI_any _ it.marks _ (H2.out.kept (K0d.trans k1)) hm).mono ?_; rintro e w2 ⟨v2, rfl, o2, k2⟩; have k12 := k1.trans k2; obtain ⟨A3, c3, rfl, _, _, _⟩ := own_form o2; have O2 := Lib.hid o2; clear o2; obtain ⟨cc, ff⟩ := (B1d.kept k12).three))
  rename_i hheld
  clear hheld cc ff
  obtain ⟨w3, hw3, B3, Q3⟩ := set3 (B1d.kept k12) (.slice A1 it.names.length c1) (.slice A3 it.marks.length c3) (.bool it.late)
  rw [← hw3]
  clear hw3
  obtain ⟨cc, ff⟩ := B3.three
  go_wp2_with fail
  have hz1 := k1.size
  have hz2 := k2.size
  have hzd : w0.drew.heap.size = w0.heap.size := rfl
  refine bodyPost_ret (v := .agg #[.slice A1 it.names.length c1, .slice A3 it.marks.length c3, .bool it.late]) (by simp [results, Tryz.results80, go_sem, cc, ff]) rfl ⟨_, rfl, ⟨_, _, rfl, ?_, ?_, ?_⟩, ?_⟩
  · exact OwnS.far (S := [w.heap.size + 1]) (O1.out.kept k2) Q3 (by simp; omega) (by omega)
  · exact OwnI.far (S := [w.heap.size + 1]) O2.out Q3 (by simp; omega) (by omega)
  · rw [fpA_item]
    exact nodup_fp (m := w1.heap.size) (fun y hy => (own_fp O1.out.1 y hy).2) (fun y hy => (own_fp O2.out y hy).1)
  · exact Q3.above (K0d.trans k12) (by simp)
end Go.Proofs.YtkekpolfdmmgeaaGreat

/- Lists of items: copied, cleaned, with Late as rule 8 says. -/
namespace Go.Proofs.YtkekpolfdmmgeaaGreat
set_option linter.unusedVariables false
set_option linter.unusedSimpArgs false
open Go.RowKit

theorem madeZ (n : Nat) : (madeCells (Value.int .i64 0).cells (n * 1)).toList = (List.replicate n (0 : Int)).map (Value.int .i64) := by
  apply List.ext_getElem?
  intro j
  by_cases hj : j < n
  · simp [madeCells, hj, show (Value.int .i64 0).cells = #[Value.int .i64 0] from rfl, Nat.mod_one]
  · simp [madeCells, hj]
theorem run_make_Z (w : World) (n : Nat) (hn : n ≤ 1048576) : (Instr.makeSlice 24 (.int .i64 (n : Int)) (.int .i64 (n : Int))).run Tryz.prog w = .ok (.slice (some ⟨w.heap.size, 0, none⟩) n n) (w.alloc (.cells (madeCells (Value.int .i64 0).cells (n * 1)) 3)) := by
  obtain ⟨i0, hi, hz0, hz1, hz2⟩ := info_parts info_int
  have hr := run_make (P := Tryz.prog) w 24 3 i0 _ Tryz.underlying24 hi hz0 .i64 .i64 n n (by omega) (Int.le_refl _) (by rw [hz2]; omega) (by omega)
  simp only [Int.toNat_natCast, hz1] at hr
  exact hr
theorem own_make_Z (w : World) (n : Nat) (hn : n ≤ 1048576) : OwnI (w.alloc (.cells (madeCells (Value.int .i64 0).cells (n * 1)) 3)) w.heap.size (.slice (some ⟨w.heap.size, 0, none⟩) n n) (List.replicate n 0) := by
  have h := World.ownsRow_lit (base := w.heap.size) (e := 3) (size := 1) w (madeCells (Value.int .i64 0).cells (n * 1)) n (Nat.le_refl _) (by unfold maxLen; omega) (size_madeCells _ _)
  rw [madeZ] at h
  unfold OwnI
  rw [List.length_replicate]
  exact h
theorem nodup_fp2 {a b : Value} {m : Nat} (h1 : ∀ x ∈ fp a, m ≤ x) (h2 : ∀ x ∈ fp b, x < m) : (fp a ++ fp b).Nodup := by
  rw [List.nodup_append]
  exact ⟨nodup_one a, nodup_one b, fun x hx y hy e => by have := h1 x hx; have := h2 y hy; omega⟩
def cleanIt (it : ItemD) : ItemD := ⟨it.names, List.replicate it.names.length 0, it.late⟩
def cleaned (its : List ItemD) : List ItemD := its.map cleanIt
theorem cleaned_get {its : List ItemD} {k : Nat} {it : ItemD} (h : its[k]? = some it) : (cleaned its)[k]? = some (cleanIt it) := by unfold cleaned; rw [List.getElem?_map, h]; rfl
theorem cleaned_length (its : List ItemD) : (cleaned its).length = its.length := by simp [cleaned]
theorem all_some {its : List ItemD} (h : its.all itemB = true) {k : Nat} {it : ItemD} (hi : its[k]? = some it) : itemB it = true ∧ 1 ≤ it.names.length ∧ it.names.length ≤ 3 ∧ it.marks.length = it.names.length := by
  have h1 := List.all_eq_true.1 h it (List.mem_of_getElem? hi)
  have := itemB_true h1
  exact ⟨h1, this.2.1, this.2.2.1, this.2.2.2.1⟩
def lateI (n k : Nat) (it : ItemD) : ItemD := { it with late := decide (n ≤ 2 * k) }
def lated (its : List ItemD) : List ItemD := its.mapIdx (lateI its.length)
theorem lated_length (its : List ItemD) : (lated its).length = its.length := by simp [lated]
theorem lated_get {its : List ItemD} {k : Nat} {it : ItemD} (h : its[k]? = some it) : (lated its)[k]? = some (lateI its.length k it) := by
  unfold lated; rw [List.getElem?_mapIdx, h]; rfl
def onT (b : Bool) (v : List ItemD) : List ItemD := cond b v []
theorem ret_vb3 {v : Value} {b b' : Bool} (h : b = b') : Ending.returned (.tuple #[v, .bool b]) = .returned (.tuple #[v, .bool b']) := by rw [h]
theorem nilL (w : World) (base : Nat) : OwnL w base (.slice none 0 0) [] (fp (.slice none 0 0) ++ fpL []) := (OwnC.nil0 w base).toL
theorem OwnL.base {w : World} {base base' : Nat} {v : Value} {its : List ItemD} {S : List Nat} (h : OwnL w base v its S) (hb : base' ≤ base) : OwnL w base' v its S := by
  obtain ⟨cs, h1, h2, h3, h4, h5, h6⟩ := h
  exact ⟨cs, h1, own_base h2 hb, fun k nv mv it q1 q2 => ⟨⟨own_base (h3 k nv mv it q1 q2).1.1 hb, (h3 k nv mv it q1 q2).1.2⟩, own_base (h3 k nv mv it q1 q2).2 hb⟩, h4, h5, fun b hb' => ⟨Nat.le_trans hb (h6 b hb').1, (h6 b hb').2⟩⟩
set_option maxHeartbeats 4000000 in
theorem copyItems_any (v0 : Value) (its : List ItemD) (w : World) (h0 : ItemsAt w v0 its) (hv : its.all itemB = true) (hl : its.length ≤ 1000) :
    Calls Tryz.prog 69 #[v0] w fun e w' => ∃ v' cs, e = .returned v' ∧ OwnC w' w.heap.size v' its cs ∧ Kept w w' := by
  have H0 := Lib.hid h0
  obtain ⟨A0, c0, cs0, rfl, hnc0, hcm0, hA0⟩ := h0.out; have HA0 := Lib.hid hA0; clear hA0 h0; unfold maxLen at hcm0
  go_enter Tryz.func69, Tryz.ntmps69
  have K0 := Kept.refl w
  have HV := Lib.hid hv
  clear hv
  go_wp2_with fail
  obtain ⟨w0, hw0⟩ : ∃ w' : World, w' = w.alloc (.cells #[] 30) := ⟨_, rfl⟩
  rw [← hw0]
  have KE : Kept w w0 := hw0 ▸ (Kept.refl w).alloc _
  have HO0 : Hid (OwnC w0 w.heap.size (.slice (some ⟨w.heap.size, 0, none⟩) 0 0) (its.take 0) []) := Lib.hid (OwnC.made _ (Nat.le_refl _) (hw0 ▸ Box.new w _ _ _ rfl))
  clear hw0
  go_loopw [3, 9] (fun q i wr => ∃ (j : Nat) (cs : List (Value × Value)), j ≤ its.length ∧ i = .int .i64 j ∧ OwnC wr w.heap.size q ((its).take j) cs ∧ Kept w wr) (fun _ i _ => its.length - (intOf i).toNat)
  case atStart => exact ⟨0, [], Nat.zero_le _, rfl, HO0.out, KE⟩
  case round =>
    obtain ⟨j, cs, hj, rfl, ho, hkept⟩ := hrel
    have HO := Lib.hid ho
    clear ho HO0
    have szr := hkept.size
    have Kr := K0.trans hkept
    by_cases hlt : j < its.length
    · obtain ⟨b, o, Aa, ca, Ab, cb, it, rfl, hbb, h2, h3, hit, q0, q1, q2⟩ := items_at (HA0.out.kept Kr) hlt
      obtain ⟨hib, hi1, hi3, him⟩ := all_some HV.out h2
      have him3 : it.marks.length ≤ 3 := by omega
      clear him
      have HIT := Lib.hid hit
      have HSN := Lib.hid (take_snoc h2)
      clear h2 h3 hit
      have htl : ((its).take j).length ≤ 1000 := by rw [List.length_take]; omega
      go_upto_region 5 with (fail)
      obtain ⟨wb1, hwb1⟩ : ∃ w' : World, w' = wr.alloc (.cells #[.slice Aa it.names.length ca, .slice Ab it.marks.length cb, .bool it.late] 30) := ⟨_, rfl⟩
      rw [← hwb1]
      have KBt : Kept wr wb1 := hwb1 ▸ (Kept.refl wr).alloc _
      have Bt : Box wb1 (wr.heap.size) 30 #[.slice Aa it.names.length ca, .slice Ab it.marks.length cb, .bool it.late] := hwb1 ▸ Box.new wr (wr.heap.size) 30 #[.slice Aa it.names.length ca, .slice Ab it.marks.length cb, .bool it.late] rfl
      have swb1 : wb1.heap.size = wr.heap.size + 1 := by rw [hwb1]; simp
      clear hwb1
      have Kwb1 := Kr.trans KBt
      clear q0 q1 q2
      obtain ⟨xt, yt⟩ := Bt.three
      go_wp2_with fail
      clear xt yt
      refine (copyItem_any _ it _ (HIT.out.kept KBt) (by omega) (by omega)).mono ?_
      rintro e w1 ⟨v1, rfl, o1, k1⟩
      replace Bt := Bt.kept k1
      have sz1 := k1.size
      have K1 := Kwb1.trans k1
      obtain ⟨nv, mv, rfl, p1, p2, nd⟩ := o1
      rw [fpA_item] at nd
      obtain ⟨A1, c1, rfl, _⟩ := own_form p1.1
      obtain ⟨A2, c2, rfl, _⟩ := own_form p2
      have P1 := Lib.hid p1
      have P2 := Lib.hid p2
      have ND := Lib.hid nd
      clear p1 p2 nd
      have HOk := Lib.hid (HO.out.kept ((KBt.trans k1).alloc (.cells #[.slice A1 it.names.length c1, .slice A2 it.marks.length c2, .bool it.late] 30)))
      obtain ⟨xt, yt⟩ := Bt.three
      go_wp2_with (at_builtin; refine wpList_append_T _ rfl _ _ rfl w.heap.size _ _ _ rfl HOk.out.2.1 w1.heap.size (.slice A1 it.names.length c1) (.slice A2 it.marks.length c2) (.bool it.late) rfl (Box.new _ _ _ _ rfl) ⟨rfl, rfl, rfl⟩ (by omega) (by have := sz1; simp; omega) ?_; intro v3 w3 o3 g3 h3)
      clear xt yt
      have hpush := OwnC.push (it := it) HOk.out ⟨own_base (P1.out.kept ((Kept.refl _).alloc _)).1 (by omega), P1.out.2⟩ (own_base (P2.out.kept ((Kept.refl _).alloc _)) (by omega)) ND.out (fun b hb hb' => by
        have h1 := (HO.out.fps b hb').2
        rcases List.mem_append.1 hb with hb | hb
        · have := (own_fp P1.out.1 b hb).1; omega
        · have := (own_fp P2.out b hb).1; omega) o3 g3 h3
      have kg : Kept w w3 := ((hkept.trans (KBt.trans k1)).alloc _).grew HOk.out.2.1 g3 (Nat.le_refl _)
      have HP := Lib.hid hpush
      clear hpush o3 g3 h3
      go_wp2_with fail
      go_roundw
      case rel => exact ⟨j + 1, _, by omega, by go_num, by rw [HSN.out]; exact HP.out, kg⟩
      case measure => simp [intOf]; omega
    · obtain rfl : j = its.length := by omega
      have HOE : Hid (OwnC wr w.heap.size _ its cs) := Lib.hid (by have := HO.out; rw [List.take_length] at this; exact this)
      go_wp2_with fail
      go_ret
      exact ⟨_, cs, rfl, HOE.out, Kr⟩
end Go.Proofs.YtkekpolfdmmgeaaGreat

/- CleanItems, MarkLate. -/
namespace Go.Proofs.YtkekpolfdmmgeaaGreat
set_option linter.unusedVariables false
set_option linter.unusedSimpArgs false
open Go.RowKit

theorem ItemAt.two {w : World} {a b : Value} {l : Bool} {it : ItemD} (h : ItemAt w (.agg #[a, b, .bool l]) it) : Strs w a it.names ∧ Ints w b it.marks := by
  obtain ⟨nv, mv, e, h1, h2⟩ := h
  simp only [Value.agg.injEq] at e
  simp at e
  obtain ⟨rfl, rfl, _⟩ := e
  exact ⟨h1, h2⟩
theorem zeroI (w : World) : (zeroValue 3).run Tryz.prog w = .ok (.int .i64 0) w := by kernel_rfl
theorem clearI {w : World} {base g cap : Nat} {zs : List Int} (h : OwnI w base (.slice (some ⟨g, 0, none⟩) zs.length cap) zs) (hn : 0 < zs.length) :
    (∀ ty, (Builtin.clear_ #[24] ty #[.slice (some ⟨g, 0, none⟩) zs.length cap]).run Tryz.prog w = .ok (.tuple #[]) (w.setCells g 0 (List.replicate zs.length (.int .i64 0)))) ∧
    OwnI (w.setCells g 0 (List.replicate zs.length (.int .i64 0))) base (.slice (some ⟨g, 0, none⟩) zs.length cap) (List.replicate zs.length 0) ∧ Only [g] w (w.setCells g 0 (List.replicate zs.length (.int .i64 0))) := by
  have hg := (h.lt g rfl).1
  obtain ⟨cur, B, hnc, hcm, hsz, htk⟩ := own_box h
  have hcl : zs.length ≤ cur.size := by omega
  refine ⟨fun ty => ?_, ?_, only_sets g _ 0 w⟩
  · exact Lib.run_clear_slice w 24 3 ty (.int .i64 0) Tryz.underlying24 zeroI rfl rfl g 0 zs.length cap hn (fun j hj => by rw [Nat.zero_add]; exact B.some (by omega)) (fun j _ => B.free _)
  · have hl : (List.replicate zs.length (0 : Int)).length = zs.length := List.length_replicate
    unfold OwnI
    rw [hl, List.map_replicate]
    refine own_of_box (Box.sets _ 0 _ _ B) hg hnc hcm (by rw [sets_size]; exact hsz) ?_
    rw [sets_toList _ 0 _ (by simp; omega)]
    simp
set_option maxHeartbeats 1000000 in
theorem isLateAt_is (k : Nat) (n : Nat) (b : Bool) (w : World)  (hb : decide (n ≤ 2 * k) = b) (hk : k ≤ 1000) (hn : n ≤ 1000) :
    Calls Tryz.prog 70 #[.int .i64 (k : Int), .int .i64 (n : Int)] w fun e w' => e = .returned (.bool b) ∧ w = w' := by
  subst hb
  go_enter Tryz.func70, Tryz.ntmps70
  have K0 := Kept.refl w
  go_wp2_with fail
  go_ret
  exact ⟨ret_bool (by rw [Bool.eq_iff_iff]; simp; omega), rfl⟩
set_option maxRecDepth 100000 in
set_option maxHeartbeats 4000000 in
theorem itOwn_any (v0 : Value) (its : List ItemD) (w : World) (h0 : ItemsAt w v0 its) (hv : its.all itemB = true) (hl : its.length ≤ 1000) :
    Calls Tryz.prog 53 #[v0] w fun e w' => ∃ v' cs, e = .returned v' ∧ OwnC w' w.heap.size v' its cs ∧ Kept w w' := by
  have H0 := Lib.hid h0
  obtain ⟨A0, c0, cs0, rfl, hnc0, hcm0, hA0⟩ := h0.out; have HA0 := Lib.hid hA0; clear hA0 h0; unfold maxLen at hcm0
  go_enter Tryz.func53, Tryz.ntmps53
  have K0 := Kept.refl w
  have HV := Lib.hid hv
  clear hv
  go_wp2_with fail
  have KE := Kept.refl w
  have HO0 : Hid (OwnC w w.heap.size (.slice none 0 0) (its.take 0) []) := Lib.hid (OwnC.nil0 _ _)
  go_loopw [3, 8] (fun q i wr => ∃ (j : Nat) (cs : List (Value × Value)), j ≤ its.length ∧ i = .int .i64 j ∧ OwnC wr w.heap.size q ((its).take j) cs ∧ Kept w wr) (fun _ i _ => its.length - (intOf i).toNat)
  case atStart => exact ⟨0, [], Nat.zero_le _, rfl, HO0.out, KE⟩
  case round =>
    obtain ⟨j, cs, hj, rfl, ho, hkept⟩ := hrel
    have HO := Lib.hid ho
    clear ho HO0
    have szr := hkept.size
    have Kr := K0.trans hkept
    by_cases hlt : j < its.length
    · obtain ⟨b, o, Aa, ca, Ab, cb, it, rfl, hbb, h2, h3, hit, q0, q1, q2⟩ := items_at (HA0.out.kept Kr) hlt
      obtain ⟨hib, hi1, hi3, him⟩ := all_some HV.out h2
      have him3 : it.marks.length ≤ 3 := by omega
      clear him
      have HIT := Lib.hid hit
      have HSN := Lib.hid (take_snoc h2)
      clear h2 h3 hit
      have htl : ((its).take j).length ≤ 1000 := by rw [List.length_take]; omega
      go_upto_region 5 with (fail)
      obtain ⟨wb1, hwb1⟩ : ∃ w' : World, w' = wr.alloc (.cells #[.slice Aa it.names.length ca, .slice Ab it.marks.length cb, .bool it.late] 30) := ⟨_, rfl⟩
      rw [← hwb1]
      have KBt : Kept wr wb1 := hwb1 ▸ (Kept.refl wr).alloc _
      have Bt : Box wb1 (wr.heap.size) 30 #[.slice Aa it.names.length ca, .slice Ab it.marks.length cb, .bool it.late] := hwb1 ▸ Box.new wr (wr.heap.size) 30 #[.slice Aa it.names.length ca, .slice Ab it.marks.length cb, .bool it.late] rfl
      have swb1 : wb1.heap.size = wr.heap.size + 1 := by rw [hwb1]; simp
      clear hwb1
      have Kwb1 := Kr.trans KBt
      clear q0 q1 q2
      have Kd1_ : Kept wb1 wb1.drew := (Kept.refl _).drew
      replace Bt := Bt.kept Kd1_
      have Kd1 := Kwb1.trans Kd1_
      have KWd : Kept wr wb1.drew := (KBt.trans Kd1_)
      have p1 := HIT.out.two.1
      have p2 := HIT.out.two.2
      have P1s := Lib.hid (p1.kept KWd)
      have P2s := Lib.hid (p2.kept KWd)
      clear p1 p2
      have HOd := Lib.hid (HO.out.kept KWd)
      go_region_held3 (fun w' => (w'.cell? ⟨wr.heap.size, 0, none⟩ = some (.slice Aa it.names.length ca) ∧ w'.cell? ⟨wr.heap.size, 1, none⟩ = some (.slice Ab it.marks.length cb) ∧ w'.cell? ⟨wr.heap.size, 2, none⟩ = some (.bool it.late))) (first | exact Bt.three.1 | exact (Bt.kept (by assumption)).three.1 | exact ((Bt.kept (by assumption)).alloc _).three.1 | (with_reducible exact hS3)) (first | (go_at_call 73; refine (l1OwnS_any _ it.names _ P1s.out (by omega)).mono ?_; rintro e wa ⟨va, rfl, oa, ka⟩; obtain ⟨A1, c1, rfl, _⟩ := own_form oa.1; have OA := Lib.hid oa; clear oa) | (go_at_call 74; refine (l1OwnI_any _ it.marks _ (P2s.out.kept ka) (by omega)).mono ?_; rintro e wb ⟨vb, rfl, ob, kb⟩; obtain ⟨A2, c2, rfl, _⟩ := own_form ob; have OB := Lib.hid ob; clear ob; have kab := ka.trans kb) | (refine step_append_T _ rfl (.tmp 12) (.tmp 22) rfl w.heap.size _ _ _ rfl ((HOd.out.kept kab).kept ((Kept.refl _).alloc _)).2.1 wb.heap.size (.slice A1 it.names.length c1) (.slice A2 it.marks.length c2) (.bool it.late) rfl (Box.new _ _ _ _ rfl) ⟨rfl, rfl, rfl⟩ (by omega) (by have := K0.size; have := kab.size; have := KWd.size; have := hkept.size; simp at *; omega) ?_; intro v3 w3 o3 g3 h3; have HOk := Lib.hid ((HOd.out.kept kab).kept ((Kept.refl wb).alloc (.cells #[.slice A1 it.names.length c1, .slice A2 it.marks.length c2, .bool it.late] 30))); have hS3 := ((Bt.kept (kab.alloc (.cells #[.slice A1 it.names.length c1, .slice A2 it.marks.length c2, .bool it.late] 30))).only (only_of_grown g3) (fun hb => by have := HO.out.fps _ (List.mem_append_left _ hb); omega)).three.1))
      rename_i hheld
      clear hheld hS3
      have sza := ka.size
      have szb := kb.size
      have szd := KWd.size
      have hpush := OwnC.push (it := it) HOk.out ⟨own_base (OA.out.kept (kb.trans ((Kept.refl _).alloc _))).1 (by omega), OA.out.2⟩ (own_base (OB.out.kept ((Kept.refl _).alloc _)) (by omega)) (nodup_fp (m := wa.heap.size) (fun y hy => (own_fp OA.out.1 y hy).2) (fun y hy => (own_fp OB.out y hy).1)) (fun b hb hb' => by
        have h1 := (HO.out.fps b hb').2
        rcases List.mem_append.1 hb with hb | hb
        · have := (own_fp OA.out.1 b hb).1; omega
        · have := (own_fp OB.out b hb).1; omega) o3 g3 h3
      have kg : Kept w w3 := (((hkept.trans KWd).trans kab).alloc _).grew HOk.out.2.1 g3 (Nat.le_refl _)
      have HP := Lib.hid hpush
      clear hpush o3 g3 h3
      go_wp2_with fail
      go_roundw
      case rel => exact ⟨j + 1, _, by omega, by go_num, by rw [HSN.out]; exact HP.out, kg⟩
      case measure => simp [intOf]; omega
    · obtain rfl : j = its.length := by omega
      have HOE : Hid (OwnC wr w.heap.size _ its cs) := Lib.hid (by have := HO.out; rw [List.take_length] at this; exact this)
      go_wp2_with fail
      go_ret
      exact ⟨_, cs, rfl, HOE.out, Kr⟩
set_option maxHeartbeats 4000000 in
theorem markLate_any (v0 : Value) (its : List ItemD) (w : World) (h0 : ItemsAt w v0 its) (hv : its.all itemB = true) (hl : its.length ≤ 1000) :
    Calls Tryz.prog 45 #[v0] w fun e w' => ∃ v' cs, e = .returned v' ∧ OwnC w' w.heap.size v' (lated its) cs ∧ Kept w w' := by
  have H0 := Lib.hid h0
  obtain ⟨A0, c0, cs0, rfl, hnc0, hcm0, hA0⟩ := h0.out; have HA0 := Lib.hid hA0; clear hA0 h0; unfold maxLen at hcm0
  go_enter Tryz.func45, Tryz.ntmps45
  have K0 := Kept.refl w
  have HV := Lib.hid hv
  clear hv
  go_wp2_with fail
  refine (copyItems_any _ its _ (H0.out.kept K0) HV.out hl).mono ?_
  rintro e w1 ⟨v1, cs, rfl, o1, k1⟩
  have sz1 := k1.size
  have K1 := K0.trans k1
  obtain ⟨Ag, cg, rfl, hng, hcg, hAg⟩ := own_form o1.2.1
  unfold maxLen at hcg
  have hcl := o1.1
  have HCL := Lib.hid hcl
  clear hcl
  have HO1 : Hid (OwnC w1 w.heap.size (.slice Ag its.length cg) ((lated its).take 0 ++ its.drop 0) cs) := Lib.hid (by rw [List.take_zero, List.drop_zero, List.nil_append]; exact o1)
  clear o1
  have HAg := Lib.hid hAg
  clear hAg
  go_wp2_with fail
  go_loopw [9] (fun i wr => ∃ k : Nat, k ≤ its.length ∧ i = .int .i64 k ∧ OwnC wr w.heap.size (.slice Ag its.length cg) ((lated its).take k ++ its.drop k) cs ∧ Kept w wr) (fun i _ => its.length - (intOf i).toNat)
  case atStart => exact ⟨0, Nat.zero_le _, rfl, HO1.out, K1⟩
  case round =>
    obtain ⟨k, hk, rfl, ho, hkept⟩ := hrel
    clear HO1
    by_cases hlt : k < its.length
    · obtain ⟨g, rfl⟩ := HAg.out (by omega)
      obtain ⟨it, hit⟩ : ∃ it, its[k]? = some it := ⟨_, List.getElem?_eq_getElem hlt⟩
      obtain ⟨⟨nv, mv⟩, hc⟩ : ∃ p, cs[k]? = some p := ⟨_, List.getElem?_eq_getElem (by rw [HCL.out]; exact hlt)⟩
      have hmx : ((lated its).take k ++ its.drop k)[k]? = some it := (mixA_get (lated_length its) hlt).trans hit
      obtain ⟨⟨q0, q1, q2⟩, f0, f1, f2⟩ := ownC_cells ho hmx hc
      have hst := OwnC.setLate (it' := lateI its.length k it) ho (mixA_len (lated_length its) (Nat.le_of_lt hlt)).symm hmx hc rfl rfl
      rw [mixA_set (lated_length its) hlt (lated_get hit)] at hst
      have hgl := (ho.2.1.lt g rfl).1
      clear ho hmx hit hc q0 q1 f0 f1
      by_cases hq : its.length ≤ 2 * k
      · rw [show (lateI its.length k it).late = true from decide_eq_true hq] at hst
        have HST := Lib.hid hst
        clear hst
        have hd0 : decide (its.length ≤ 2 * k) = true := decide_eq_true hq
        have hd1 : decide ((its.length : Int) ≤ 2 * (k : Int)) = true := by simp; omega
        have hd2 : decide (2 * (k : Int) ≥ (its.length : Int)) = true := by simp; omega
        have hkl : (k : Int) < (its.length : Int) := by omega
        have HD := Lib.hid hd0
        clear hd0 hq
        go_wp2_with (go_at_call 70; refine (isLateAt_is k its.length true _ HD.out (by omega) (by omega)).mono ?_; rintro e w' ⟨rfl, rfl⟩)
        go_roundw
        case rel => exact ⟨k + 1, by omega, by go_num, HST.out, Kept.setCell hkept hgl _⟩
        case measure => simp [intOf]; omega
      · rw [show (lateI its.length k it).late = false from decide_eq_false hq] at hst
        have HST := Lib.hid hst
        clear hst
        have hd0 : decide (its.length ≤ 2 * k) = false := decide_eq_false hq
        have hd1 : decide ((its.length : Int) ≤ 2 * (k : Int)) = false := by simp; omega
        have hd2 : decide (2 * (k : Int) ≥ (its.length : Int)) = false := by simp; omega
        have hkl : (k : Int) < (its.length : Int) := by omega
        have HD := Lib.hid hd0
        clear hd0 hq
        go_wp2_with (go_at_call 70; refine (isLateAt_is k its.length false _ HD.out (by omega) (by omega)).mono ?_; rintro e w' ⟨rfl, rfl⟩)
        go_roundw
        case rel => exact ⟨k + 1, by omega, by go_num, HST.out, Kept.setCell hkept hgl _⟩
        case measure => simp [intOf]; omega
    · obtain rfl : k = its.length := by omega
      have HOE : Hid (OwnC wr w.heap.size (.slice Ag its.length cg) (lated its) cs) := Lib.hid (by have q := ho; rw [List.take_of_length_le (by rw [lated_length]; exact Nat.le_refl _), List.drop_length, List.append_nil] at q; exact q)
      clear ho
      go_wp2_with fail
      go_ret
      exact ⟨_, cs, rfl, HOE.out, hkept⟩
set_option maxHeartbeats 4000000 in
theorem pgLate_any (v0 : Value) (its : List ItemD) (w : World) (h0 : ItemsAt w v0 its) (hv : its.all itemB = true) (hl : its.length ≤ 1000) :
    Calls Tryz.prog 46 #[v0] w fun e w' => ∃ v' cs, e = .returned v' ∧ OwnC w' w.heap.size v' (lated its) cs ∧ Kept w w' := by
  have H0 := Lib.hid h0
  obtain ⟨A0, c0, cs0, rfl, hnc0, hcm0, hA0⟩ := h0.out; have HA0 := Lib.hid hA0; clear hA0 h0; unfold maxLen at hcm0
  go_enter Tryz.func46, Tryz.ntmps46
  have K0 := Kept.refl w
  have HV := Lib.hid hv
  clear hv
  go_wp2_with fail
  refine (itOwn_any _ its _ (H0.out.kept K0) HV.out hl).mono ?_
  rintro e w1 ⟨v1, cs, rfl, o1, k1⟩
  have sz1 := k1.size
  have K1 := K0.trans k1
  obtain ⟨Ag, cg, rfl, hng, hcg, hAg⟩ := own_form o1.2.1
  unfold maxLen at hcg
  have hcl := o1.1
  have HCL := Lib.hid hcl
  clear hcl
  have HO1 : Hid (OwnC w1 w.heap.size (.slice Ag its.length cg) ((lated its).take 0 ++ its.drop 0) cs) := Lib.hid (by rw [List.take_zero, List.drop_zero, List.nil_append]; exact o1)
  clear o1
  have HAg := Lib.hid hAg
  clear hAg
  go_wp2_with fail
  go_loopw [9] (fun i wr => ∃ k : Nat, k ≤ its.length ∧ i = .int .i64 k ∧ OwnC wr w.heap.size (.slice Ag its.length cg) ((lated its).take k ++ its.drop k) cs ∧ Kept w wr) (fun i _ => its.length - (intOf i).toNat)
  case atStart => exact ⟨0, Nat.zero_le _, rfl, HO1.out, K1⟩
  case round =>
    obtain ⟨k, hk, rfl, ho, hkept⟩ := hrel
    clear HO1
    by_cases hlt : k < its.length
    · obtain ⟨g, rfl⟩ := HAg.out (by omega)
      obtain ⟨it, hit⟩ : ∃ it, its[k]? = some it := ⟨_, List.getElem?_eq_getElem hlt⟩
      obtain ⟨⟨nv, mv⟩, hc⟩ : ∃ p, cs[k]? = some p := ⟨_, List.getElem?_eq_getElem (by rw [HCL.out]; exact hlt)⟩
      have hmx : ((lated its).take k ++ its.drop k)[k]? = some it := (mixA_get (lated_length its) hlt).trans hit
      obtain ⟨⟨q0, q1, q2⟩, f0, f1, f2⟩ := ownC_cells ho hmx hc
      have hst := OwnC.setLate (it' := lateI its.length k it) ho (mixA_len (lated_length its) (Nat.le_of_lt hlt)).symm hmx hc rfl rfl
      rw [mixA_set (lated_length its) hlt (lated_get hit)] at hst
      have hgl := (ho.2.1.lt g rfl).1
      clear ho hmx hit hc q0 q1 f0 f1
      by_cases hq : its.length ≤ 2 * k
      · rw [show (lateI its.length k it).late = true from decide_eq_true hq] at hst
        have HST := Lib.hid hst
        clear hst
        have hd0 : decide (its.length ≤ 2 * k) = true := decide_eq_true hq
        have hd1 : decide ((its.length : Int) ≤ 2 * (k : Int)) = true := by simp; omega
        have hd2 : decide (2 * (k : Int) ≥ (its.length : Int)) = true := by simp; omega
        have hkl : (k : Int) < (its.length : Int) := by omega
        have HD := Lib.hid hd0
        clear hd0 hq
        go_wp2_with fail
        go_roundw
        case rel => exact ⟨k + 1, by omega, by go_num, HST.out, Kept.setCell hkept hgl _⟩
        case measure => simp [intOf]; omega
      · rw [show (lateI its.length k it).late = false from decide_eq_false hq] at hst
        have HST := Lib.hid hst
        clear hst
        have hd0 : decide (its.length ≤ 2 * k) = false := decide_eq_false hq
        have hd1 : decide ((its.length : Int) ≤ 2 * (k : Int)) = false := by simp; omega
        have hd2 : decide (2 * (k : Int) ≥ (its.length : Int)) = false := by simp; omega
        have hkl : (k : Int) < (its.length : Int) := by omega
        have HD := Lib.hid hd0
        clear hd0 hq
        go_wp2_with fail
        go_roundw
        case rel => exact ⟨k + 1, by omega, by go_num, HST.out, Kept.setCell hkept hgl _⟩
        case measure => simp [intOf]; omega
    · obtain rfl : k = its.length := by omega
      have HOE : Hid (OwnC wr w.heap.size (.slice Ag its.length cg) (lated its) cs) := Lib.hid (by have q := ho; rw [List.take_of_length_le (by rw [lated_length]; exact Nat.le_refl _), List.drop_length, List.append_nil] at q; exact q)
      clear ho
      go_wp2_with fail
      go_ret
      exact ⟨_, cs, rfl, HOE.out, hkept⟩
set_option maxHeartbeats 2000000 in
theorem implMarkLate_any (v0 : Value) (its : List ItemD) (w : World) (h0 : ItemsAt w v0 its)  :
    Calls Tryz.prog 17 #[v0] w fun e w' => ∃ v' S, e = .returned (.tuple #[v', .bool (itemsB its)]) ∧ OwnL w' w.heap.size v' (onT (itemsB its) (lated its)) S ∧ Kept w w' := by
  have H0 := Lib.hid h0
  obtain ⟨A0, c0, cs0, rfl, hnc0, hcm0, hA0⟩ := h0.out; have HA0 := Lib.hid hA0; clear hA0 h0; unfold maxLen at hcm0
  go_enter Tryz.func17, Tryz.ntmps17
  have K0 := Kept.refl w
  go_wp2_with fail
  refine (areItems_any _ its _ (H0.out.kept K0)).mono ?_
  rintro e w1 ⟨rfl, k1⟩
  have sz1 := k1.size
  have K1 := K0.trans k1
  by_cases hb : itemsB its = true
  case neg =>
    simp only [Bool.not_eq_true] at hb
    rw [hb]
    have HO := Lib.hid hb
    clear hb
    go_wp2_with fail
    go_ret2
    exact ⟨_, _, ret_vb3 HO.out.symm, by rw [HO.out]; exact nilL _ _, K1⟩
  rw [hb]
  have HB := Lib.hid hb
  have hl14 := (itemsB_true hb).1
  have HV : Hid (its.all itemB = true) := Lib.hid (List.all_eq_true.2 (fun it hi => (itemsB_true hb).2 it hi))
  clear hb
  go_wp2_with fail
  refine (markLate_any _ its _ (H0.out.kept K1) HV.out (by omega)).mono ?_
  rintro e w2 ⟨v2, cs, rfl, o2, k2⟩
  have sz2 := k2.size
  have K2 := K1.trans k2
  have HO := Lib.hid o2
  clear o2
  go_wp2_with fail
  go_ret2
  exact ⟨_, _, ret_vb3 HB.out.symm, by rw [HB.out]; exact (HO.out.base K1.size).toL, K2⟩
set_option maxHeartbeats 2000000 in
theorem specMarkLate_any (v0 : Value) (its : List ItemD) (w : World) (h0 : ItemsAt w v0 its)  :
    Calls Tryz.prog 18 #[v0] w fun e w' => ∃ v' S, e = .returned (.tuple #[v', .bool (itemsB its)]) ∧ OwnL w' w.heap.size v' (onT (itemsB its) (lated its)) S ∧ Kept w w' := by
  have H0 := Lib.hid h0
  obtain ⟨A0, c0, cs0, rfl, hnc0, hcm0, hA0⟩ := h0.out; have HA0 := Lib.hid hA0; clear hA0 h0; unfold maxLen at hcm0
  go_enter Tryz.func18, Tryz.ntmps18
  have K0 := Kept.refl w
  go_wp2_with fail
  refine (itList_any _ its _ (H0.out.kept K0)).mono ?_
  rintro e w1 ⟨rfl, k1⟩
  have sz1 := k1.size
  have K1 := K0.trans k1
  by_cases hb : itemsB its = true
  case neg =>
    simp only [Bool.not_eq_true] at hb
    rw [hb]
    have HO := Lib.hid hb
    clear hb
    go_wp2_with fail
    go_ret2
    exact ⟨_, _, ret_vb3 HO.out.symm, by rw [HO.out]; exact nilL _ _, K1⟩
  rw [hb]
  have HB := Lib.hid hb
  have hl14 := (itemsB_true hb).1
  have HV : Hid (its.all itemB = true) := Lib.hid (List.all_eq_true.2 (fun it hi => (itemsB_true hb).2 it hi))
  clear hb
  go_wp2_with fail
  refine (pgLate_any _ its _ (H0.out.kept K1) HV.out (by omega)).mono ?_
  rintro e w2 ⟨v2, cs, rfl, o2, k2⟩
  have sz2 := k2.size
  have K2 := K1.trans k2
  have HO := Lib.hid o2
  clear o2
  go_wp2_with fail
  go_ret2
  exact ⟨_, _, ret_vb3 HB.out.symm, by rw [HB.out]; exact (HO.out.base K1.size).toL, K2⟩
end Go.Proofs.YtkekpolfdmmgeaaGreat

/- CleanItems, MarkLate: the laws. -/
namespace Go.Proofs.YtkekpolfdmmgeaaGreat
set_option linter.unusedVariables false
set_option linter.unusedSimpArgs false
open Go.RowKit

theorem nameB_size {z : ByteArray} (h : nameB z = true) : z.size ≤ 5 := by
  unfold nameB at h
  simp only [Bool.and_eq_true] at h
  have := inB_true h.2
  omega
theorem item_size21 {it : ItemD} (h : itemB it = true) : it.size ≤ 21 := by
  have h1 := itemB_true h
  unfold ItemD.size strsSize
  have h2 := sum_le_mul (it.names.map ByteArray.size) 5 (by
    intro x hx
    obtain ⟨z, hz, rfl⟩ := List.mem_map.1 hx
    exact nameB_size (h1.1 z hz))
  rw [List.length_map] at h2
  omega
theorem items_size {its : List ItemD} (h : its.all itemB = true) : itemsSize its ≤ its.length * 22 := by
  unfold itemsSize
  have h2 := sum_le_mul (its.map ItemD.size) 21 (by
    intro x hx
    obtain ⟨it, hi, rfl⟩ := List.mem_map.1 hx
    exact item_size21 (List.all_eq_true.1 h it hi))
  rw [List.length_map] at h2
  omega
theorem onT_size {b : Bool} {l : List ItemD} {n : Nat} (h : b = true → itemsSize l ≤ n) : itemsSize (onT b l) ≤ n := by cases b with | true => exact h rfl | false => exact Nat.zero_le _
theorem lated_itemB {its : List ItemD} (h : its.all itemB = true) : (lated its).all itemB = true := by
  rw [List.all_eq_true]
  intro x hx
  obtain ⟨k, hk⟩ := List.getElem?_of_mem hx
  have hlt : k < its.length := by have := (List.getElem?_eq_some_iff.1 hk).1; rwa [lated_length] at this
  rw [lated_get (List.getElem?_eq_getElem hlt)] at hk
  injection hk with hk
  subst hk
  exact List.all_eq_true.1 h its[k] (List.getElem_mem hlt)
theorem cleaned_itemB {its : List ItemD} (h : its.all itemB = true) : (cleaned its).all itemB = true := by
  rw [List.all_eq_true]
  intro x hx
  unfold cleaned at hx
  obtain ⟨it, hi, rfl⟩ := List.mem_map.1 hx
  have h1 := List.all_eq_true.1 h it hi
  unfold itemB at h1 ⊢
  simp only [Bool.and_eq_true] at h1 ⊢
  refine ⟨⟨⟨h1.1.1.1, h1.1.1.2⟩, by simp [cleanIt]⟩, ?_⟩
  rw [List.all_eq_true]
  intro m hm
  have : m = 0 := List.eq_of_mem_replicate hm
  subst this
  rfl
theorem all_of {its : List ItemD} (h : itemsB its = true) : its.all itemB = true := List.all_eq_true.2 (fun it hi => (itemsB_true h).2 it hi)
end Go.Proofs.YtkekpolfdmmgeaaGreat
