/- Contracts of functions that the proof leans on. No condition. -/
import Derived.Test.YtmlfegfplepehaaDoorMc21ab11b7e
import Derived.Shelf.Strings.OnBuilder
import Derived.Test.YtmlfegfplepehaaDoorChecked
import Derived.ProofKit
import Derived.OpenShut
import Derived.ChangeOld
import Derived.SliceStrings
import Derived.Lib.SmallJoins
import Derived.Deep.Slices
import Derived.Deep.Fields
/- strings.Builder's WriteString at this program, laid by hand: two of the numbers that the structures name stand in no body of the closure here. -/
namespace Go.Proofs
set_option linter.unusedVariables false
set_option linter.unusedSimpArgs false
open Go Go.Shelf Go.RowKit
def Tryd.b166_ren : Go.Shelf.Ren := ⟨fun | 166 => 83 | 240 => 117 | 276 => 129 | n => n, fun | 0 => 0 | 3 => 3 | 4 => 4 | 5 => 5 | 9 => 9 | 20 => 20 | 37 => 97 | 70 => 96 | 72 => 99 | 75 => 101 | 80 => 107 | 164 => 135 | n => n, fun | n => n⟩
theorem Tryd.b166 : Go.Proofs.Lays.n166 Tryd.prog Tryd.b166_ren := {
  mixed := by kernel_rfl
  f166 := Tryd.func83.trans (congrArg some (by kernel_rfl))
  f240 := Tryd.func117.trans (congrArg some (by kernel_rfl))
  f276 := Tryd.func129.trans (congrArg some (by kernel_rfl))
  t0 := Tryd.underlying0
  a0 := Tryd.isAgg0
  z0 := Tryd.sizeOf0
  v0 := Tryd.zeroValue0
  t3 := Tryd.underlying3
  a3 := Tryd.isAgg3
  z3 := Tryd.sizeOf3
  v3 := Tryd.zeroValue3
  t4 := Tryd.underlying4
  a4 := Tryd.isAgg4
  z4 := Tryd.sizeOf4
  v4 := Tryd.zeroValue4
  t9 := Tryd.underlying9
  a9 := Tryd.isAgg9
  z9 := Tryd.sizeOf9
  v9 := Tryd.zeroValue9
  t20 := Tryd.underlying20
  a20 := Tryd.isAgg20
  z20 := Tryd.sizeOf20
  v20 := Tryd.zeroValue20
  t37 := Tryd.underlying97
  a37 := Tryd.isAgg97
  z37 := Tryd.sizeOf97
  v37 := Tryd.zeroValue97
  t70 := Tryd.underlying96
  a70 := Tryd.isAgg96
  z70 := Tryd.sizeOf96
  v70 := Tryd.zeroValue96
  t72 := Tryd.underlying99
  a72 := Tryd.isAgg99
  z72 := Tryd.sizeOf99
  v72 := Tryd.zeroValue99
  t75 := Tryd.underlying101
  a75 := Tryd.isAgg101
  z75 := Tryd.sizeOf101
  v75 := Tryd.zeroValue101
  t164 := Tryd.underlying135
  a164 := Tryd.isAgg135
  z164 := Tryd.sizeOf135
  v164 := Tryd.zeroValue135 }
theorem Tryd.bX : Builder.Extra Tryd.prog Tryd.b166_ren := {
  sizeBuilder := by kernel_rfl
  liesBuilder := by kernel_rfl
  t5 := Tryd.underlying5
  a5 := Tryd.isAgg5
  z5 := Tryd.sizeOf5
  v5 := Tryd.zeroValue5
  infoByte := by kernel_rfl
  cellsByte := by kernel_rfl
  sizeByte := by kernel_rfl
  neB5 := by decide }
theorem Tryd.Builder_WriteString (B b : Nat) (bs : List Value) (s : ByteArray) (w : World) (h : Lib.IsBuilder 99 5 B b bs w) (hlen : bs.length + s.size ≤ 140737488355328) (hBw : B ≤ w.heap.size) :
    Calls Tryd.prog 83 #[.pointer (some ⟨b, 0, none⟩), .string s] w fun e w' => e = .returned (.tuple #[.int .i64 s.size, .nilIface]) ∧ (Lib.BuilderAt 99 5 B b (.pointer (some ⟨b, 0, none⟩)) (bs ++ Lib.strCells s) w' ∧ Below B w w') :=
  Any.Builder_WriteString Tryd.b166 Tryd.bX B b bs s w h hlen hBw
end Go.Proofs

/- Items: ItemsText, both sides and the law. -/
namespace Go.Proofs.YtmlfegfplepehaaDoor
set_option linter.unusedVariables false
set_option linter.unusedSimpArgs false
set_option linter.unnecessarySimpa false
open Go.RowKit Go.Lib

def lnT (its : List ItemD) (k : Nat) : List UInt8 := itsTxt (its.take k)
theorem lnT_zero (its : List ItemD) : lnT its 0 = [] := rfl
theorem lnT_succ {its : List ItemD} {k : Nat} {it : ItemD} (h : its[k]? = some it) : lnT its (k + 1) = lnT its k ++ ((itT it ++ ⟨#[10]⟩ : ByteArray)).data.toList := by
  unfold lnT itsTxt itT
  rw [take_snoc h, List.map_append, List.flatten_append]
  congr 1
  show _ ++ [] = (tx (itTxt it) ++ tx [10]).data.toList
  rw [List.append_nil, tx_app]
  rfl
theorem lnT_size {its : List ItemD} (h : ∀ it ∈ its, itemB it = true) : ∀ k, k ≤ its.length → (lnT its k).length ≤ 24 * k
  | 0, _ => Nat.le_refl 0
  | k + 1, hk => by
    have h1 : its[k]? = some its[k] := List.getElem?_eq_getElem (by omega)
    have ih := lnT_size h k (by omega)
    have hs := itT_size (h _ (List.mem_of_getElem? h1))
    rw [lnT_succ h1, List.length_append, ← size_eq, ByteArray.size_append]
    have e : (⟨#[10]⟩ : ByteArray).size = 1 := rfl
    omega
theorem lnT_all (its : List ItemD) : lnT its its.length = itsTxt its := by unfold lnT; rw [List.take_length]
def itsV (its : List ItemD) : ByteArray := if itemsB its then tx (itsTxt its) else ⟨#[]⟩
theorem itsV_yes {its : List ItemD} (h : itemsB its = true) : itsV its = tx (itsTxt its) := by unfold itsV; rw [h]; rfl
theorem itsV_no {its : List ItemD} (h : itemsB its = false) : itsV its = ⟨#[]⟩ := by unfold itsV; rw [h]; rfl
theorem tx_lnT {its : List ItemD} {k : Nat} {it : ItemD} (h : its[k]? = some it) : tx (lnT its k) ++ (itT it ++ ⟨#[10]⟩) = tx (lnT its (k + 1)) := by
  rw [lnT_succ h, ← tx_app, tx_of]
theorem isB_kept {T e : TypeId} {B b : Nat} {bs : List Value} {w w' : World} (h : IsBuilder T e B b bs w) (k : Kept w w') : IsBuilder T e B b bs w' := by
  have go : ∀ p, BuilderAt T e B b p bs w → BuilderAt T e B b p bs w' := fun p hp => by
    have hl := hp.lt
    obtain ⟨h1, v, h2, h3, h4⟩ := hp
    exact ⟨h1, v, (k.block b hl).trans h2, own_kept h3 k, h4⟩
  exact h.elim (fun x => .inl (go _ x)) (fun x => .inr (go _ x))
set_option maxRecDepth 100000 in
set_option maxHeartbeats 16000000 in
theorem itLines_any (v0 : Value) (its : List ItemD) (w : World) (h0 : ItemsAt w v0 its) (hb : itemsB its = true) :
    Calls Tryd.prog 60 #[v0] w fun e w' => e = .returned (.string (tx (itsTxt its))) ∧ Kept w w' := by
  obtain ⟨A0, c0, cs0, rfl, hnc0, hcm0, hA0⟩ := h0.out
  have HA0 := Lib.hid hA0
  clear hA0 h0
  unfold maxLen at hcm0
  have HQ := Lib.hid hb
  have hl14 := (itemsB_true hb).1
  clear hb
  go_enter Tryd.func60, Tryd.ntmps60
  go_wp2_with fail
  go_loopw [3, 8] (fun s3 s8 wr => ∃ k : Nat, k ≤ its.length ∧ s8 = .int .i64 k ∧ s3 = .string (tx (lnT its k)) ∧ Kept w wr) (fun _ i _ => its.length - (RowKit.intOf i).toNat)
  case atStart => exact ⟨0, Nat.zero_le _, rfl, rfl, Kept.refl _⟩
  case round =>
    obtain ⟨k, hk, rfl, rfl, hkept⟩ := hrel
    by_cases hlt : k < its.length
    · obtain ⟨b, o, A1, c1, A2, c2, it, rfl, hbb, h2, h3, hit, q0, q1, q2⟩ := items_at (HA0.out.kept hkept) hlt
      have hib := (itemsB_true HQ.out).2 it (List.mem_of_getElem? h2)
      have hsz := itT_size hib
      have hls := lnT_size (itemsB_true HQ.out).2 k hk
      have e1 : (⟨#[10]⟩ : ByteArray).size = 1 := rfl
      have AW := Lib.hid (cat_run (x := itT it) (y := ⟨#[10]⟩) rfl (by omega))
      have AJ := Lib.hid (cat_run (tx_lnT h2) (by rw [tx_size, ByteArray.size_append]; omega))
      have kb := hkept.alloc (.cells #[.slice A1 it.names.length c1, .slice A2 it.marks.length c2, .bool it.late] 31)
      have kb0 := (Kept.refl wr).alloc (.cells #[.slice A1 it.names.length c1, .slice A2 it.marks.length c2, .bool it.late] 31)
      have C := Lib.hid (itText_any _ it _ (hit.kept kb0) hib)
      have B0 := Box.new wr wr.heap.size 31 #[.slice A1 it.names.length c1, .slice A2 it.marks.length c2, .bool it.late] rfl
      obtain ⟨x0, y0⟩ := B0.three
      clear h2 h3 hit e1 hib
      have aw := AW.out
      have aj := AJ.out
      obtain ⟨z, hz⟩ : ∃ z, z = tx (lnT its (k + 1)) := ⟨_, rfl⟩
      rw [← hz] at aj
      have HZ := Lib.hid hz
      clear hz AJ
      generalize itT it ++ ⟨#[10]⟩ = z1 at aw aj AW
      go_wp2_with fail
      refine (C.out).mono ?_
      rintro e w1 ⟨rfl, k1⟩
      go_wp2_with fail
      go_roundw
      case rel => exact ⟨k + 1, by omega, by go_num, (by rw [HZ.out]), kb.trans k1⟩
      case measure => simp [RowKit.intOf]; omega
    · obtain rfl : k = its.length := by omega
      rw [lnT_all]
      go_wp2_with fail
      go_ret
      exact ⟨rfl, hkept⟩
set_option maxRecDepth 100000 in
set_option maxHeartbeats 16000000 in
theorem implItemsText0_any (v0 : Value) (its : List ItemD) (w : World) (h0 : ItemsAt w v0 its) (hb : itemsB its = true) (hsg : HasSigns w) :
    Calls Tryd.prog 62 #[v0] w fun e w' => e = .returned (.string (tx (itsTxt its))) ∧ Kept w w' := by
  obtain ⟨A0, c0, cs0, rfl, hnc0, hcm0, hA0⟩ := h0.out
  have HA0 := Lib.hid hA0
  have HSG := Lib.hid hsg
  clear hA0 h0 hsg
  unfold maxLen at hcm0
  have HQ := Lib.hid hb
  have hl14 := (itemsB_true hb).1
  clear hb
  go_enter Tryd.func62, Tryd.ntmps62
  have HB0 := Lib.hid (fresh_isBuilder 99 5 w)
  have K0 := (Kept.refl w).alloc (.cells #[.pointer none, .slice none 0 0] 99)
  go_wp2_with fail
  go_loopw [8] (fun s8 wr => ∃ k : Nat, k ≤ its.length ∧ s8 = .int .i64 k ∧ IsBuilder 99 5 w.heap.size w.heap.size (Lib.byteCells (lnT its k)) wr ∧ Kept w wr) (fun i _ => its.length - (RowKit.intOf i).toNat)
  case atStart => exact ⟨0, Nat.zero_le _, rfl, HB0.out, K0⟩
  case round =>
    obtain ⟨k, hk, rfl, hbu, hkept⟩ := hrel
    have HBU := Lib.hid hbu
    clear hbu
    by_cases hlt : k < its.length
    · obtain ⟨b, o, A1, c1, A2, c2, it, rfl, hbb, h2, h3, hit, q0, q1, q2⟩ := items_at (HA0.out.kept hkept) hlt
      have hib := (itemsB_true HQ.out).2 it (List.mem_of_getElem? h2)
      have hsz := itT_size hib
      have hls := lnT_size (itemsB_true HQ.out).2 k hk
      have e1 : (⟨#[10]⟩ : ByteArray).size = 1 := rfl
      have AW := Lib.hid (cat_run (x := itT it) (y := ⟨#[10]⟩) rfl (by omega))
      have HSZ : Hid ((itT it ++ ⟨#[10]⟩ : ByteArray).size ≤ 24) := Lib.hid (by rw [ByteArray.size_append]; omega)
      have HLN : Hid (Lib.byteCells (lnT its k) ++ strCells (itT it ++ ⟨#[10]⟩) = Lib.byteCells (lnT its (k + 1))) := Lib.hid (by rw [Lib.strCells_eq, ← Lib.byteCells_append, ← lnT_succ h2])
      have kb := hkept.alloc (.cells #[.slice A1 it.names.length c1, .slice A2 it.marks.length c2, .bool it.late] 31)
      have kb0 := (Kept.refl wr).alloc (.cells #[.slice A1 it.names.length c1, .slice A2 it.marks.length c2, .bool it.late] 31)
      have C := Lib.hid (implItemText0_any _ it _ (hit.kept kb0) hib (HSG.out.kept kb))
      have B0 := Box.new wr wr.heap.size 31 #[.slice A1 it.names.length c1, .slice A2 it.marks.length c2, .bool it.late] rfl
      obtain ⟨x0, y0⟩ := B0.three
      clear h2 h3 hit e1 hib
      have aw := AW.out
      generalize itT it ++ ⟨#[10]⟩ = z1 at aw AW HSZ HLN
      go_wp2_with fail
      refine (C.out).mono ?_
      rintro e w1 ⟨rfl, k1⟩
      have kk := kb.trans k1
      have HC := Lib.hid (Tryd.Builder_WriteString w.heap.size w.heap.size (Lib.byteCells (lnT its k)) z1 w1 (isB_kept HBU.out (kb0.trans k1)) (by rw [Lib.byteCells_length]; have := HSZ.out; omega) kk.size)
      go_wp2_with fail
      refine (HC.out).mono ?_
      rintro e w2 ⟨rfl, bu, bel⟩
      rw [HLN.out] at bu
      have BU := Lib.hid bu
      have k2 : Kept w w2 := Below.trans kk bel
      clear bu bel
      go_wp2_with fail
      go_roundw
      case rel => exact ⟨k + 1, by omega, by go_num, .inr BU.out, k2⟩
      case measure => simp [RowKit.intOf]; omega
    · obtain rfl : k = its.length := by omega
      have HC := Lib.hid (Tryd.Builder_String_any w.heap.size w.heap.size (lnT its its.length) wr HBU.out hkept.size)
      go_wp2_with fail
      refine (HC.out).mono ?_
      rintro e w2 ⟨rfl, bel⟩
      have k2 : Kept w w2 := Below.trans hkept bel
      go_wp2_with fail
      go_ret
      exact ⟨ret_str (by rw [lnT_all]; rfl), k2⟩
set_option maxHeartbeats 1000000 in
theorem specItemsText_any (v : Value) (its : List ItemD) (w : World) (h : ItemsAt w v its) :
    Calls Tryd.prog 20 #[v] w fun e w' => e = .returned (.tuple #[.string (itsV its), .bool (itemsB its)]) ∧ Kept w w' := by
  have HI := Lib.hid h
  clear h
  go_enter Tryd.func20, Tryd.ntmps20
  go_wp2_with fail
  refine (itList_any _ its _ HI.out).mono ?_
  rintro e w1 ⟨rfl, k1⟩
  by_cases hb : itemsB its = true
  · have HB := Lib.hid hb
    rw [hb]
    clear hb
    go_wp2_with fail
    refine (itLines_any _ its _ (HI.out.kept k1) HB.out).mono ?_
    rintro e w2 ⟨rfl, k2⟩
    go_wp2_with fail
    go_ret2
    exact ⟨ret_sb (itsV_yes HB.out).symm HB.out.symm, k1.trans k2⟩
  · simp only [Bool.not_eq_true] at hb
    have HB := Lib.hid hb
    rw [hb]
    clear hb
    go_wp2_with fail
    go_ret2
    exact ⟨ret_sb (itsV_no HB.out).symm HB.out.symm, k1⟩
set_option maxHeartbeats 1000000 in
theorem implItemsText_any (v : Value) (its : List ItemD) (w : World) (h : ItemsAt w v its) (hsg : HasSigns w) :
    Calls Tryd.prog 22 #[v] w fun e w' => e = .returned (.tuple #[.string (itsV its), .bool (itemsB its)]) ∧ Kept w w' := by
  have HI := Lib.hid h
  have HSG := Lib.hid hsg
  clear hsg
  clear h
  go_enter Tryd.func22, Tryd.ntmps22
  go_wp2_with fail
  refine (areItems_any _ its _ HI.out).mono ?_
  rintro e w1 ⟨rfl, k1⟩
  by_cases hb : itemsB its = true
  · have HB := Lib.hid hb
    rw [hb]
    clear hb
    go_wp2_with fail
    refine (implItemsText0_any _ its _ (HI.out.kept k1) HB.out (HSG.out.kept k1)).mono ?_
    rintro e w2 ⟨rfl, k2⟩
    go_wp2_with fail
    go_ret2
    exact ⟨ret_sb (itsV_yes HB.out).symm HB.out.symm, k1.trans k2⟩
  · simp only [Bool.not_eq_true] at hb
    have HB := Lib.hid hb
    rw [hb]
    clear hb
    go_wp2_with fail
    go_ret2
    exact ⟨ret_sb (itsV_no HB.out).symm HB.out.symm, k1⟩
set_option maxHeartbeats 2000000 in
theorem lawItemsText_any {w : World} {v0 : Value} (z0 : List ItemD) (h0 : ItemsAt w v0 z0) (hsg : HasSigns w) :
    Calls Tryd.prog 5 #[v0] w fun e w' => e = .returned (.bool true) ∧ Kept w w' := by
  have HSG := Lib.hid hsg
  clear hsg
  have H0 := Lib.hid h0
  clear h0
  go_enter Tryd.func5, Tryd.ntmps5
  have K0 := Kept.refl w
  go_wp2_with fail
  refine (szItemS_any _ z0 _ _ (H0.out.kept K0) (by omega) (by omega)).mono ?_
  rintro e w1 ⟨rfl, k1⟩
  have sz1 := k1.size
  have K1 := K0.trans k1
  by_cases hbig0 : ((itemsSize z0 : Nat) : Int) ≤ 1048576
  case neg =>
    have e1 : lessOr 1048576 (itemsSize z0) = -1 := by unfold lessOr; exact if_neg (by omega)
    rw [e1]
    go_wp2_with fail
    go_ret
    exact ⟨rfl, K1⟩
  have e1 : lessOr 1048576 (itemsSize z0) = 1048576 - (itemsSize z0 : Int) := by unfold lessOr; exact if_pos (by omega)
  rw [e1]
  clear e1
  go_wp2_with fail
  refine (toItemS_any _ z0 _ (H0.out.kept K1) (by omega)).mono ?_
  rintro e w2 ⟨u2, S2, rfl, o2, k2⟩
  have sz2 := k2.size
  have K2 := K1.trans k2
  have R2 := Lib.hid o2.items
  clear o2
  go_wp2_with fail
  refine (specItemsText_any _ z0 _ R2.out).mono ?_
  rintro e w3 ⟨rfl, k3⟩
  replace R2 := Lib.hid (R2.out.kept k3)
  have sz3 := k3.size
  have K3 := K2.trans k3
  clear R2
  go_wp2_with fail
  refine (toItemS_any _ z0 _ (H0.out.kept K3) (by omega)).mono ?_
  rintro e w4 ⟨u4, S4, rfl, o4, k4⟩
  have sz4 := k4.size
  have K4 := K3.trans k4
  obtain ⟨cs4, oc4, rfl, hF4⟩ := o4.toC
  have O4 := Lib.hid oc4
  have F4 := Lib.hid hF4
  clear o4 oc4 hF4
  go_wp2_with fail
  refine (implItemsText_any _ z0 _ O4.out.items (HSG.out.kept K4)).mono ?_
  rintro e w5 ⟨rfl, k5⟩
  generalize itsV z0 = t
  generalize itemsB z0 = b
  replace O4 := Lib.hid (O4.out.kept k5)
  have sz5 := k5.size
  have K5 := K4.trans k5
  go_wp2_with fail
  refine (toItemS_any _ z0 _ (H0.out.kept K5) (by omega)).mono ?_
  rintro e w6 ⟨u6, S6, rfl, o6, k6⟩
  replace O4 := Lib.hid (O4.out.kept k6)
  have sz6 := k6.size
  have K6 := K5.trans k6
  have R6 := Lib.hid o6.items
  clear o6
  go_wp2_with fail
  refine (eqItemS_any _ _ (z0) _ O4.out.items R6.out).mono ?_
  rintro e w7 ⟨rfl, k7⟩
  replace R6 := Lib.hid (R6.out.kept k7)
  replace O4 := Lib.hid (O4.out.kept k7)
  have sz7 := k7.size
  have K7 := K6.trans k7
  clear R6
  go_wp2_with fail
  go_ret
  exact ⟨rfl, K7⟩
end Go.Proofs.YtmlfegfplepehaaDoor

/- Arguments opened: a slice of integers. -/
namespace Go.Proofs.YtmlfegfplepehaaDoor
set_option linter.unusedVariables false
set_option linter.unusedSimpArgs false
set_option maxRecDepth 100000
open Go.ChangeShapes Go.WideShapes Go.ChangeAt Go.RowKit

theorem block_lt {w : World} {a : Addr} {v : Value} (h : w.cell? a = some v) : a.block < w.heap.size := by
  rcases Nat.lt_or_ge a.block w.heap.size with hlt | hge
  · exact hlt
  · unfold World.cell? at h
    rw [Array.getElem?_eq_none hge] at h
    cases h
theorem add_at {b o : Nat} (i : Nat) : (⟨b, o, none⟩ : Addr).add i = ⟨b, o + i, none⟩ := by
  unfold Addr.add
  split <;> simp_all
theorem spot_of {w : World} {x : Addr} {u : Value} (h : w.cell? (x.add 0) = some u) : ∃ b o, x = ⟨b, o, none⟩ := by
  obtain ⟨b, o, s⟩ := x
  have hs : s = none := by simpa [Addr.add] using World.cell?_spot h
  exact ⟨b, o, by rw [hs]⟩
theorem seq_of_cells {w : World} {x : Addr} {len cap size : Nat} {xs : List Value} (hl : len ≤ cap) (hm : cap ≤ maxLen) (hlen : xs.length = len * size) (hsz : 0 < size) (h : ∀ j u, xs[j]? = some u → w.cell? (x.add j) = some u) : Seq w (.slice (some x) len cap) len xs := by
  refine ⟨_, cap, rfl, hl, hm, (fun h => by cases h), fun hn => ?_⟩
  have h0 : 0 < xs.length := by rw [hlen]; exact Nat.mul_pos hn hsz
  obtain ⟨b, o, rfl⟩ := spot_of (h 0 _ (List.getElem?_eq_getElem h0))
  have hc := h 0 _ (List.getElem?_eq_getElem h0)
  refine ⟨b, o, rfl, ?_, fun j u hu => by rw [← add_at]; exact h j u hu⟩
  rw [add_at] at hc
  exact block_lt hc
section
variable {H : Type} {enc : TypeId × Value → H} {W : World} {r : Reach} {b0 base : Nat} {spare : Nat → Bool} {held : Bool} {v : Value} {d : DataW H} {p : List MemPlace} {x : DataW H × List MemPlace}
theorem ints_of_trod {fuel : Nat} (hf : DataW.trod enc Tryd.prog W base spare held fuel 26 [v] = some x) : ∃ zs, Ints W v zs := by
  rcases open_ints Tryd.underlying26 Tryd.underlying3 (by kernel_rfl) hf with ⟨hcs, _⟩ | ⟨ad, len0, cap0, zs, hcs, _, hl, hm, hz, _, hcell, hwz⟩
  · simp at hcs
    subst hcs
    exact ⟨[], Seq.nil _⟩
  · simp at hcs
    subst hcs
    have hge : len0 ≤ zs.length := by rw [hz]; split <;> omega
    refine ⟨zs.take len0, ?_⟩
    have hlen : (zs.take len0).length = len0 := by rw [List.length_take]; omega
    have hS := seq_of_cells (w := W) (x := ad) (len := len0) (cap := cap0) (size := 1) (xs := (zs.take len0).map (Value.int .i64)) hl hm (by rw [List.length_map, hlen]; omega) (by omega) (fun j u hu => by
      rw [List.getElem?_map] at hu
      obtain ⟨z, hz1, rfl⟩ := Option.map_eq_some_iff.1 hu
      have hj : j < len0 := by
        have := (List.getElem?_eq_some_iff.1 hz1).1
        rw [hlen] at this
        exact this
      rw [List.getElem?_take_of_lt hj] at hz1
      have := hcell j (by omega)
      rw [List.getD_eq_getElem?_getD, hz1] at this
      exact this)
    unfold Ints
    rw [hlen]
    exact hS
theorem open_I (hv : Value.okWide Tryd.prog W r b0 26 v) (h : DataW.Trod enc Tryd.prog W base spare held 26 v d p) : ∃ zs, Ints W v zs := by
  obtain ⟨a0, len0, cap0, rfl⟩ := okWide_slice Tryd.underlying26 hv
  obtain ⟨fuel, hf⟩ := h
  exact ints_of_trod hf
end
end Go.Proofs.YtmlfegfplepehaaDoor

/- Arguments opened: items and lists of items. -/
namespace Go.Proofs.YtmlfegfplepehaaDoor
set_option linter.unusedVariables false
set_option linter.unusedSimpArgs false
set_option maxRecDepth 100000
open Go.ChangeShapes Go.WideShapes Go.ChangeAt Go.RowKit Go.Joins Go.Deep
section
variable {H : Type} {enc : TypeId × Value → H} {W : World} {r : Reach} {b0 base : Nat} {spare : Nat → Bool} {held : Bool} {v : Value} {d : DataW H} {p : List MemPlace} {x : DataW H × List MemPlace}
theorem strs_of_trod {fuel : Nat} (hf : DataW.trod enc Tryd.prog W base spare held fuel 25 [v] = some x) : ∃ zs, Strs W v zs := by
  rcases open_strings Tryd.underlying25 Tryd.underlying9 (by kernel_rfl) hf with ⟨hcs, _⟩ | ⟨ad, len0, cap0, zs, hcs, _, hl, hm, hz, _, hcell, hwz⟩
  · simp at hcs
    subst hcs
    exact ⟨[], Seq.nil _, by simp⟩
  · simp at hcs
    subst hcs
    have hge : len0 ≤ zs.length := by rw [hz]; split <;> omega
    refine ⟨zs.take len0, ?_, fun z hz => hwz z (List.mem_of_mem_take hz)⟩
    have hlen : (zs.take len0).length = len0 := by rw [List.length_take]; omega
    have hS := seq_of_cells (w := W) (x := ad) (len := len0) (cap := cap0) (size := 1) (xs := (zs.take len0).map Value.string) hl hm (by rw [List.length_map, hlen]; omega) (by omega) (fun j u hu => by
      rw [List.getElem?_map] at hu
      obtain ⟨z, hz1, rfl⟩ := Option.map_eq_some_iff.1 hu
      have hj : j < len0 := by
        have := (List.getElem?_eq_some_iff.1 hz1).1
        rw [hlen] at this
        exact this
      rw [List.getElem?_take_of_lt hj] at hz1
      have := hcell j (by omega)
      rw [List.getD_eq_getElem?_getD, hz1] at this
      exact this)
    rw [hlen]
    exact hS
theorem item_of_parts {v0 v1 v2 : Value} {y0 y1 y2 : DataW H × List MemPlace} {n : Nat} (h0 : DataW.trod enc Tryd.prog W base spare held n 25 [v0] = some y0) (h1 : DataW.trod enc Tryd.prog W base spare held n 26 [v1] = some y1) (h2 : DataW.trod enc Tryd.prog W base spare held n 4 [v2] = some y2) :
    ∃ it : ItemD, v2 = .bool it.late ∧ Strs W v0 it.names ∧ Ints W v1 it.marks := by
  obtain ⟨ns, q0⟩ := strs_of_trod h0
  obtain ⟨ms, q1⟩ := ints_of_trod h1
  obtain ⟨b, q2, _⟩ := DataW.trod_bool Tryd.underlying4 h2
  simp at q2
  exact ⟨⟨ns, ms, b⟩, q2, q0, q1⟩
theorem open_T (hv : Value.okWide Tryd.prog W r b0 28 v) (h : DataW.Trod enc Tryd.prog W base spare held 28 v d p) : ∃ it, ItemAt W v it := by
  obtain ⟨v0, v1, v2, y0, y1, y2, n, rfl, _, _, h0, h1, h2⟩ := open_agg3 Tryd.underlying28 (by kernel_rfl) (by kernel_rfl) hv h
  obtain ⟨it, rfl, q0, q1⟩ := item_of_parts h0 h1 h2
  exact ⟨it, _, _, rfl, q0, q1⟩
theorem open_L (hv : Value.okWide Tryd.prog W r b0 35 v) (h : DataW.Trod enc Tryd.prog W base spare held 35 v d p) : ∃ its, ItemsAt W v its := by
  obtain ⟨a0, len0, cap0, rfl⟩ := okWide_slice Tryd.underlying35 hv
  obtain ⟨fuel, hf⟩ := h
  have hC : Tryd.prog.cellsOf 28 = 3 := by kernel_rfl
  rcases open_slice Tryd.underlying35 hf with ⟨hcs, _⟩ | ⟨ad, len, cap, m, n, D, Pl, hcs, _, hl, hm, hmm, _, hi⟩
  · simp [Value.cells] at hcs
    obtain ⟨rfl, rfl, rfl⟩ := hcs
    exact ⟨[], [], rfl, Seq.nil _, by simp⟩
  · simp [Value.cells] at hcs
    obtain ⟨rfl, rfl, rfl⟩ := hcs
    have hge : len0 ≤ m := by rw [hmm]; split <;> omega
    have each : ∀ i : Fin len0, ∃ q : (Value × Value) × ItemD, (W.cell? (ad.add (i.1 * 3)) = some q.1.1 ∧ W.cell? ((ad.add (i.1 * 3)).add 1) = some q.1.2 ∧ W.cell? ((ad.add (i.1 * 3)).add 2) = some (.bool q.2.late)) ∧ Strs W q.1.1 q.2.names ∧ Ints W q.1.2 q.2.marks := by
      intro i
      obtain ⟨cs', hc, ht'⟩ := hi i.1 (by omega)
      rw [hC] at hc
      obtain ⟨_, hcl, hat⟩ := World.cells?_some hc
      obtain ⟨y0, y1, y2, n', _, _, h0, h1, h2⟩ := trod_struct3 Tryd.underlying28 ht'
      have hS : Tryd.prog.cellsOf 25 = 1 := by kernel_rfl
      have hI : Tryd.prog.cellsOf 26 = 1 := by kernel_rfl
      have hB : Tryd.prog.cellsOf 4 = 1 := by kernel_rfl
      match cs', hcl with
      | [x0, x1, x2], _ =>
        dsimp only at h0 h1 h2
        rw [hS] at h0
        rw [hI] at h1
        rw [hB] at h2
        obtain ⟨it, rfl, q0, q1⟩ := item_of_parts (v0 := x0) (v1 := x1) (v2 := x2) h0 h1 h2
        exact ⟨((x0, x1), it), ⟨hat 0 (by omega), hat 1 (by omega), hat 2 (by omega)⟩, q0, q1⟩
    refine ⟨List.ofFn fun i => (Classical.choose (each i)).2, List.ofFn fun i => (Classical.choose (each i)).1, by simp, ?_, ?_⟩
    · rw [List.length_ofFn]
      refine seq_of_cells (size := 3) hl hm (by rw [flat_length row3 3 (fun _ => rfl)]; simp) (by omega) (fun j u hu => ?_)
      have hj : j < len0 * 3 := by
        have := (List.getElem?_eq_some_iff.1 hu).1
        rw [flat_length row3 3 (fun _ => rfl)] at this
        simpa using this
      have hi3 : j / 3 < len0 := by omega
      have hsp := Classical.choose_spec (each ⟨j / 3, hi3⟩)
      have hz : (List.zip (List.ofFn fun i => (Classical.choose (each i)).1) (List.ofFn fun i => (Classical.choose (each i)).2))[j / 3]? = some (Classical.choose (each ⟨j / 3, hi3⟩)) := by
        rw [List.getElem?_zip_eq_some]
        constructor <;> rw [List.getElem?_ofFn, dif_pos hi3]
      have hfl := flat_get row3 3 (fun _ => rfl) (List.zip (List.ofFn fun i => (Classical.choose (each i)).1) (List.ofFn fun i => (Classical.choose (each i)).2)) (j / 3) (j % 3) (by omega)
      rw [show j / 3 * 3 + j % 3 = j from by omega, hu, hz] at hfl
      have hadd : ad.add j = (ad.add (j / 3 * 3)).add (j % 3) := by
        rw [Go.Deep.add_add]
        congr 1
        omega
      rw [hadd]
      have hm3 : j % 3 = 0 ∨ j % 3 = 1 ∨ j % 3 = 2 := by omega
      rcases hm3 with h | h | h <;> rw [h] at hfl ⊢
      · rw [show ∀ a : Addr, a.add 0 = a from fun a => by simp [Addr.add]]
        rw [hsp.1.1]
        simpa [row3] using hfl.symm
      · rw [hsp.1.2.1]
        simpa [row3] using hfl.symm
      · rw [hsp.1.2.2]
        simpa [row3] using hfl.symm
    · intro k nv mv it q1 q2
      rw [List.getElem?_ofFn] at q1 q2
      split at q1
      · rename_i hk
        rw [dif_pos hk] at q2
        injection q1 with q1
        injection q2 with q2
        have hsp := (Classical.choose_spec (each ⟨k, hk⟩)).2
        rw [q1, q2] at hsp
        exact hsp
      · cases q1
end
end Go.Proofs.YtmlfegfplepehaaDoor
