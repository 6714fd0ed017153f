/- Contracts of functions that the proof leans on. No condition. -/
import Derived.Test.YtfonfekejbmamaaDoorM48dbb7a522
import Derived.Shelf.Strings.BuilderK
import Derived.Test.YtfonfekejbmamaaDoorRows
import Derived.WalkKit
import Derived.ProofKit
import Derived.OpenShut
import Derived.ShutString
import Derived.ChangeOld
import Derived.Below
import Derived.LaidMore
import Derived.Lay
import Derived.MakeChecks
import Derived.Stop.LaidErr
import Derived.Shelf.Vars
import Derived.Lib.LaidTab
import Derived.OpenVars
import Derived.SliceStrings
import Derived.Lib.SmallJoins
import Derived.Deep.Slices
import Derived.Deep.Fields
/- Codes: their text, the program's side; the law. -/
namespace Go.Proofs.YtfonfekejbmamaaDoor
set_option linter.unusedVariables false
set_option linter.unusedSimpArgs false
set_option linter.unnecessarySimpa false
open Go.RowKit Go.Lib

def nB (zs : List Int) : List ByteArray := zs.map fun n => tx (numL n)
theorem nB_len (zs : List Int) : (nB zs).length = zs.length := by simp [nB]
theorem nB_snoc {zs : List Int} {k n : Nat} (h : zs[k]? = some (n : Int)) : (nB zs).take (k + 1) = (nB zs).take k ++ [numT n] := by
  have e : (nB zs)[k]? = some (numT n) := by
    unfold nB
    rw [List.getElem?_map, h]
    simp [numT, numL]
  exact take_snoc e
def numsT (zs : List Int) : ByteArray := tx (Lib.join (zs.map numL) [32])
theorem nB_join (zs : List Int) : (⟨(Lib.join ((nB zs).map (·.data.toList)) [32]).toArray⟩ : ByteArray) = numsT zs := by
  unfold nB numsT
  rw [List.map_map]
  rfl
theorem lineL_txt {w : List UInt8} {l : List Int} (h : l ≠ []) : lineL w l = w ++ [32] ++ Lib.join (l.map numL) [32] := by
  unfold lineL
  cases l with
  | nil => exact absurd rfl h
  | cons n t =>
    rw [List.map_cons, join_cons, join_cons]
    simp [joinTail]
theorem line_parts {w : List UInt8} {l : List Int} (h : l ≠ []) : tx w ++ ⟨#[32]⟩ ++ numsT l ++ ⟨#[10]⟩ = tx (lineL w l ++ [10]) := by
  rw [lineL_txt h]
  unfold numsT
  show tx w ++ tx [32] ++ tx _ ++ tx [10] = _
  rw [tx_app, tx_app, tx_app]
theorem numsT_le {l : List Int} (h : l ≠ []) (hz : Smalls l) : (numsT l).size ≤ 11 * l.length := by
  have h1 := lineL_len (w := []) hz l.length (Nat.le_refl _)
  rw [List.take_length, lineL_txt h, List.length_append] at h1
  unfold numsT
  rw [tx_size]
  simp at h1
  omega
theorem some_lt {w : World} {b : Nat} {o : Obj} (h : w.heap[b]? = some o) : b < w.heap.size := (Array.getElem?_eq_some_iff.1 h).1
theorem isB_kept' {T e : TypeId} {B b : Nat} {bs : List Value} {w w' : World} (h : IsBuilderF T e B b bs w) (k : Kept w w') : IsBuilderF T e B b bs w' := by
  have go : ∀ p, BuilderAtF T e B b p bs w → BuilderAtF T e B b p bs w' := fun p hp => by
    obtain ⟨h1, v, h2, h3, h4⟩ := hp
    refine ⟨h1, v, (k.block b (some_lt h2)).trans h2, ⟨h3.1, ?_⟩, h4⟩
    rcases h3.2 with hn | ⟨g, cap, cur, fz, e1, hb, hg, rest⟩
    · exact .inl hn
    · exact .inr ⟨g, cap, cur, fz, e1, hb, (k.block g (some_lt hg)).trans hg, rest⟩
  exact h.elim (fun x => .inl (go _ x)) (fun x => .inr (go _ x))
theorem Box.others {w w' : World} {b q : Nat} {t e : TypeId} {cs : Array Value} (h : Box w b t cs) (k : OthersKept e (Option.some q) w w') (hb : b ≠ q) (ht : t ≠ e) : Box w' b t cs :=
  k b _ h (fun hh => hb (Option.some.inj hh)) (fun c fz hh => by injection hh with _ hh _; exact ht hh)
theorem Kept.belowK {B : Nat} {w a b : World} (h : Kept w a) (k : Below B a b) (hB : w.heap.size ≤ B) : Kept w b := Below.trans h (k.mono hB)
theorem Box.belowB {B : Nat} {w w' : World} {b : Nat} {t : TypeId} {cs : Array Value} (h : Box w b t cs) (k : Below B w w') (hb : b < B) : Box w' b t cs := (k.block b hb).trans h
set_option maxRecDepth 100000 in
set_option maxHeartbeats 16000000 in
theorem numbersText_any (v : Value) (zs : List Int) (w : World) (h : Ints w v zs) (hz : Smalls zs) (hl : zs.length ≤ 1000) (hne : zs ≠ []) (ht : HasTab w) :
    Calls Tryd.prog 50 #[v] w fun e w' => e = .returned (.string (numsT zs)) ∧ Kept w w' := by
  obtain ⟨A, c, rfl, hnc, hcm, hA⟩ := h.out
  unfold maxLen at hcm
  have HA := Lib.hid hA
  have HZ := Lib.hid hz
  have HT := Lib.hid ht
  have HNL := Lib.hid (nB_len zs)
  have HNS := Lib.hid (numsT_le hne hz)
  clear hA h hz ht hne
  go_enter Tryd.func50, Tryd.ntmps50
  go_wp2_with fail
  go_loopw [3, 9] (fun s3 s9 wr => ∃ k : Nat, k ≤ zs.length ∧ s9 = .int .i64 k ∧ OwnS wr w.heap.size s3 ((nB zs).take k) ∧ s3.ownBlock ≠ none ∧ Kept w wr) (fun _ i _ => zs.length - (RowKit.intOf i).toNat)
  case atStart => exact ⟨0, Nat.zero_le _, rfl, by rw [List.take_zero]; exact ⟨own_made _ _ 1 (Nat.le_refl _) (Box.new _ _ _ _ rfl), fun _ h => by cases h⟩, (fun h => by cases h), (Kept.refl _).alloc _⟩
  case round =>
    obtain ⟨k, hk, rfl, ho, hnn, hkept⟩ := hrel
    by_cases hlt : k < zs.length
    · obtain ⟨b, o, z, rfl, hbb, hzk, hc⟩ := ints_at (HA.out.kept hkept) hlt
      obtain ⟨hz0, hz1⟩ := HZ.out z (List.mem_of_getElem? hzk)
      obtain ⟨n, rfl⟩ : ∃ n : Nat, z = (n : Int) := ⟨z.toNat, by omega⟩
      have C := Lib.hid (itoa_any n wr (HT.out.kept hkept) (by omega))
      have HSN := Lib.hid (nB_snoc hzk)
      have HO := Lib.hid ho
      have HNN := Lib.hid hnn
      have HWZ : Hid ((numT n).size ≤ maxLen) := Lib.hid (by have := numT_len (n := n) (by omega); unfold maxLen; omega)
      have hwl : ((nB zs).take k).length ≤ 1000 := by rw [List.length_take, HNL.out]; omega
      clear hzk ho hnn
      generalize numT n = z at C HSN HWZ
      go_wp2_with fail
      with_reducible refine (C.out).mono ?_
      rintro e w1 ⟨rfl, k1⟩
      have sz1 := k1.size
      go_wp2_with (at_builtin; refine wpList_append_SL _ rfl _ _ rfl w.heap.size _ ((nB zs).take k) rfl ((HO.out.kept k1).kept ((Kept.refl _).alloc _)) _ [z] rfl (strs_box1 (Box.new _ _ _ _ rfl) HWZ.out) (by simp only [List.length_cons, List.length_nil]; omega) (by have := hkept.size; simp; omega) ?_; intro v3 w3 o3 g3 n3)
      have k3 := ((hkept.trans k1).alloc (.cells #[.string z] 9)).grew ((HO.out.kept k1).kept ((Kept.refl _).alloc _)).1 g3 (Nat.le_refl _)
      have N3 : Hid (v3.ownBlock ≠ none) := Lib.hid (n3 HNN.out)
      rw [← HSN.out] at o3
      have O3 := Lib.hid o3
      clear o3 n3 g3
      go_wp2_with fail
      go_roundw
      case rel => exact ⟨k + 1, by omega, by go_num, O3.out, N3.out, k3⟩
      case measure => simp [RowKit.intOf]; omega
    · obtain rfl : k = zs.length := by omega
      rw [List.take_of_length_le (by rw [HNL.out]; exact Nat.le_refl _)] at ho
      rcases ownS_cases ho with ⟨rfl, _⟩ | ⟨g, cap, rfl, hcap1, hcap2⟩
      · exact absurd rfl hnn
      have hg1 : g < wr.heap.size := own_lt ho.1
      have HJ := Lib.hid (nB_join zs)
      have hjl : (Lib.join ((nB zs).map (·.data.toList)) [32]).length ≤ 140737488355328 := by
        have e : tx (Lib.join ((nB zs).map (·.data.toList)) [32]) = numsT zs := HJ.out
        have e2 := congrArg ByteArray.size e
        rw [tx_size] at e2
        have e3 := HNS.out
        omega
      have hwl := HNL.out
      have hcl : ∀ (j : Nat) x, (nB zs)[j]? = some x → wr.cell? ⟨g, 0 + j, none⟩ = some (.string x) := fun j x hx => by
        obtain ⟨hj, e⟩ := List.getElem?_eq_some_iff.1 hx
        have hh := holds_own (enc := Value.string) ho.1 j (by simpa using hj)
        simp only [List.getElem!_toArray] at hh
        rw [hh.1]
        simp [hx]
      have cj := ((Tryd.strings_Join g 0 cap (nB zs) ⟨#[32]⟩ wr hcl hg1 (by omega) hcap1 hjl).mono (fun e w' hh => (⟨hh.1.trans (ret_str HJ.out), hh.2⟩ : e = .returned (.string (numsT zs)) ∧ Kept wr w')))
      rw [hwl] at cj
      have CJ := Lib.hid cj
      clear cj ho hnn hjl hcap1 hcap2
      go_wp2_with fail
      with_reducible refine (CJ.out).mono ?_
      rintro e w1 ⟨rfl, k1⟩
      go_wp2_with fail
      go_ret
      exact ⟨rfl, hkept.trans k1⟩
theorem elemL_parts (y : ElemD) : y.name ++ ⟨#[32]⟩ ++ numsT [y.family, y.level, y.base] ++ ⟨#[10]⟩ = tx (elemL y ++ [10]) := by
  have h := line_parts (w := y.name.data.toList) (l := [y.family, y.level, y.base]) (by simp)
  rw [tx_of] at h
  exact h
theorem bytes_snoc (a b : List UInt8) : Lib.byteCells a ++ strCells (tx b) = Lib.byteCells (a ++ b) := by
  rw [Lib.strCells_eq, ← Lib.byteCells_append]
  rfl
set_option maxRecDepth 100000 in
set_option maxHeartbeats 16000000 in
theorem implCodeText_any (v : Value) (x : CodeD) (w : World) (h : CodeAt w v x) (ht : HasTab w) :
    Calls Tryd.prog 18 #[v] w fun e w' => e = .returned (.tuple #[.string (ctV x), .bool (codeB x)]) ∧ Kept w w' := by
  have HI := Lib.hid h
  have HT := Lib.hid ht
  obtain ⟨nv, mv, rfl, q1, q2⟩ := h
  obtain ⟨A, c, rfl, hnc, hcm, hA⟩ := q1.1.out
  obtain ⟨D, d, rfl, hnd, hdm, _⟩ := q2.out
  unfold maxLen at hcm hdm
  have HA := Lib.hid hA
  have H2 := Lib.hid q2
  clear q1 q2 hA ht
  go_enter Tryd.func18, Tryd.ntmps18
  have B0 := Box.new w w.heap.size 41 #[.slice A x.elems.length c, .slice D x.limits.length d, .int .i64 x.repeats, .int .i64 x.bonus, .int .i64 x.keeps, .int .i64 x.fall] rfl
  have K0 : Kept w (w.alloc (.cells #[.slice A x.elems.length c, .slice D x.limits.length d, .int .i64 x.repeats, .int .i64 x.bonus, .int .i64 x.keeps, .int .i64 x.fall] 41)) := (Kept.refl w).alloc _
  obtain ⟨x0, y0⟩ := B0.six
  go_upto_region 1 with (fail)
  obtain ⟨w0, hw0⟩ : ∃ u : World, u = w.alloc (.cells #[.slice A x.elems.length c, .slice D x.limits.length d, .int .i64 x.repeats, .int .i64 x.bonus, .int .i64 x.keeps, .int .i64 x.fall] 41) := ⟨_, rfl⟩
  rw [← hw0] at B0 K0 x0 y0 ⊢
  clear hw0
  have sz0 := B0.lt
  go_wp2_with fail
  clear x0 y0
  refine (isCode_any _ x _ (HI.out.kept K0)).mono ?_
  rintro e w1 ⟨rfl, k1⟩
  have K1 := K0.trans k1
  have sz1 := k1.size
  replace B0 := B0.kept k1
  by_cases hb : codeB x = true
  case neg =>
    simp only [Bool.not_eq_true] at hb
    have HB := Lib.hid hb
    rw [hb]
    clear hb
    go_wp2_with fail
    go_ret2
    exact ⟨ret_sb (ctV_no HB.out).symm HB.out.symm, K1⟩
  have HB := Lib.hid hb
  obtain ⟨s1, s2, s3, s4, s5⟩ := code_small hb
  have hp0 := cdPre_len hb 0 (by omega)
  have HPL := Lib.hid (cdPre_len hb)
  rw [hb]
  clear hb
  have S2 := Lib.hid s2
  have S5 := Lib.hid s5
  have S3 := Lib.hid s3
  have HP0 := Lib.hid (cdPre_zero x)
  have HBU0 := Lib.hid (IsBuilderF.of (fresh_isBuilder 76 5 w1))
  have hn1 := numsT_le (l := [x.repeats, x.bonus, x.keeps, x.fall]) (by simp) s1
  have hn2 := numsT_le (l := x.limits) (by intro e; rw [e] at s3; simp at s3) s2
  have HL1 : Hid (⟨#[99, 111, 100, 101, 32]⟩ ++ numsT [x.repeats, x.bonus, x.keeps, x.fall] ++ ⟨#[10]⟩ = tx (headL x ++ [10])) := Lib.hid (line_parts (w := codeW) (by simp))
  have HL2 : Hid (⟨#[108, 105, 109, 105, 116, 115, 32]⟩ ++ numsT x.limits ++ ⟨#[10]⟩ = tx (limL x ++ [10])) := Lib.hid (line_parts (w := limitsW) (by intro e; rw [e] at s3; simp at s3))
  have CN1 : Hid (∀ (W : World) (g : Nat), HasTab W → Box W g 3 #[.int .i64 x.repeats, .int .i64 x.bonus, .int .i64 x.keeps, .int .i64 x.fall] → Calls Tryd.prog 50 #[.slice (some ⟨g, 0, none⟩) 4 4] W fun e w' => e = .returned (.string (numsT [x.repeats, x.bonus, x.keeps, x.fall])) ∧ Kept W w') := Lib.hid (fun W g hT hB => numbersText_any _ [x.repeats, x.bonus, x.keeps, x.fall] W (ints4 hB) s1 (by simp) (by simp) hT)
  have CN2 : Hid (∀ (W : World), HasTab W → Kept w W → Calls Tryd.prog 50 #[.slice D x.limits.length d] W fun e w' => e = .returned (.string (numsT x.limits)) ∧ Kept W w') := Lib.hid (fun W hT hk => numbersText_any _ x.limits W (H2.out.kept hk) S2.out (by have := S3.out; omega) (by intro e; have := S3.out; rw [e] at this; simp at this) hT)
  clear s1 s2 s3 s5
  have hn1' : (numsT [x.repeats, x.bonus, x.keeps, x.fall]).size ≤ 44 := hn1
  have e5 : (⟨#[99, 111, 100, 101, 32]⟩ : ByteArray).size = 5 := rfl
  have e7 : (⟨#[108, 105, 109, 105, 116, 115, 32]⟩ : ByteArray).size = 7 := rfl
  have e1 : (⟨#[10]⟩ : ByteArray).size = 1 := rfl
  have hn2' : (numsT x.limits).size ≤ 55 := by have := S3.out; omega
  have A1 := Lib.hid (cat_run (x := ⟨#[99, 111, 100, 101, 32]⟩) (y := numsT [x.repeats, x.bonus, x.keeps, x.fall]) rfl (by omega))
  have A2 := Lib.hid (cat_run HL1.out (by rw [ByteArray.size_append]; omega))
  have A3 := Lib.hid (cat_run (x := ⟨#[108, 105, 109, 105, 116, 115, 32]⟩) (y := numsT x.limits) rfl (by omega))
  have A4 := Lib.hid (cat_run HL2.out (by rw [ByteArray.size_append]; omega))
  have HS1 : Hid ((tx (headL x ++ [10])).size ≤ 50) := Lib.hid (by rw [← HL1.out, ByteArray.size_append, ByteArray.size_append]; omega)
  have HS2 : Hid ((tx (limL x ++ [10])).size ≤ 63) := Lib.hid (by rw [← HL2.out, ByteArray.size_append, ByteArray.size_append]; omega)
  have HW : Hid (∀ (W : World) (bs : List UInt8) (b : List UInt8), w1.heap.size ≤ W.heap.size → bs.length ≤ 100000 → b.length ≤ 1000 → IsBuilderF 76 5 w1.heap.size w1.heap.size (Lib.byteCells bs) W → Calls Tryd.prog 49 #[.pointer (some ⟨w1.heap.size, 0, none⟩), .string (tx b)] W fun e w' => (∃ z, e = .returned (.tuple #[.int .i64 z, .nilIface])) ∧ IsBuilderF 76 5 w1.heap.size w1.heap.size (Lib.byteCells (bs ++ b)) w' ∧ Below w1.heap.size W w' ∧ OthersKept 5 (some w1.heap.size) W w') := Lib.hid (fun W bs b h1 h2 h3 h4 => (Any.Builder_WriteString_k Tryd.b166 Tryd.bX w1.heap.size w1.heap.size (Lib.byteCells bs) (tx b) W h4 (by rw [Lib.byteCells_length, tx_size]; omega) h1).mono (fun e w' hh => ⟨⟨_, hh.1⟩, by have := hh.2.1; rw [bytes_snoc] at this; exact .inr this, hh.2.2.1, hh.2.2.2⟩))
  have HH : Hid (cdPre x 0 = (headL x ++ [10]) ++ (limL x ++ [10])) := Lib.hid (by simp [cdPre, ended])
  have hl1 : (headL x ++ [10]).length ≤ 50 := by rw [← tx_size]; exact HS1.out
  have hl2 : (limL x ++ [10]).length ≤ 63 := by rw [← tx_size]; exact HS2.out
  obtain ⟨p, hp⟩ : ∃ p, p = w1.heap.size := ⟨_, rfl⟩
  rw [← hp] at HBU0 HW
  have hpl : p ≤ w1.heap.size := by omega
  have hpg : w.heap.size < p := by omega
  have KS0 : w1.heap.size < (w1.alloc (.cells #[.pointer none, .slice none 0 0] 76)).heap.size := by simp
  have KA0 : Kept w1 (w1.alloc (.cells #[.pointer none, .slice none 0 0] 76)) := (Kept.refl w1).alloc _
  obtain ⟨x0, y0⟩ := (B0.kept KA0).six
  have a1 := A1.out
  have a2 := A2.out
  go_upto_region 4 with (fail)
  rw [← hp]
  clear hp
  obtain ⟨wa, hwa⟩ : ∃ u : World, u = w1.alloc (.cells #[.pointer none, .slice none 0 0] 76) := ⟨_, rfl⟩
  rw [← hwa] at HBU0 KA0 KS0 x0 y0 ⊢
  clear hwa
  have sza := KA0.size
  have HT4 : Hid (HasTab (wa.alloc (.cells #[.int .i64 x.repeats, .int .i64 x.bonus, .int .i64 x.keeps, .int .i64 x.fall] 3))) := Lib.hid (HT.out.kept ((K1.trans KA0).alloc _))
  have B4 : Box (wa.alloc (.cells #[.int .i64 x.repeats, .int .i64 x.bonus, .int .i64 x.keeps, .int .i64 x.fall] 3)) wa.heap.size 3 #[.int .i64 x.repeats, .int .i64 x.bonus, .int .i64 x.keeps, .int .i64 x.fall] := Box.new _ _ _ _ rfl
  go_wp2_with fail
  with_reducible refine (CN1.out _ _ HT4.out B4).mono ?_
  rintro e w2 ⟨rfl, k2⟩
  have ka2 : Kept wa w2 := ((Kept.refl wa).alloc _).trans k2
  have sz2 := ka2.size
  clear x0 y0
  have C2 := Lib.hid (HW.out w2 [] (headL x ++ [10]) (by omega) (by simp) (by omega) (isB_kept' HBU0.out ka2))
  go_wp2_with fail
  with_reducible refine (C2.out).mono ?_
  rintro e w3 ⟨⟨z, rfl⟩, bu3, bel3, _⟩
  have B03 := (B0.kept (KA0.trans ka2))
  have K3 : Kept w w3 := ((K1.trans KA0).trans ka2).belowK bel3 (by omega)
  replace B03 := B03.belowB bel3 (by omega)
  have sz3 := bel3.size
  have BU3 := Lib.hid bu3
  clear a1 a2 bu3 C2 bel3
  obtain ⟨x0, y0⟩ := B03.six
  have a3 := A3.out
  have a4 := A4.out
  go_wp2_with fail
  with_reducible refine (CN2.out _ (HT.out.kept K3) K3).mono ?_
  rintro e w4 ⟨rfl, k4⟩
  have sz4 := k4.size
  clear x0 y0
  have C4 := Lib.hid (HW.out w4 ([] ++ (headL x ++ [10])) (limL x ++ [10]) (by omega) (by rw [List.nil_append]; omega) (by omega) (isB_kept' BU3.out k4))
  go_wp2_with fail
  with_reducible refine (C4.out).mono ?_
  rintro e w5 ⟨⟨z2, rfl⟩, bu5, bel5, _⟩
  have K5 : Kept w w5 := (K3.trans k4).belowK bel5 (by omega)
  have B05 := (B03.kept k4).belowB bel5 (by omega)
  have sz5 := bel5.size
  rw [List.nil_append, ← HH.out] at bu5
  have BU5 := Lib.hid bu5
  have KW := Lib.hid K5
  clear a3 a4 bu5 C4 bel5
  obtain ⟨x0, y0⟩ := B05.six
  go_wp2_with fail
  clear x0 y0
  go_loopw [32] (fun s32 wr => ∃ k : Nat, k ≤ x.elems.length ∧ s32 = .int .i64 k ∧ IsBuilderF 76 5 p p (Lib.byteCells (cdPre x k)) wr ∧ Kept w wr ∧ p < wr.heap.size) (fun i _ => x.elems.length - (RowKit.intOf i).toNat)
  case atStart => exact ⟨0, Nat.zero_le _, rfl, BU5.out, KW.out, by omega⟩
  case round =>
    obtain ⟨k, hk, rfl, hbu, hkept, szp⟩ := hrel
    have HBU := Lib.hid hbu
    clear hbu
    by_cases hlt : k < x.elems.length
    · obtain ⟨b, o, y, rfl, hb', h2, q0, q1, q2, q3⟩ := elems_at (HA.out.kept hkept) hlt
      have S5y := S5.out y (List.mem_of_getElem? h2)
      have hnm := S5y.1
      have hel := elemL_len S5y.1 S5y.2
      have hpl := HPL.out k hk
      have HSU := Lib.hid (cdPre_succ h2)
      have CN : Hid (∀ (W : World) (g : Nat), HasTab W → Box W g 3 #[.int .i64 y.family, .int .i64 y.level, .int .i64 y.base] → Calls Tryd.prog 50 #[.slice (some ⟨g, 0, none⟩) 3 3] W fun e w' => e = .returned (.string (numsT [y.family, y.level, y.base])) ∧ Kept W w') := Lib.hid (fun W g hT hB => numbersText_any _ [y.family, y.level, y.base] W (ints3 hB) S5y.2 (by simp) (by simp) hT)
      have hn3 : (numsT [y.family, y.level, y.base]).size ≤ 33 := numsT_le (l := [y.family, y.level, y.base]) (by simp) S5y.2
      have HLE := Lib.hid (elemL_parts y)
      have e1' : (⟨#[32]⟩ : ByteArray).size = 1 := rfl
      have E1 := Lib.hid (cat_run (x := y.name) (y := ⟨#[32]⟩) rfl (by omega))
      have E2 := Lib.hid (cat_run (x := y.name ++ ⟨#[32]⟩) (y := numsT [y.family, y.level, y.base]) rfl (by rw [ByteArray.size_append]; omega))
      have E3 := Lib.hid (cat_run HLE.out (by rw [ByteArray.size_append, ByteArray.size_append]; omega))
      have CW : Hid (∀ W : World, Kept wr W → Calls Tryd.prog 49 #[.pointer (some ⟨p, 0, none⟩), .string (tx (elemL y ++ [10]))] W fun e w' => (∃ z, e = .returned (.tuple #[.int .i64 z, .nilIface])) ∧ IsBuilderF 76 5 p p (Lib.byteCells (cdPre x (k + 1))) w' ∧ Below p W w' ∧ OthersKept 5 (some p) W w') := Lib.hid (fun W hW => by
        have := HW.out W (cdPre x k) (elemL y ++ [10]) (by have := hW.size; omega) (by omega) (by simp; omega) (isB_kept' HBU.out hW)
        rw [← HSU.out] at this
        exact this)
      clear h2 S5y HSU
      have BY := Box.new wr wr.heap.size 83 #[.string y.name, .int .i64 y.family, .int .i64 y.level, .int .i64 y.base] rfl
      have KY : Kept wr (wr.alloc (.cells #[.string y.name, .int .i64 y.family, .int .i64 y.level, .int .i64 y.base] 83)) := (Kept.refl wr).alloc _
      go_upto_region 9 with (fail)
      obtain ⟨wy, hwy⟩ : ∃ u : World, u = wr.alloc (.cells #[.string y.name, .int .i64 y.family, .int .i64 y.level, .int .i64 y.base] 83) := ⟨_, rfl⟩
      rw [← hwy] at BY KY ⊢
      clear hwy
      have szy : wr.heap.size < wy.heap.size := BY.lt
      have BYd : Box wy.drew wr.heap.size 83 #[.string y.name, .int .i64 y.family, .int .i64 y.level, .int .i64 y.base] := BY
      have BYa : Box (wy.alloc (.cells #[.int .i64 y.family, .int .i64 y.level, .int .i64 y.base] 3)).drew wr.heap.size 83 #[.string y.name, .int .i64 y.family, .int .i64 y.level, .int .i64 y.base] := BY.alloc _
      have B3d : Box (wy.alloc (.cells #[.int .i64 y.family, .int .i64 y.level, .int .i64 y.base] 3)).drew wy.heap.size 3 #[.int .i64 y.family, .int .i64 y.level, .int .i64 y.base] := Box.new wy _ _ _ rfl
      have KYa : Kept wr (wy.alloc (.cells #[.int .i64 y.family, .int .i64 y.level, .int .i64 y.base] 3)).drew := (KY.alloc _).drew
      have HTa := Lib.hid (HT.out.kept (hkept.trans KYa))
      have a1 := E1.out
      have a2 := E2.out
      have a3 := E3.out
      have hne : wr.heap.size ≠ p := by omega
      have hte : (83 : Nat) ≠ 5 := by decide
      go_region_held3 (fun w' => w'.cell? ⟨wr.heap.size, 0, none⟩ = some (.string y.name) ∧ w'.cell? ⟨wr.heap.size, 1, none⟩ = some (.int .i64 y.family) ∧ w'.cell? ⟨wr.heap.size, 2, none⟩ = some (.int .i64 y.level) ∧ w'.cell? ⟨wr.heap.size, 3, none⟩ = some (.int .i64 y.base)) (first | (with_reducible exact BYd.four.1) | (with_reducible exact BYa.four.1) | (with_reducible exact BY7.out.four.1) | (with_reducible exact (BYa.kept (by assumption)).four.1))
        (first | (go_at_call 50; (with_reducible refine (CN.out _ _ HTa.out B3d).mono ?_); rintro e w6 ⟨rfl, k6⟩) | (go_at_call 49; (with_reducible refine (CW.out _ (KYa.trans k6)).mono ?_); rintro e w7 ⟨⟨z7, rfl⟩, bu7, bel7, ok7⟩; have BY7 := Lib.hid ((BYa.kept k6).others ok7 hne hte)))
      rename_i hheld
      clear hheld
      have BU7 := Lib.hid bu7
      have K7 : Kept w w7 := (hkept.trans (KYa.trans k6)).belowK bel7 (by omega)
      have szp7 : p < w7.heap.size := by have h1 := bel7.size; have h2 := (KYa.trans k6).size; omega
      clear bu7 bel7 ok7 a1 a2 a3 BY BYd BYa B3d
      go_wp2_with fail
      go_roundw
      case rel => exact ⟨k + 1, by omega, by go_num, BU7.out, K7, szp7⟩
      case measure => simp [RowKit.intOf]; omega
    · obtain rfl : k = x.elems.length := by omega
      have HC := Lib.hid (Any.Builder_String_any_k Tryd.lays169 Tryd.Builder_Extra_169 p p (cdPre x x.elems.length) wr HBU.out (by omega))
      have HCA := Lib.hid (cdPre_all x)
      go_wp2_with fail
      refine (HC.out).mono ?_
      rintro e w6 ⟨rfl, _, bel, _⟩
      have k6 : Kept w w6 := hkept.belowK bel (by omega)
      go_wp2_with fail
      go_ret2
      exact ⟨ret_sb (by rw [ctV_yes HB.out, HCA.out]; rfl) HB.out.symm, k6⟩
end Go.Proofs.YtfonfekejbmamaaDoor

/- Codes: CodeText, the reference's side and the law. -/
namespace Go.Proofs.YtfonfekejbmamaaDoor
set_option linter.unusedVariables false
set_option linter.unusedSimpArgs false
set_option linter.unnecessarySimpa false
open Go.RowKit Go.Lib

set_option maxHeartbeats 2000000 in
theorem specCodeText_any (v : Value) (x : CodeD) (w : World) (h : CodeAt w v x) :
    Calls Tryd.prog 16 #[v] w fun e w' => e = .returned (.tuple #[.string (ctV x), .bool (codeB x)]) ∧ Kept w w' := by
  have HI := Lib.hid h
  obtain ⟨nv, mv, rfl, q1, q2⟩ := h
  obtain ⟨A, c, rfl, _⟩ := q1.1.out
  obtain ⟨D, d, rfl, _⟩ := q2.out
  clear q1 q2
  go_enter Tryd.func16, Tryd.ntmps16
  have B0 := Box.new w w.heap.size 41 #[.slice A x.elems.length c, .slice D x.limits.length d, .int .i64 x.repeats, .int .i64 x.bonus, .int .i64 x.keeps, .int .i64 x.fall] rfl
  have K0 : Kept w (w.alloc (.cells #[.slice A x.elems.length c, .slice D x.limits.length d, .int .i64 x.repeats, .int .i64 x.bonus, .int .i64 x.keeps, .int .i64 x.fall] 41)) := (Kept.refl w).alloc _
  obtain ⟨x0, y0⟩ := B0.six
  go_upto_region 1 with (fail)
  obtain ⟨w0, hw0⟩ : ∃ u : World, u = w.alloc (.cells #[.slice A x.elems.length c, .slice D x.limits.length d, .int .i64 x.repeats, .int .i64 x.bonus, .int .i64 x.keeps, .int .i64 x.fall] 41) := ⟨_, rfl⟩
  rw [← hw0] at B0 K0 x0 y0 ⊢
  clear hw0
  go_wp2_with fail
  clear x0 y0
  refine (cdGood_any _ x _ (HI.out.kept K0)).mono ?_
  rintro e w1 ⟨rfl, k1⟩
  have kk := K0.trans k1
  obtain ⟨x1, y1⟩ := (B0.kept k1).six
  by_cases hb : codeB x = true
  · have HB := Lib.hid hb
    rw [hb]
    clear hb
    go_wp2_with fail
    refine (cdText_any _ x _ (HI.out.kept kk) HB.out).mono ?_
    rintro e w2 ⟨rfl, k2⟩
    go_wp2_with fail
    go_ret2
    exact ⟨ret_sb (ctV_yes HB.out).symm HB.out.symm, kk.trans k2⟩
  · simp only [Bool.not_eq_true] at hb
    have HB := Lib.hid hb
    rw [hb]
    clear hb
    go_wp2_with fail
    go_ret2
    exact ⟨ret_sb (ctV_no HB.out).symm HB.out.symm, kk⟩
set_option maxHeartbeats 2000000 in
theorem lawCodeText_any {w : World} {v0 : Value} (z0 : CodeD) (h0 : CodeAt w v0 z0) (htb : HasTab w) :
    Calls Tryd.prog 5 #[v0] w fun e w' => e = .returned (.bool true) ∧ Kept w w' := by
  have HTB := Lib.hid htb
  clear htb
  have H0 := Lib.hid h0
  obtain ⟨n0, m0, rfl, p0, q0⟩ := h0
  obtain ⟨A0, c0, rfl, _⟩ := p0.1.out
  obtain ⟨D0, d0, rfl, _⟩ := q0.out
  clear p0 q0
  go_enter Tryd.func5, Tryd.ntmps5
  have K0 := Kept.refl w
  go_wp2_with fail
  obtain ⟨wb1, hwb1⟩ : ∃ w' : World, w' = w.alloc (.cells #[.slice A0 z0.elems.length c0, .slice D0 z0.limits.length d0, .int .i64 z0.repeats, .int .i64 z0.bonus, .int .i64 z0.keeps, .int .i64 z0.fall] 35) := ⟨_, rfl⟩
  rw [← hwb1]
  have KB0 : Kept w wb1 := hwb1 ▸ (Kept.refl w).alloc _
  have B0 : Box wb1 (w.heap.size) 35 #[.slice A0 z0.elems.length c0, .slice D0 z0.limits.length d0, .int .i64 z0.repeats, .int .i64 z0.bonus, .int .i64 z0.keeps, .int .i64 z0.fall] := hwb1 ▸ Box.new w (w.heap.size) 35 #[.slice A0 z0.elems.length c0, .slice D0 z0.limits.length d0, .int .i64 z0.repeats, .int .i64 z0.bonus, .int .i64 z0.keeps, .int .i64 z0.fall] rfl
  have szwb1 : wb1.heap.size = w.heap.size + 1 := by rw [hwb1]; simp
  clear hwb1
  have Kwb1 := K0.trans KB0
  refine (szCode_any _ z0 _ _ (H0.out.kept Kwb1) (by omega) (by omega)).mono ?_
  rintro e w1 ⟨rfl, k1⟩
  replace B0 := B0.kept k1
  have sz1 := k1.size
  have K1 := Kwb1.trans k1
  by_cases hbig0 : ((z0.size : Nat) : Int) ≤ 1048576
  case neg =>
    have e1 : lessOr 1048576 (z0.size) = -1 := by unfold lessOr; exact if_neg (by omega)
    rw [e1]
    go_wp2_with fail
    go_ret
    exact ⟨rfl, K1⟩
  have e1 : lessOr 1048576 (z0.size) = 1048576 - (z0.size : Int) := by unfold lessOr; exact if_pos (by omega)
  rw [e1]
  clear e1
  have hparts0 := code_parts z0
  obtain ⟨x0, y0⟩ := B0.six
  go_wp2_with fail
  clear x0 y0
  refine (toCode_any _ z0 _ (H0.out.kept K1) (by omega) (by omega)).mono ?_
  rintro e w2 ⟨u2, rfl, o2, k2⟩
  replace B0 := B0.kept k2
  have sz2 := k2.size
  have K2 := K1.trans k2
  have R2 := Lib.hid o2.code
  clear o2
  obtain ⟨x0, y0⟩ := B0.six
  go_wp2_with fail
  clear x0 y0
  refine (specCodeText_any _ z0 _ R2.out).mono ?_
  rintro e w3 ⟨rfl, k3⟩
  replace B0 := B0.kept k3
  replace R2 := Lib.hid (R2.out.kept k3)
  have sz3 := k3.size
  have K3 := K2.trans k3
  clear R2
  obtain ⟨x0, y0⟩ := B0.six
  go_wp2_with fail
  clear x0 y0
  refine (toCode_any _ z0 _ (H0.out.kept K3) (by omega) (by omega)).mono ?_
  rintro e w4 ⟨u4, rfl, o4, k4⟩
  replace B0 := B0.kept k4
  have sz4 := k4.size
  have K4 := K3.trans k4
  obtain ⟨n4, m4, rfl, p4, q4, nd4⟩ := o4
  obtain ⟨A4, c4, rfl, _⟩ := own_form p4.1
  obtain ⟨D4, d4, rfl, _⟩ := own_form q4
  have o4 : OwnK w4 _ (.agg #[.slice A4 z0.elems.length c4, .slice D4 z0.limits.length d4, .int .i64 z0.repeats, .int .i64 z0.bonus, .int .i64 z0.keeps, .int .i64 z0.fall]) z0 := ⟨_, _, rfl, p4, q4, nd4⟩
  clear p4 q4 nd4
  have F4 := Lib.hid o4.fps
  have O4 := Lib.hid o4
  clear o4
  obtain ⟨x0, y0⟩ := B0.six
  have l0 := B0.lt
  go_wp2_with fail
  clear x0 y0 l0
  obtain ⟨wb2, hwb2⟩ : ∃ w' : World, w' = w4.alloc (.cells #[.slice A4 z0.elems.length c4, .slice D4 z0.limits.length d4, .int .i64 z0.repeats, .int .i64 z0.bonus, .int .i64 z0.keeps, .int .i64 z0.fall] 41) := ⟨_, rfl⟩
  rw [← hwb2]
  have KB4 : Kept w4 wb2 := hwb2 ▸ (Kept.refl w4).alloc _
  have B4 : Box wb2 (w4.heap.size) 41 #[.slice A4 z0.elems.length c4, .slice D4 z0.limits.length d4, .int .i64 z0.repeats, .int .i64 z0.bonus, .int .i64 z0.keeps, .int .i64 z0.fall] := hwb2 ▸ Box.new w4 (w4.heap.size) 41 #[.slice A4 z0.elems.length c4, .slice D4 z0.limits.length d4, .int .i64 z0.repeats, .int .i64 z0.bonus, .int .i64 z0.keeps, .int .i64 z0.fall] rfl
  have szwb2 : wb2.heap.size = w4.heap.size + 1 := by rw [hwb2]; simp
  clear hwb2
  replace B0 := B0.kept KB4
  replace O4 := Lib.hid (O4.out.kept KB4)
  have Kwb2 := K4.trans KB4
  refine (implCodeText_any _ z0 _ O4.out.code (HTB.out.kept Kwb2)).mono ?_
  rintro e w5 ⟨rfl, k5⟩
  generalize ctV z0 = t
  generalize codeB z0 = b
  replace B0 := B0.kept k5
  replace B4 := B4.kept k5
  replace O4 := Lib.hid (O4.out.kept k5)
  have sz5 := k5.size
  have K5 := Kwb2.trans k5
  obtain ⟨x0, y0⟩ := B0.six
  obtain ⟨x4, y4⟩ := B4.six
  go_wp2_with fail
  clear x0 y0 x4 y4
  have KDw5 : Kept w5 w5.drew := (Kept.refl _).drew
  replace B0 := B0.kept KDw5
  replace B4 := B4.kept KDw5
  replace O4 := Lib.hid (O4.out.kept KDw5)
  have KKw5 := K5.trans KDw5
  have szdw5 : w5.heap.size ≤ w5.drew.heap.size := KDw5.size
  go_region_held3 (fun w' => (w'.cell? ⟨w.heap.size, 0, none⟩ = some (.slice A0 z0.elems.length c0) ∧ w'.cell? ⟨w.heap.size, 1, none⟩ = some (.slice D0 z0.limits.length d0) ∧ w'.cell? ⟨w.heap.size, 2, none⟩ = some (.int .i64 z0.repeats) ∧ w'.cell? ⟨w.heap.size, 3, none⟩ = some (.int .i64 z0.bonus) ∧ w'.cell? ⟨w.heap.size, 4, none⟩ = some (.int .i64 z0.keeps) ∧ w'.cell? ⟨w.heap.size, 5, none⟩ = some (.int .i64 z0.fall)) ∧ (w'.cell? ⟨w4.heap.size, 0, none⟩ = some (.slice A4 z0.elems.length c4) ∧ w'.cell? ⟨w4.heap.size, 1, none⟩ = some (.slice D4 z0.limits.length d4) ∧ w'.cell? ⟨w4.heap.size, 2, none⟩ = some (.int .i64 z0.repeats) ∧ w'.cell? ⟨w4.heap.size, 3, none⟩ = some (.int .i64 z0.bonus) ∧ w'.cell? ⟨w4.heap.size, 4, none⟩ = some (.int .i64 z0.keeps) ∧ w'.cell? ⟨w4.heap.size, 5, none⟩ = some (.int .i64 z0.fall))) (first | exact ⟨B0.six.1, B4.six.1⟩ | exact ⟨(B0.kept (by assumption)).six.1, (B4.kept (by assumption)).six.1⟩)
    (first | (go_at_call 17; refine (toCode_any _ z0 _ (H0.out.kept KKw5) (by omega) (by omega)).mono ?_; rintro e w6 ⟨u6, rfl, o6, k6⟩) | (go_at_call 19; refine (eqCode_any _ _ z0 _ (O4.out.code.kept k6) o6.code).mono ?_; rintro e w7 ⟨rfl, k7⟩; have kk7 := k6.trans k7))
  clear o6
  replace B0 := B0.kept kk7
  replace B4 := B4.kept kk7
  replace O4 := Lib.hid (O4.out.kept kk7)
  have sz7 := kk7.size
  have K7 := KKw5.trans kk7
  go_wp2_with fail
  go_ret
  exact ⟨rfl, K7⟩
end Go.Proofs.YtfonfekejbmamaaDoor

/- The rows' step for statements that list package-level variables: the wrap with the listed variables and the world's shape; what the listed variables give a walk. -/
namespace Go.Proofs.YtfonfekejbmamaaDoor
set_option linter.unusedVariables false
set_option linter.unusedSimpArgs false
set_option linter.unnecessarySimpa false
open Go.ChangeShapes Go.WideShapes Go.ChangeAt Go.RowKit

theorem returns_lot {H : Type} {enc : TypeId × Value → H} {a : Assume} {C : Checked} {os : Os} {f : FuncId} {fn : Func} {s : ChangeSpec} {conds : List PathCond} {apart fresh handsOn again : Bool} {X : World → Array Value → Prop}
    (hX : ∀ (w w' : World) (args : Array Value), w.heap = w'.heap → X w args → X w' args)
    (own : ownKnob C.prog.godebug = none) (started : os.Started) (noInit : C.prog.inits.idxOf? f = none) (hfn : C.prog.funcs[f]? = some fn)
    (witness : ∃ (w : World) (tape : Tape) (i : Input), w.os = os ∧ (w.forCall tape i).Shaped C.prog ∧ i.vars = [] ∧ Input.okWide C.prog (w.forCall tape i) .any w.heap.size f i ∧
      ((s.pre enc C.prog fn conds apart (w.forCall tape i).memory i.args ∧ X (w.forCall tape i).memory i.args) ∧ sizedMet enc C.prog fn (OpenSpec.ofChange s) apart (w.forCall tape i).memory i.args) ∧ a.holds C.prog (lone (Frame.enter C.prog f i.args .normal) [] (w.forCall tape i)))
    (contract : ∀ (W : World) (base : Nat) (args : Array Value) (ds gs : List (DataW H)) (before : List MemPlace),
      (∀ (j : Nat) t v, fn.params[j]? = some t → args[j]? = some v → Value.okWide C.prog W .any base t v) →
      DataW.Whole enc C.prog fn.params.toList s.vars apart W args.toList ds gs before →
      X W args → W.ShapedOpen C.prog →
      Calls C.prog f args W fun e W' => ∃ v, e = .returned v ∧ s.post enc C.prog fn apart fresh handsOn again W args v W') :
    ReturnsInHanded a C os f .any (fun w args => (s.pre enc C.prog fn conds apart w args ∧ X w args) ∧ sizedMet enc C.prog fn (OpenSpec.ofChange s) apart w args) (s.post enc C.prog fn apart fresh handsOn again) := by
  refine returnsInHanded_of_calls own started noInit witness ?_
  intro w tape i _ hsh _ hok hpre hholds
  obtain ⟨_, _, _, fn', hfn', _, _, _, _, hval⟩ := hok
  have e : fn' = fn := Option.some.inj (hfn'.symm.trans hfn)
  subst e
  obtain ⟨⟨⟨ds, gs, before, hw, hc⟩, hx⟩, hz⟩ := hpre
  have hw' := DataW.Whole.of_heap (w' := w.forCall tape i) (by rfl) hw
  refine (contract (w.forCall tape i) w.heap.size i.args ds gs before hval hw' (hX _ _ _ (by rfl) hx) hsh).mono fun e W' ⟨v, he, hp⟩ => ?_
  subst he
  exact ChangeSpec.post_blind hp
theorem tab_of {W : World} (h : laidMet Tryd.prog [("math/bits.deBruijn32tab", Rows.laid_math_bits_deBruijn32tab), ("math/bits.deBruijn64tab", Rows.laid_math_bits_deBruijn64tab), ("internal/strconv.uint64pow10", Rows.laid_internal_strconv_uint64pow10)] W) : HasTab W := by
  have h3 := h.tail.tail
  have e : (Rows.laid_internal_strconv_uint64pow10 : DataW Unit) = Lib.tabData .u64 Lib.pow10Tab := by kernel_rfl
  rw [e] at h3
  have hg : Tryd.prog.globalNamed "internal/strconv.uint64pow10" = some 4 := by kernel_rfl
  have ht := Lib.tabIs_of_head (g := 4) hg (by kernel_rfl) Tryd.underlying140 Tryd.underlying126 (by kernel_rfl) (by kernel_rfl) h3
  refine ⟨ht, ?_⟩
  have hv := ht.cell hg 0 (by decide)
  unfold World.cell? at hv
  cases hh : W.heap[4]? with
  | none => rw [hh] at hv; cases hv
  | some o => exact (Array.getElem?_eq_some_iff.1 hh).1
def HasMax (w : World) : Prop := ∃ m, w.cell? ⟨1, 0, none⟩ = some (.int .i64 m)
theorem cell_lt {w : World} {g o : Nat} {v : Value} (h : w.cell? ⟨g, o, none⟩ = some v) : g < w.heap.size := by
  unfold World.cell? at h
  cases hh : w.heap[g]? with
  | none => simp [hh] at h
  | some o => exact (Array.getElem?_eq_some_iff.1 hh).1
theorem HasMax.kept {w w' : World} (h : HasMax w) (k : Kept w w') : HasMax w' := by
  obtain ⟨m, hm⟩ := h
  exact ⟨m, (k.cell (p := ⟨1, 0, none⟩) (cell_lt hm)).trans hm⟩
theorem max_of {W : World} (h : W.ShapedOpen Tryd.prog) : HasMax W :=
  Go.Proofs.cell_of_shapedOpen_int (zero := #[.int .i64 0]) (t := 3) h (of_decide_eq_true (by kernel_rfl)) (by kernel_rfl) rfl (by kernel_rfl) (by kernel_rfl) Tryd.underlying3
end Go.Proofs.YtfonfekejbmamaaDoor

/- Arguments opened: a slice of integers. -/
namespace Go.Proofs.YtfonfekejbmamaaDoor
set_option linter.unusedVariables false
set_option linter.unusedSimpArgs false
set_option maxRecDepth 100000
open Go.ChangeShapes Go.WideShapes Go.ChangeAt Go.RowKit

theorem block_lt {w : World} {a : Addr} {v : Value} (h : w.cell? a = some v) : a.block < w.heap.size := by
  rcases Nat.lt_or_ge a.block w.heap.size with hlt | hge
  · exact hlt
  · unfold World.cell? at h
    rw [Array.getElem?_eq_none hge] at h
    cases h
theorem add_at {b o : Nat} (i : Nat) : (⟨b, o, none⟩ : Addr).add i = ⟨b, o + i, none⟩ := by
  unfold Addr.add
  split <;> simp_all
theorem spot_of {w : World} {x : Addr} {u : Value} (h : w.cell? (x.add 0) = some u) : ∃ b o, x = ⟨b, o, none⟩ := by
  obtain ⟨b, o, s⟩ := x
  have hs : s = none := by simpa [Addr.add] using World.cell?_spot h
  exact ⟨b, o, by rw [hs]⟩
theorem seq_of_cells {w : World} {x : Addr} {len cap size : Nat} {xs : List Value} (hl : len ≤ cap) (hm : cap ≤ maxLen) (hlen : xs.length = len * size) (hsz : 0 < size) (h : ∀ j u, xs[j]? = some u → w.cell? (x.add j) = some u) : Seq w (.slice (some x) len cap) len xs := by
  refine ⟨_, cap, rfl, hl, hm, (fun h => by cases h), fun hn => ?_⟩
  have h0 : 0 < xs.length := by rw [hlen]; exact Nat.mul_pos hn hsz
  obtain ⟨b, o, rfl⟩ := spot_of (h 0 _ (List.getElem?_eq_getElem h0))
  have hc := h 0 _ (List.getElem?_eq_getElem h0)
  refine ⟨b, o, rfl, ?_, fun j u hu => by rw [← add_at]; exact h j u hu⟩
  rw [add_at] at hc
  exact block_lt hc
section
variable {H : Type} {enc : TypeId × Value → H} {W : World} {r : Reach} {b0 base : Nat} {spare : Nat → Bool} {held : Bool} {v : Value} {d : DataW H} {p : List MemPlace} {x : DataW H × List MemPlace}
theorem ints_of_trod {fuel : Nat} (hf : DataW.trod enc Tryd.prog W base spare held fuel 23 [v] = some x) : ∃ zs, Ints W v zs := by
  rcases open_ints Tryd.underlying23 Tryd.underlying3 (by kernel_rfl) hf with ⟨hcs, _⟩ | ⟨ad, len0, cap0, zs, hcs, _, hl, hm, hz, _, hcell, hwz⟩
  · simp at hcs
    subst hcs
    exact ⟨[], Seq.nil _⟩
  · simp at hcs
    subst hcs
    have hge : len0 ≤ zs.length := by rw [hz]; split <;> omega
    refine ⟨zs.take len0, ?_⟩
    have hlen : (zs.take len0).length = len0 := by rw [List.length_take]; omega
    have hS := seq_of_cells (w := W) (x := ad) (len := len0) (cap := cap0) (size := 1) (xs := (zs.take len0).map (Value.int .i64)) hl hm (by rw [List.length_map, hlen]; omega) (by omega) (fun j u hu => by
      rw [List.getElem?_map] at hu
      obtain ⟨z, hz1, rfl⟩ := Option.map_eq_some_iff.1 hu
      have hj : j < len0 := by
        have := (List.getElem?_eq_some_iff.1 hz1).1
        rw [hlen] at this
        exact this
      rw [List.getElem?_take_of_lt hj] at hz1
      have := hcell j (by omega)
      rw [List.getD_eq_getElem?_getD, hz1] at this
      exact this)
    unfold Ints
    rw [hlen]
    exact hS
theorem open_I (hv : Value.okWide Tryd.prog W r b0 23 v) (h : DataW.Trod enc Tryd.prog W base spare held 23 v d p) : ∃ zs, Ints W v zs := by
  obtain ⟨a0, len0, cap0, rfl⟩ := okWide_slice Tryd.underlying23 hv
  obtain ⟨fuel, hf⟩ := h
  exact ints_of_trod hf
end
end Go.Proofs.YtfonfekejbmamaaDoor

/- Arguments opened: elements, lists of elements, codes. -/
namespace Go.Proofs.YtfonfekejbmamaaDoor
set_option linter.unusedVariables false
set_option linter.unusedSimpArgs false
open Go.ChangeShapes Go.WideShapes Go.ChangeAt Go.RowKit Go.Joins Go.Deep
set_option maxRecDepth 100000
section
variable {H : Type} {enc : TypeId × Value → H} {W : World} {r : Reach} {b0 base : Nat} {spare : Nat → Bool} {held : Bool} {v : Value} {d : DataW H} {p : List MemPlace} {x : DataW H × List MemPlace}
theorem elem_of_parts {v0 v1 v2 v3 : Value} {y0 y1 y2 y3 : DataW H × List MemPlace} {n : Nat} (h0 : DataW.trod enc Tryd.prog W base spare held n 9 [v0] = some y0) (h1 : DataW.trod enc Tryd.prog W base spare held n 3 [v1] = some y1) (h2 : DataW.trod enc Tryd.prog W base spare held n 3 [v2] = some y2) (h3 : DataW.trod enc Tryd.prog W base spare held n 3 [v3] = some y3) :
    ∃ e : ElemD, v0 = .string e.name ∧ v1 = .int .i64 e.family ∧ v2 = .int .i64 e.level ∧ v3 = .int .i64 e.base ∧ e.name.size ≤ maxLen := by
  obtain ⟨s, q0, _, hs⟩ := DataW.trod_string Tryd.underlying9 h0
  obtain ⟨a, q1, _⟩ := DataW.trod_int Tryd.underlying3 h1
  obtain ⟨b, q2, _⟩ := DataW.trod_int Tryd.underlying3 h2
  obtain ⟨c, q3, _⟩ := DataW.trod_int Tryd.underlying3 h3
  simp at q0 q1 q2 q3
  exact ⟨⟨s, a, b, c⟩, q0, q1, q2, q3, hs⟩
theorem open_E (hv : Value.okWide Tryd.prog W r b0 100 v) (h : DataW.Trod enc Tryd.prog W base spare held 100 v d p) : ∃ e, ElemAt W v e := by
  obtain ⟨v0, v1, v2, v3, y0, y1, y2, y3, n, rfl, _, _, h0, h1, h2, h3⟩ := open_agg4 Tryd.underlying100 (by kernel_rfl) (by kernel_rfl) hv h
  obtain ⟨e, rfl, rfl, rfl, rfl, hs⟩ := elem_of_parts h0 h1 h2 h3
  exact ⟨e, rfl, hs⟩
theorem elems_of_trod {fuel : Nat} (hf : DataW.trod enc Tryd.prog W base spare held fuel 33 [v] = some x) : ∃ es, Elems W v es := by
  have hC : Tryd.prog.cellsOf 100 = 4 := by kernel_rfl
  rcases open_slice Tryd.underlying33 hf with ⟨hcs, _⟩ | ⟨ad, len0, cap0, m, n, D, Pl, hcs, _, hl, hm, hmm, _, hi⟩
  · simp at hcs
    subst hcs
    exact ⟨[], Seq.nil _, by simp⟩
  · simp at hcs
    subst hcs
    have hge : len0 ≤ m := by rw [hmm]; split <;> omega
    have each : ∀ i : Fin len0, ∃ e : ElemD, (W.cell? (ad.add (i.1 * 4)) = some (.string e.name) ∧ W.cell? ((ad.add (i.1 * 4)).add 1) = some (.int .i64 e.family) ∧ W.cell? ((ad.add (i.1 * 4)).add 2) = some (.int .i64 e.level) ∧ W.cell? ((ad.add (i.1 * 4)).add 3) = some (.int .i64 e.base)) ∧ e.name.size ≤ maxLen := by
      intro i
      obtain ⟨cs', hc, ht'⟩ := hi i.1 (by omega)
      rw [hC] at hc
      obtain ⟨_, hcl, hat⟩ := World.cells?_some hc
      obtain ⟨y0, y1, y2, y3, n', _, _, h0, h1, h2, h3⟩ := trod_struct4 Tryd.underlying100 ht'
      have hS : Tryd.prog.cellsOf 9 = 1 := by kernel_rfl
      have hI : Tryd.prog.cellsOf 3 = 1 := by kernel_rfl
      match cs', hcl with
      | [x0, x1, x2, x3], _ =>
        dsimp only at h0 h1 h2 h3
        rw [hS] at h0
        rw [hI] at h1 h2 h3
        obtain ⟨e, rfl, rfl, rfl, rfl, hs⟩ := elem_of_parts (v0 := x0) (v1 := x1) (v2 := x2) (v3 := x3) h0 h1 h2 h3
        exact ⟨e, ⟨hat 0 (by omega), hat 1 (by omega), hat 2 (by omega), hat 3 (by omega)⟩, hs⟩
    refine ⟨List.ofFn fun i => Classical.choose (each i), ?_, ?_⟩
    · rw [List.length_ofFn]
      refine seq_of_cells (size := 4) hl hm (by rw [flat_length cells4 4 (fun _ => rfl)]; simp) (by omega) (fun j u hu => ?_)
      have hj : j < len0 * 4 := by
        have := (List.getElem?_eq_some_iff.1 hu).1
        rw [flat_length cells4 4 (fun _ => rfl)] at this
        simpa using this
      have hi4 : j / 4 < len0 := by omega
      have hsp := Classical.choose_spec (each ⟨j / 4, hi4⟩)
      have hz : (List.ofFn fun i => Classical.choose (each i))[j / 4]? = some (Classical.choose (each ⟨j / 4, hi4⟩)) := by
        rw [List.getElem?_ofFn, dif_pos hi4]
      have hfl := flat_get cells4 4 (fun _ => rfl) (List.ofFn fun i => Classical.choose (each i)) (j / 4) (j % 4) (by omega)
      rw [show j / 4 * 4 + j % 4 = j from by omega, hu, hz] at hfl
      have hadd : ad.add j = (ad.add (j / 4 * 4)).add (j % 4) := by
        rw [Go.Deep.add_add]
        congr 1
        omega
      rw [hadd]
      have hm4 : j % 4 = 0 ∨ j % 4 = 1 ∨ j % 4 = 2 ∨ j % 4 = 3 := by omega
      rcases hm4 with h | h | h | h <;> rw [h] at hfl ⊢
      · rw [show ∀ a : Addr, a.add 0 = a from fun a => by simp [Addr.add]]
        rw [hsp.1.1]
        simpa [cells4] using hfl.symm
      · rw [hsp.1.2.1]
        simpa [cells4] using hfl.symm
      · rw [hsp.1.2.2.1]
        simpa [cells4] using hfl.symm
      · rw [hsp.1.2.2.2]
        simpa [cells4] using hfl.symm
    · intro e he
      obtain ⟨k, hk⟩ := List.getElem?_of_mem he
      rw [List.getElem?_ofFn] at hk
      split at hk
      · rename_i hk'
        injection hk with hk
        have hsp := (Classical.choose_spec (each ⟨k, hk'⟩)).2
        rw [hk] at hsp
        exact hsp
      · cases hk
theorem open_C (hv : Value.okWide Tryd.prog W r b0 35 v) (h : DataW.Trod enc Tryd.prog W base spare held 35 v d p) : ∃ c, CodeAt W v c := by
  obtain ⟨cs, rfl, hsz⟩ := okWide_struct Tryd.underlying35 hv
  obtain ⟨l⟩ := cs
  have hC : Tryd.prog.cellsOf 35 = 6 := by kernel_rfl
  have hE : Tryd.prog.cellsOf 33 = 1 := by kernel_rfl
  have hL : Tryd.prog.cellsOf 23 = 1 := by kernel_rfl
  have hI : Tryd.prog.cellsOf 3 = 1 := by kernel_rfl
  match l, hsz.trans hC with
  | [c0, c1, c2, c3, c4, c5], _ =>
    obtain ⟨fuel, hf⟩ := h
    obtain ⟨xs, n, _, hx, _, hlen, hg⟩ := DataW.trod_struct Tryd.underlying35 hf
    match xs, hlen with
    | [y0, y1, y2, y3, y4, y5], _ =>
      have g0 : DataW.trod enc Tryd.prog W base spare held n 33 (List.take (Tryd.prog.cellsOf 33) (List.drop 0 [c0, c1, c2, c3, c4, c5])) = some y0 := hg 0 _ rfl
      rw [hE] at g0
      have g1 : DataW.trod enc Tryd.prog W base spare held n 23 (List.take (Tryd.prog.cellsOf 23) (List.drop 1 [c0, c1, c2, c3, c4, c5])) = some y1 := hg 1 _ rfl
      rw [hL] at g1
      have g2 : DataW.trod enc Tryd.prog W base spare held n 3 (List.take (Tryd.prog.cellsOf 3) (List.drop 2 [c0, c1, c2, c3, c4, c5])) = some y2 := hg 2 _ rfl
      rw [hI] at g2
      have g3 : DataW.trod enc Tryd.prog W base spare held n 3 (List.take (Tryd.prog.cellsOf 3) (List.drop 3 [c0, c1, c2, c3, c4, c5])) = some y3 := hg 3 _ rfl
      rw [hI] at g3
      have g4 : DataW.trod enc Tryd.prog W base spare held n 3 (List.take (Tryd.prog.cellsOf 3) (List.drop 4 [c0, c1, c2, c3, c4, c5])) = some y4 := hg 4 _ rfl
      rw [hI] at g4
      have g5 : DataW.trod enc Tryd.prog W base spare held n 3 (List.take (Tryd.prog.cellsOf 3) (List.drop 5 [c0, c1, c2, c3, c4, c5])) = some y5 := hg 5 _ rfl
      rw [hI] at g5
      obtain ⟨es, q0⟩ := elems_of_trod (v := c0) (x := y0) (by simpa using g0)
      obtain ⟨ls, q1⟩ := ints_of_trod (v := c1) (x := y1) (by simpa using g1)
      obtain ⟨a, q2, _⟩ := DataW.trod_int (cs := [c2]) (x := y2) Tryd.underlying3 (by simpa using g2)
      obtain ⟨b, q3, _⟩ := DataW.trod_int (cs := [c3]) (x := y3) Tryd.underlying3 (by simpa using g3)
      obtain ⟨c, q4, _⟩ := DataW.trod_int (cs := [c4]) (x := y4) Tryd.underlying3 (by simpa using g4)
      obtain ⟨d, q5, _⟩ := DataW.trod_int (cs := [c5]) (x := y5) Tryd.underlying3 (by simpa using g5)
      simp at q2 q3 q4 q5
      subst q2 q3 q4 q5
      exact ⟨⟨es, ls, a, b, c, d⟩, c0, c1, rfl, q0, q1⟩
end
end Go.Proofs.YtfonfekejbmamaaDoor
