/- Contracts of functions that the proof leans on. No condition. -/
import Derived.Test.YtkekpolfdmmgeaaGreatDoorM53ef4c83c6
import Derived.Shelf.Strings.BuilderK
import Derived.Deep.DeepCutAuto
/- Codes: their text, the program's side; the law. -/
namespace Go.Proofs.YtkekpolfdmmgeaaGreatDoor
set_option linter.unusedVariables false
set_option linter.unusedSimpArgs false
set_option linter.unnecessarySimpa false
open Go.RowKit Go.Lib

def nB (zs : List Int) : List ByteArray := zs.map fun n => tx (numL n)
theorem nB_len (zs : List Int) : (nB zs).length = zs.length := by simp [nB]
theorem nB_snoc {zs : List Int} {k n : Nat} (h : zs[k]? = some (n : Int)) : (nB zs).take (k + 1) = (nB zs).take k ++ [numT n] := by
  have e : (nB zs)[k]? = some (numT n) := by
    unfold nB
    rw [List.getElem?_map, h]
    simp [numT, numL]
  exact take_snoc e
def numsT (zs : List Int) : ByteArray := tx (Lib.join (zs.map numL) [32])
theorem nB_join (zs : List Int) : (⟨(Lib.join ((nB zs).map (·.data.toList)) [32]).toArray⟩ : ByteArray) = numsT zs := by
  unfold nB numsT
  rw [List.map_map]
  rfl
theorem lineL_txt {w : List UInt8} {l : List Int} (h : l ≠ []) : lineL w l = w ++ [32] ++ Lib.join (l.map numL) [32] := by
  unfold lineL
  cases l with
  | nil => exact absurd rfl h
  | cons n t =>
    rw [List.map_cons, join_cons, join_cons]
    simp [joinTail]
theorem line_parts {w : List UInt8} {l : List Int} (h : l ≠ []) : tx w ++ ⟨#[32]⟩ ++ numsT l ++ ⟨#[10]⟩ = tx (lineL w l ++ [10]) := by
  rw [lineL_txt h]
  unfold numsT
  show tx w ++ tx [32] ++ tx _ ++ tx [10] = _
  rw [tx_app, tx_app, tx_app]
theorem numsT_le {l : List Int} (h : l ≠ []) (hz : Smalls l) : (numsT l).size ≤ 11 * l.length := by
  have h1 := lineL_len (w := []) hz l.length (Nat.le_refl _)
  rw [List.take_length, lineL_txt h, List.length_append] at h1
  unfold numsT
  rw [tx_size]
  simp at h1
  omega
theorem some_lt {w : World} {b : Nat} {o : Obj} (h : w.heap[b]? = some o) : b < w.heap.size := (Array.getElem?_eq_some_iff.1 h).1
theorem isB_kept' {T e : TypeId} {B b : Nat} {bs : List Value} {w w' : World} (h : IsBuilderF T e B b bs w) (k : Kept w w') : IsBuilderF T e B b bs w' := by
  have go : ∀ p, BuilderAtF T e B b p bs w → BuilderAtF T e B b p bs w' := fun p hp => by
    obtain ⟨h1, v, h2, h3, h4⟩ := hp
    refine ⟨h1, v, (k.block b (some_lt h2)).trans h2, ⟨h3.1, ?_⟩, h4⟩
    rcases h3.2 with hn | ⟨g, cap, cur, fz, e1, hb, hg, rest⟩
    · exact .inl hn
    · exact .inr ⟨g, cap, cur, fz, e1, hb, (k.block g (some_lt hg)).trans hg, rest⟩
  exact h.elim (fun x => .inl (go _ x)) (fun x => .inr (go _ x))
theorem Box.others {w w' : World} {b q : Nat} {t e : TypeId} {cs : Array Value} (h : Box w b t cs) (k : OthersKept e (Option.some q) w w') (hb : b ≠ q) (ht : t ≠ e) : Box w' b t cs :=
  k b _ h (fun hh => hb (Option.some.inj hh)) (fun c fz hh => by injection hh with _ hh _; exact ht hh)
theorem Kept.belowK {B : Nat} {w a b : World} (h : Kept w a) (k : Below B a b) (hB : w.heap.size ≤ B) : Kept w b := Below.trans h (k.mono hB)
theorem Box.belowB {B : Nat} {w w' : World} {b : Nat} {t : TypeId} {cs : Array Value} (h : Box w b t cs) (k : Below B w w') (hb : b < B) : Box w' b t cs := (k.block b hb).trans h
set_option maxRecDepth 100000 in
set_option maxHeartbeats 16000000 in
theorem numbersText_any (v : Value) (zs : List Int) (w : World) (h : Ints w v zs) (hz : Smalls zs) (hl : zs.length ≤ 1000) (hne : zs ≠ []) (ht : HasTab w) :
    Calls Tryz.prog 49 #[v] w fun e w' => e = .returned (.string (numsT zs)) ∧ Kept w w' := by
  obtain ⟨A, c, rfl, hnc, hcm, hA⟩ := h.out
  unfold maxLen at hcm
  have HA := Lib.hid hA
  have HZ := Lib.hid hz
  have HT := Lib.hid ht
  have HNL := Lib.hid (nB_len zs)
  have HNS := Lib.hid (numsT_le hne hz)
  clear hA h hz ht hne
  go_enter Tryz.func49, Tryz.ntmps49
  go_wp2_with fail
  go_loopw [3, 9] (fun s3 s9 wr => ∃ k : Nat, k ≤ zs.length ∧ s9 = .int .i64 k ∧ OwnS wr w.heap.size s3 ((nB zs).take k) ∧ s3.ownBlock ≠ none ∧ Kept w wr) (fun _ i _ => zs.length - (RowKit.intOf i).toNat)
  case atStart => exact ⟨0, Nat.zero_le _, rfl, by rw [List.take_zero]; exact ⟨own_made _ _ 1 (Nat.le_refl _) (Box.new _ _ _ _ rfl), fun _ h => by cases h⟩, (fun h => by cases h), (Kept.refl _).alloc _⟩
  case round =>
    obtain ⟨k, hk, rfl, ho, hnn, hkept⟩ := hrel
    by_cases hlt : k < zs.length
    · obtain ⟨b, o, z, rfl, hbb, hzk, hc⟩ := ints_at (HA.out.kept hkept) hlt
      obtain ⟨hz0, hz1⟩ := HZ.out z (List.mem_of_getElem? hzk)
      obtain ⟨n, rfl⟩ : ∃ n : Nat, z = (n : Int) := ⟨z.toNat, by omega⟩
      have C := Lib.hid (itoa_any n wr (HT.out.kept hkept) (by omega))
      have HSN := Lib.hid (nB_snoc hzk)
      have HO := Lib.hid ho
      have HNN := Lib.hid hnn
      have HWZ : Hid ((numT n).size ≤ maxLen) := Lib.hid (by have := numT_len (n := n) (by omega); unfold maxLen; omega)
      have hwl : ((nB zs).take k).length ≤ 1000 := by rw [List.length_take, HNL.out]; omega
      clear hzk ho hnn
      generalize numT n = z at C HSN HWZ
      go_wp2_with fail
      with_reducible refine (C.out).mono ?_
      rintro e w1 ⟨rfl, k1⟩
      have sz1 := k1.size
      go_wp2_with (at_builtin; refine wpList_append_SL _ rfl _ _ rfl w.heap.size _ ((nB zs).take k) rfl ((HO.out.kept k1).kept ((Kept.refl _).alloc _)) _ [z] rfl (strs_box1 (Box.new _ _ _ _ rfl) HWZ.out) (by simp only [List.length_cons, List.length_nil]; omega) (by have := hkept.size; simp; omega) ?_; intro v3 w3 o3 g3 n3)
      have k3 := ((hkept.trans k1).alloc (.cells #[.string z] 9)).grew ((HO.out.kept k1).kept ((Kept.refl _).alloc _)).1 g3 (Nat.le_refl _)
      have N3 : Hid (v3.ownBlock ≠ none) := Lib.hid (n3 HNN.out)
      rw [← HSN.out] at o3
      have O3 := Lib.hid o3
      clear o3 n3 g3
      go_wp2_with fail
      go_roundw
      case rel => exact ⟨k + 1, by omega, by go_num, O3.out, N3.out, k3⟩
      case measure => simp [RowKit.intOf]; omega
    · obtain rfl : k = zs.length := by omega
      rw [List.take_of_length_le (by rw [HNL.out]; exact Nat.le_refl _)] at ho
      rcases ownS_cases ho with ⟨rfl, _⟩ | ⟨g, cap, rfl, hcap1, hcap2⟩
      · exact absurd rfl hnn
      have hg1 : g < wr.heap.size := own_lt ho.1
      have HJ := Lib.hid (nB_join zs)
      have hjl : (Lib.join ((nB zs).map (·.data.toList)) [32]).length ≤ 140737488355328 := by
        have e : tx (Lib.join ((nB zs).map (·.data.toList)) [32]) = numsT zs := HJ.out
        have e2 := congrArg ByteArray.size e
        rw [tx_size] at e2
        have e3 := HNS.out
        omega
      have hwl := HNL.out
      have hcl : ∀ (j : Nat) x, (nB zs)[j]? = some x → wr.cell? ⟨g, 0 + j, none⟩ = some (.string x) := fun j x hx => by
        obtain ⟨hj, e⟩ := List.getElem?_eq_some_iff.1 hx
        have hh := holds_own (enc := Value.string) ho.1 j (by simpa using hj)
        simp only [List.getElem!_toArray] at hh
        rw [hh.1]
        simp [hx]
      have cj := ((Tryz.strings_Join g 0 cap (nB zs) ⟨#[32]⟩ wr hcl hg1 (by omega) hcap1 hjl).mono (fun e w' hh => (⟨hh.1.trans (ret_str HJ.out), hh.2⟩ : e = .returned (.string (numsT zs)) ∧ Kept wr w')))
      rw [hwl] at cj
      have CJ := Lib.hid cj
      clear cj ho hnn hjl hcap1 hcap2
      go_wp2_with fail
      with_reducible refine (CJ.out).mono ?_
      rintro e w1 ⟨rfl, k1⟩
      go_wp2_with fail
      go_ret
      exact ⟨rfl, hkept.trans k1⟩
theorem elemL_parts (y : ElemD) : y.name ++ ⟨#[32]⟩ ++ numsT [y.family, y.level, y.base] ++ ⟨#[10]⟩ = tx (elemL y ++ [10]) := by
  have h := line_parts (w := y.name.data.toList) (l := [y.family, y.level, y.base]) (by simp)
  rw [tx_of] at h
  exact h
theorem bytes_snoc (a b : List UInt8) : Lib.byteCells a ++ strCells (tx b) = Lib.byteCells (a ++ b) := by
  rw [Lib.strCells_eq, ← Lib.byteCells_append]
  rfl
set_option maxRecDepth 100000 in
set_option maxHeartbeats 16000000 in
theorem implCodeText_any (v : Value) (x : CodeD) (w : World) (h : CodeAt w v x) (ht : HasTab w) :
    Calls Tryz.prog 6 #[v] w fun e w' => e = .returned (.tuple #[.string (ctV x), .bool (codeB x)]) ∧ Kept w w' := by
  have HI := Lib.hid h
  have HT := Lib.hid ht
  obtain ⟨nv, mv, rfl, q1, q2⟩ := h
  obtain ⟨A, c, rfl, hnc, hcm, hA⟩ := q1.1.out
  obtain ⟨D, d, rfl, hnd, hdm, _⟩ := q2.out
  unfold maxLen at hcm hdm
  have HA := Lib.hid hA
  have H2 := Lib.hid q2
  clear q1 q2 hA ht
  go_enter Tryz.func6, Tryz.ntmps6
  have B0 := Box.new w w.heap.size 26 #[.slice A x.elems.length c, .slice D x.limits.length d, .int .i64 x.repeats, .int .i64 x.bonus, .int .i64 x.keeps, .int .i64 x.fall] rfl
  have K0 : Kept w (w.alloc (.cells #[.slice A x.elems.length c, .slice D x.limits.length d, .int .i64 x.repeats, .int .i64 x.bonus, .int .i64 x.keeps, .int .i64 x.fall] 26)) := (Kept.refl w).alloc _
  obtain ⟨x0, y0⟩ := B0.six
  go_upto_region 1 with (fail)
  obtain ⟨w0, hw0⟩ : ∃ u : World, u = w.alloc (.cells #[.slice A x.elems.length c, .slice D x.limits.length d, .int .i64 x.repeats, .int .i64 x.bonus, .int .i64 x.keeps, .int .i64 x.fall] 26) := ⟨_, rfl⟩
  rw [← hw0] at B0 K0 x0 y0 ⊢
  clear hw0
  have sz0 := B0.lt
  go_wp2_with fail
  clear x0 y0
  refine (isCode_any _ x _ (HI.out.kept K0)).mono ?_
  rintro e w1 ⟨rfl, k1⟩
  have K1 := K0.trans k1
  have sz1 := k1.size
  replace B0 := B0.kept k1
  by_cases hb : codeB x = true
  case neg =>
    simp only [Bool.not_eq_true] at hb
    have HB := Lib.hid hb
    rw [hb]
    clear hb
    go_wp2_with fail
    go_ret2
    exact ⟨ret_sb (ctV_no HB.out).symm HB.out.symm, K1⟩
  have HB := Lib.hid hb
  obtain ⟨s1, s2, s3, s4, s5⟩ := code_small hb
  have hp0 := cdPre_len hb 0 (by omega)
  have HPL := Lib.hid (cdPre_len hb)
  rw [hb]
  clear hb
  have S2 := Lib.hid s2
  have S5 := Lib.hid s5
  have S3 := Lib.hid s3
  have HP0 := Lib.hid (cdPre_zero x)
  have HBU0 := Lib.hid (IsBuilderF.of (fresh_isBuilder 75 5 w1))
  have hn1 := numsT_le (l := [x.repeats, x.bonus, x.keeps, x.fall]) (by simp) s1
  have hn2 := numsT_le (l := x.limits) (by intro e; rw [e] at s3; simp at s3) s2
  have HL1 : Hid (⟨#[99, 111, 100, 101, 32]⟩ ++ numsT [x.repeats, x.bonus, x.keeps, x.fall] ++ ⟨#[10]⟩ = tx (headL x ++ [10])) := Lib.hid (line_parts (w := codeW) (by simp))
  have HL2 : Hid (⟨#[108, 105, 109, 105, 116, 115, 32]⟩ ++ numsT x.limits ++ ⟨#[10]⟩ = tx (limL x ++ [10])) := Lib.hid (line_parts (w := limitsW) (by intro e; rw [e] at s3; simp at s3))
  have CN1 : Hid (∀ (W : World) (g : Nat), HasTab W → Box W g 3 #[.int .i64 x.repeats, .int .i64 x.bonus, .int .i64 x.keeps, .int .i64 x.fall] → Calls Tryz.prog 49 #[.slice (some ⟨g, 0, none⟩) 4 4] W fun e w' => e = .returned (.string (numsT [x.repeats, x.bonus, x.keeps, x.fall])) ∧ Kept W w') := Lib.hid (fun W g hT hB => numbersText_any _ [x.repeats, x.bonus, x.keeps, x.fall] W (ints4 hB) s1 (by simp) (by simp) hT)
  have CN2 : Hid (∀ (W : World), HasTab W → Kept w W → Calls Tryz.prog 49 #[.slice D x.limits.length d] W fun e w' => e = .returned (.string (numsT x.limits)) ∧ Kept W w') := Lib.hid (fun W hT hk => numbersText_any _ x.limits W (H2.out.kept hk) S2.out (by have := S3.out; omega) (by intro e; have := S3.out; rw [e] at this; simp at this) hT)
  clear s1 s2 s3 s5
  have hn1' : (numsT [x.repeats, x.bonus, x.keeps, x.fall]).size ≤ 44 := hn1
  have e5 : (⟨#[99, 111, 100, 101, 32]⟩ : ByteArray).size = 5 := rfl
  have e7 : (⟨#[108, 105, 109, 105, 116, 115, 32]⟩ : ByteArray).size = 7 := rfl
  have e1 : (⟨#[10]⟩ : ByteArray).size = 1 := rfl
  have hn2' : (numsT x.limits).size ≤ 55 := by have := S3.out; omega
  have A1 := Lib.hid (cat_run (x := ⟨#[99, 111, 100, 101, 32]⟩) (y := numsT [x.repeats, x.bonus, x.keeps, x.fall]) rfl (by omega))
  have A2 := Lib.hid (cat_run HL1.out (by rw [ByteArray.size_append]; omega))
  have A3 := Lib.hid (cat_run (x := ⟨#[108, 105, 109, 105, 116, 115, 32]⟩) (y := numsT x.limits) rfl (by omega))
  have A4 := Lib.hid (cat_run HL2.out (by rw [ByteArray.size_append]; omega))
  have HS1 : Hid ((tx (headL x ++ [10])).size ≤ 50) := Lib.hid (by rw [← HL1.out, ByteArray.size_append, ByteArray.size_append]; omega)
  have HS2 : Hid ((tx (limL x ++ [10])).size ≤ 63) := Lib.hid (by rw [← HL2.out, ByteArray.size_append, ByteArray.size_append]; omega)
  have HW : Hid (∀ (W : World) (bs : List UInt8) (b : List UInt8), w1.heap.size ≤ W.heap.size → bs.length ≤ 100000 → b.length ≤ 1000 → IsBuilderF 75 5 w1.heap.size w1.heap.size (Lib.byteCells bs) W → Calls Tryz.prog 48 #[.pointer (some ⟨w1.heap.size, 0, none⟩), .string (tx b)] W fun e w' => (∃ z, e = .returned (.tuple #[.int .i64 z, .nilIface])) ∧ IsBuilderF 75 5 w1.heap.size w1.heap.size (Lib.byteCells (bs ++ b)) w' ∧ Below w1.heap.size W w' ∧ OthersKept 5 (some w1.heap.size) W w') := Lib.hid (fun W bs b h1 h2 h3 h4 => (Any.Builder_WriteString_k Tryz.b166 Tryz.bX w1.heap.size w1.heap.size (Lib.byteCells bs) (tx b) W h4 (by rw [Lib.byteCells_length, tx_size]; omega) h1).mono (fun e w' hh => ⟨⟨_, hh.1⟩, by have := hh.2.1; rw [bytes_snoc] at this; exact .inr this, hh.2.2.1, hh.2.2.2⟩))
  have HH : Hid (cdPre x 0 = (headL x ++ [10]) ++ (limL x ++ [10])) := Lib.hid (by simp [cdPre, ended])
  have hl1 : (headL x ++ [10]).length ≤ 50 := by rw [← tx_size]; exact HS1.out
  have hl2 : (limL x ++ [10]).length ≤ 63 := by rw [← tx_size]; exact HS2.out
  obtain ⟨p, hp⟩ : ∃ p, p = w1.heap.size := ⟨_, rfl⟩
  rw [← hp] at HBU0 HW
  have hpl : p ≤ w1.heap.size := by omega
  have hpg : w.heap.size < p := by omega
  have KS0 : w1.heap.size < (w1.alloc (.cells #[.pointer none, .slice none 0 0] 75)).heap.size := by simp
  have KA0 : Kept w1 (w1.alloc (.cells #[.pointer none, .slice none 0 0] 75)) := (Kept.refl w1).alloc _
  obtain ⟨x0, y0⟩ := (B0.kept KA0).six
  have a1 := A1.out
  have a2 := A2.out
  go_upto_region 4 with (fail)
  rw [← hp]
  clear hp
  obtain ⟨wa, hwa⟩ : ∃ u : World, u = w1.alloc (.cells #[.pointer none, .slice none 0 0] 75) := ⟨_, rfl⟩
  rw [← hwa] at HBU0 KA0 KS0 x0 y0 ⊢
  clear hwa
  have sza := KA0.size
  have HT4 : Hid (HasTab (wa.alloc (.cells #[.int .i64 x.repeats, .int .i64 x.bonus, .int .i64 x.keeps, .int .i64 x.fall] 3))) := Lib.hid (HT.out.kept ((K1.trans KA0).alloc _))
  have B4 : Box (wa.alloc (.cells #[.int .i64 x.repeats, .int .i64 x.bonus, .int .i64 x.keeps, .int .i64 x.fall] 3)) wa.heap.size 3 #[.int .i64 x.repeats, .int .i64 x.bonus, .int .i64 x.keeps, .int .i64 x.fall] := Box.new _ _ _ _ rfl
  go_wp2_with fail
  with_reducible refine (CN1.out _ _ HT4.out B4).mono ?_
  rintro e w2 ⟨rfl, k2⟩
  have ka2 : Kept wa w2 := ((Kept.refl wa).alloc _).trans k2
  have sz2 := ka2.size
  clear x0 y0
  have C2 := Lib.hid (HW.out w2 [] (headL x ++ [10]) (by omega) (by simp) (by omega) (isB_kept' HBU0.out ka2))
  go_wp2_with fail
  with_reducible refine (C2.out).mono ?_
  rintro e w3 ⟨⟨z, rfl⟩, bu3, bel3, _⟩
  have B03 := (B0.kept (KA0.trans ka2))
  have K3 : Kept w w3 := ((K1.trans KA0).trans ka2).belowK bel3 (by omega)
  replace B03 := B03.belowB bel3 (by omega)
  have sz3 := bel3.size
  have BU3 := Lib.hid bu3
  clear a1 a2 bu3 C2 bel3
  obtain ⟨x0, y0⟩ := B03.six
  have a3 := A3.out
  have a4 := A4.out
  go_wp2_with fail
  with_reducible refine (CN2.out _ (HT.out.kept K3) K3).mono ?_
  rintro e w4 ⟨rfl, k4⟩
  have sz4 := k4.size
  clear x0 y0
  have C4 := Lib.hid (HW.out w4 ([] ++ (headL x ++ [10])) (limL x ++ [10]) (by omega) (by rw [List.nil_append]; omega) (by omega) (isB_kept' BU3.out k4))
  go_wp2_with fail
  with_reducible refine (C4.out).mono ?_
  rintro e w5 ⟨⟨z2, rfl⟩, bu5, bel5, _⟩
  have K5 : Kept w w5 := (K3.trans k4).belowK bel5 (by omega)
  have B05 := (B03.kept k4).belowB bel5 (by omega)
  have sz5 := bel5.size
  rw [List.nil_append, ← HH.out] at bu5
  have BU5 := Lib.hid bu5
  have KW := Lib.hid K5
  clear a3 a4 bu5 C4 bel5
  obtain ⟨x0, y0⟩ := B05.six
  go_wp2_with fail
  clear x0 y0
  go_loopw [32] (fun s32 wr => ∃ k : Nat, k ≤ x.elems.length ∧ s32 = .int .i64 k ∧ IsBuilderF 75 5 p p (Lib.byteCells (cdPre x k)) wr ∧ Kept w wr ∧ p < wr.heap.size) (fun i _ => x.elems.length - (RowKit.intOf i).toNat)
  case atStart => exact ⟨0, Nat.zero_le _, rfl, BU5.out, KW.out, by omega⟩
  case round =>
    obtain ⟨k, hk, rfl, hbu, hkept, szp⟩ := hrel
    have HBU := Lib.hid hbu
    clear hbu
    by_cases hlt : k < x.elems.length
    · obtain ⟨b, o, y, rfl, hb', h2, q0, q1, q2, q3⟩ := elems_at (HA.out.kept hkept) hlt
      have S5y := S5.out y (List.mem_of_getElem? h2)
      have hnm := S5y.1
      have hel := elemL_len S5y.1 S5y.2
      have hpl := HPL.out k hk
      have HSU := Lib.hid (cdPre_succ h2)
      have CN : Hid (∀ (W : World) (g : Nat), HasTab W → Box W g 3 #[.int .i64 y.family, .int .i64 y.level, .int .i64 y.base] → Calls Tryz.prog 49 #[.slice (some ⟨g, 0, none⟩) 3 3] W fun e w' => e = .returned (.string (numsT [y.family, y.level, y.base])) ∧ Kept W w') := Lib.hid (fun W g hT hB => numbersText_any _ [y.family, y.level, y.base] W (ints3 hB) S5y.2 (by simp) (by simp) hT)
      have hn3 : (numsT [y.family, y.level, y.base]).size ≤ 33 := numsT_le (l := [y.family, y.level, y.base]) (by simp) S5y.2
      have HLE := Lib.hid (elemL_parts y)
      have e1' : (⟨#[32]⟩ : ByteArray).size = 1 := rfl
      have E1 := Lib.hid (cat_run (x := y.name) (y := ⟨#[32]⟩) rfl (by omega))
      have E2 := Lib.hid (cat_run (x := y.name ++ ⟨#[32]⟩) (y := numsT [y.family, y.level, y.base]) rfl (by rw [ByteArray.size_append]; omega))
      have E3 := Lib.hid (cat_run HLE.out (by rw [ByteArray.size_append, ByteArray.size_append]; omega))
      have CW : Hid (∀ W : World, Kept wr W → Calls Tryz.prog 48 #[.pointer (some ⟨p, 0, none⟩), .string (tx (elemL y ++ [10]))] W fun e w' => (∃ z, e = .returned (.tuple #[.int .i64 z, .nilIface])) ∧ IsBuilderF 75 5 p p (Lib.byteCells (cdPre x (k + 1))) w' ∧ Below p W w' ∧ OthersKept 5 (some p) W w') := Lib.hid (fun W hW => by
        have := HW.out W (cdPre x k) (elemL y ++ [10]) (by have := hW.size; omega) (by omega) (by simp; omega) (isB_kept' HBU.out hW)
        rw [← HSU.out] at this
        exact this)
      clear h2 S5y HSU
      have BY := Box.new wr wr.heap.size 31 #[.string y.name, .int .i64 y.family, .int .i64 y.level, .int .i64 y.base] rfl
      have KY : Kept wr (wr.alloc (.cells #[.string y.name, .int .i64 y.family, .int .i64 y.level, .int .i64 y.base] 31)) := (Kept.refl wr).alloc _
      go_upto_region 9 with (fail)
      obtain ⟨wy, hwy⟩ : ∃ u : World, u = wr.alloc (.cells #[.string y.name, .int .i64 y.family, .int .i64 y.level, .int .i64 y.base] 31) := ⟨_, rfl⟩
      rw [← hwy] at BY KY ⊢
      clear hwy
      have szy : wr.heap.size < wy.heap.size := BY.lt
      have BYd : Box wy.drew wr.heap.size 31 #[.string y.name, .int .i64 y.family, .int .i64 y.level, .int .i64 y.base] := BY
      have BYa : Box (wy.alloc (.cells #[.int .i64 y.family, .int .i64 y.level, .int .i64 y.base] 3)).drew wr.heap.size 31 #[.string y.name, .int .i64 y.family, .int .i64 y.level, .int .i64 y.base] := BY.alloc _
      have B3d : Box (wy.alloc (.cells #[.int .i64 y.family, .int .i64 y.level, .int .i64 y.base] 3)).drew wy.heap.size 3 #[.int .i64 y.family, .int .i64 y.level, .int .i64 y.base] := Box.new wy _ _ _ rfl
      have KYa : Kept wr (wy.alloc (.cells #[.int .i64 y.family, .int .i64 y.level, .int .i64 y.base] 3)).drew := (KY.alloc _).drew
      have HTa := Lib.hid (HT.out.kept (hkept.trans KYa))
      have a1 := E1.out
      have a2 := E2.out
      have a3 := E3.out
      have hne : wr.heap.size ≠ p := by omega
      have hte : (31 : Nat) ≠ 5 := by decide
      go_region_held3 (fun w' => w'.cell? ⟨wr.heap.size, 0, none⟩ = some (.string y.name) ∧ w'.cell? ⟨wr.heap.size, 1, none⟩ = some (.int .i64 y.family) ∧ w'.cell? ⟨wr.heap.size, 2, none⟩ = some (.int .i64 y.level) ∧ w'.cell? ⟨wr.heap.size, 3, none⟩ = some (.int .i64 y.base)) (first | (with_reducible exact BYd.four.1) | (with_reducible exact BYa.four.1) | (with_reducible exact BY7.out.four.1) | (with_reducible exact (BYa.kept (by assumption)).four.1))
        (first | (go_at_call 49; (with_reducible refine (CN.out _ _ HTa.out B3d).mono ?_); rintro e w6 ⟨rfl, k6⟩) | (go_at_call 48; (with_reducible refine (CW.out _ (KYa.trans k6)).mono ?_); rintro e w7 ⟨⟨z7, rfl⟩, bu7, bel7, ok7⟩; have BY7 := Lib.hid ((BYa.kept k6).others ok7 hne hte)))
      rename_i hheld
      clear hheld
      have BU7 := Lib.hid bu7
      have K7 : Kept w w7 := (hkept.trans (KYa.trans k6)).belowK bel7 (by omega)
      have szp7 : p < w7.heap.size := by have h1 := bel7.size; have h2 := (KYa.trans k6).size; omega
      clear bu7 bel7 ok7 a1 a2 a3 BY BYd BYa B3d
      go_wp2_with fail
      go_roundw
      case rel => exact ⟨k + 1, by omega, by go_num, BU7.out, K7, szp7⟩
      case measure => simp [RowKit.intOf]; omega
    · obtain rfl : k = x.elems.length := by omega
      have HC := Lib.hid (Any.Builder_String_any_k Tryz.lays169 Tryz.Builder_Extra_169 p p (cdPre x x.elems.length) wr HBU.out (by omega))
      have HCA := Lib.hid (cdPre_all x)
      go_wp2_with fail
      refine (HC.out).mono ?_
      rintro e w6 ⟨rfl, _, bel, _⟩
      have k6 : Kept w w6 := hkept.belowK bel (by omega)
      go_wp2_with fail
      go_ret2
      exact ⟨ret_sb (by rw [ctV_yes HB.out, HCA.out]; rfl) HB.out.symm, k6⟩
end Go.Proofs.YtkekpolfdmmgeaaGreatDoor

/- Codes: CodeText, the reference's side and the law. -/
namespace Go.Proofs.YtkekpolfdmmgeaaGreatDoor
set_option linter.unusedVariables false
set_option linter.unusedSimpArgs false
set_option linter.unnecessarySimpa false
open Go.RowKit Go.Lib

set_option maxHeartbeats 2000000 in
theorem specCodeText_any (v : Value) (x : CodeD) (w : World) (h : CodeAt w v x) :
    Calls Tryz.prog 7 #[v] w fun e w' => e = .returned (.tuple #[.string (ctV x), .bool (codeB x)]) ∧ Kept w w' := by
  have HI := Lib.hid h
  obtain ⟨nv, mv, rfl, q1, q2⟩ := h
  obtain ⟨A, c, rfl, _⟩ := q1.1.out
  obtain ⟨D, d, rfl, _⟩ := q2.out
  clear q1 q2
  go_enter Tryz.func7, Tryz.ntmps7
  have B0 := Box.new w w.heap.size 26 #[.slice A x.elems.length c, .slice D x.limits.length d, .int .i64 x.repeats, .int .i64 x.bonus, .int .i64 x.keeps, .int .i64 x.fall] rfl
  have K0 : Kept w (w.alloc (.cells #[.slice A x.elems.length c, .slice D x.limits.length d, .int .i64 x.repeats, .int .i64 x.bonus, .int .i64 x.keeps, .int .i64 x.fall] 26)) := (Kept.refl w).alloc _
  obtain ⟨x0, y0⟩ := B0.six
  go_upto_region 1 with (fail)
  obtain ⟨w0, hw0⟩ : ∃ u : World, u = w.alloc (.cells #[.slice A x.elems.length c, .slice D x.limits.length d, .int .i64 x.repeats, .int .i64 x.bonus, .int .i64 x.keeps, .int .i64 x.fall] 26) := ⟨_, rfl⟩
  rw [← hw0] at B0 K0 x0 y0 ⊢
  clear hw0
  go_wp2_with fail
  clear x0 y0
  refine (cdGood_any _ x _ (HI.out.kept K0)).mono ?_
  rintro e w1 ⟨rfl, k1⟩
  have kk := K0.trans k1
  obtain ⟨x1, y1⟩ := (B0.kept k1).six
  by_cases hb : codeB x = true
  · have HB := Lib.hid hb
    rw [hb]
    clear hb
    go_wp2_with fail
    refine (cdText_any _ x _ (HI.out.kept kk) HB.out).mono ?_
    rintro e w2 ⟨rfl, k2⟩
    go_wp2_with fail
    go_ret2
    exact ⟨ret_sb (ctV_yes HB.out).symm HB.out.symm, kk.trans k2⟩
  · simp only [Bool.not_eq_true] at hb
    have HB := Lib.hid hb
    rw [hb]
    clear hb
    go_wp2_with fail
    go_ret2
    exact ⟨ret_sb (ctV_no HB.out).symm HB.out.symm, kk⟩
end Go.Proofs.YtkekpolfdmmgeaaGreatDoor

/- Texts: numerals read, a text split: the reference's and the program's. -/
namespace Go.Proofs.YtkekpolfdmmgeaaGreatDoor
set_option linter.unusedVariables false
set_option linter.unusedSimpArgs false
set_option linter.unnecessarySimpa false
open Go.RowKit Go.Lib

theorem dval_lt' (l : List UInt8) (h : l.all isDg = true) : dval l < 10 ^ l.length := by
  induction l using snocInd with
  | h0 => decide
  | h1 l b ih =>
    rw [List.all_append] at h
    simp at h
    have hb := (isDg_iff b).1 h.2
    have := ih (by simpa using h.1)
    rw [dval_snoc, List.length_append, List.length_singleton, Nat.pow_succ]
    omega
theorem dval_take {s : ByteArray} {k m : Nat} (hk : k ≤ m) (hm : m ≤ 12) (h : (s.data.toList.take k).all isDg = true) : dval (s.data.toList.take k) < 1000000000000 := by
  have h1 := dval_lt' _ h
  have h2 : (s.data.toList.take k).length ≤ 12 := by rw [List.length_take]; omega
  exact Nat.lt_of_lt_of_le h1 (Nat.pow_le_pow_right (by decide) h2)
def ntB (k : Nat) (s : ByteArray) : Bool := (readNum k s.data.toList).isSome
def ntV (k : Nat) (s : ByteArray) : Int := ((readNum k s.data.toList).getD 0 : Nat)
theorem nt_none {k : Nat} {s : ByteArray} (h : readNum k s.data.toList = none) : (0 : Int) = ntV k s ∧ false = ntB k s := by unfold ntV ntB; rw [h]; exact ⟨rfl, rfl⟩
theorem nt_some {k : Nat} {s : ByteArray} {n : Nat} (h : readNum k s.data.toList = some n) : (n : Int) = ntV k s ∧ true = ntB k s := by unfold ntV ntB; rw [h]; exact ⟨rfl, rfl⟩
theorem rn_big {k : Nat} {l : List UInt8} (h : l.length = 0 ∨ k < l.length) : readNum k l = none := by
  unfold readNum
  rw [if_pos]
  rcases h with h | h
  · exact .inl h
  · exact .inr (.inl h)
theorem rn_zero {k : Nat} {l : List UInt8} (h : 1 < l.length) (h0 : l[0]? = some 48) : readNum k l = none := by
  unfold readNum
  rw [if_pos]
  exact .inr (.inr (.inl ⟨h, by rw [List.head?_eq_getElem?, h0]⟩))
theorem rn_bad {k j : Nat} {l : List UInt8} {b : UInt8} (h : l[j]? = some b) (hb : isDg b = false) : readNum k l = none := by
  unfold readNum
  rw [if_pos]
  refine .inr (.inr (.inr ?_))
  rw [Bool.eq_false_iff]
  intro ha
  have := List.all_eq_true.1 ha b (List.mem_of_getElem? h)
  rw [hb] at this
  cases this
theorem rn_ok {k : Nat} {l : List UInt8} (h1 : 0 < l.length) (h2 : l.length ≤ k) (h3 : 1 < l.length → l[0]? ≠ some 48) (h4 : l.all isDg = true) : readNum k l = some (dval l) := by
  unfold readNum
  rw [if_neg]
  rintro (h | h | ⟨a, b⟩ | h)
  · omega
  · omega
  · rw [List.head?_eq_getElem?] at b; exact h3 a b
  · rw [h4] at h; cases h
theorem dg_of {b : UInt8} (h1 : 48 ≤ b.toNat) (h2 : b.toNat ≤ 57) : isDg b = true := (isDg_iff b).2 ⟨h1, h2⟩
theorem dg_not {b : UInt8} (h : b.toNat < 48 ∨ 57 < b.toNat) : isDg b = false := by
  rw [Bool.eq_false_iff]
  intro hb
  have := (isDg_iff b).1 hb
  omega
theorem dv_snoc {l : List UInt8} {k : Nat} {b : UInt8} (h : l[k]? = some b) : dval (l.take (k + 1)) = 10 * dval (l.take k) + (b.toNat - 48) := by
  rw [take_snoc h, dval_snoc]
theorem ret_ibT {a a' : Int} {b b' : Bool} (h : a = a' ∧ b = b') : Ending.returned (.tuple #[.int .i64 a, .bool b]) = .returned (.tuple #[.int .i64 a', .bool b']) := by rw [h.1, h.2]
theorem ret_i {a a' : Int} (h : a = a') : Ending.returned (.int .i64 a) = .returned (.int .i64 a') := by rw [h]
theorem byte3 (c : Nat) : c < 48 ∨ 57 < c ∨ (48 ≤ c ∧ c ≤ 57) := by omega
theorem ne_zero {s : ByteArray} (h : s ≠ ⟨#[]⟩) : 0 < s.size := by
  rcases Nat.eq_zero_or_pos s.size with h0 | h0
  · exact absurd (ByteArray.ext (Array.eq_empty_of_size_eq_zero h0)) h
  · exact h0
/-- what a reading of at most k digits gives: the number, or -1 -/
def rdV (k : Nat) (s : ByteArray) : Int := match readNum k s.data.toList with | none => -1 | some n => (n : Int)
theorem rd_none {k : Nat} {s : ByteArray} (h : readNum k s.data.toList = none) : (-1 : Int) = rdV k s := by unfold rdV; rw [h]
theorem rd_some {k : Nat} {s : ByteArray} {n : Nat} (h : readNum k s.data.toList = some n) : (n : Int) = rdV k s := by unfold rdV; rw [h]
set_option maxHeartbeats 4000000 in
theorem natural_any (s : ByteArray) (w : World) (hs : s.size ≤ maxLen) :
    Calls Tryz.prog 151 #[.string s] w fun e w' => e = .returned (.tuple #[.int .i64 (ntV 12 s), .bool (ntB 12 s)]) ∧ w = w' := by
  unfold maxLen at hs
  have hlen : s.data.toList.length = s.size := by rw [size_eq]
  have HL := Lib.hid hlen
  clear hlen
  by_cases h0 : s = ⟨#[]⟩
  · subst h0
    go_enter Tryz.func151, Tryz.ntmps151
    go_wp2
    go_ret2
    exact ⟨ret_ibT <| nt_none (rn_big (.inl rfl)), rfl⟩
  have hp := ne_zero h0
  have he : s.toList.isEmpty = false := by
    rw [toList_data]
    cases hq : s.data.toList with
    | nil => have := HL.out; rw [hq] at this; simp at this; omega
    | cons _ _ => rfl
  by_cases hk : 12 < s.size
  · go_enter Tryz.func151, Tryz.ntmps151
    go_wp2
    go_ret2
    exact ⟨ret_ibT <| nt_none (rn_big (.inr (by rw [HL.out]; exact hk))), rfl⟩
  have HZ0 := Lib.hid (byte_get s 0 hp)
  by_cases h1 : 1 < s.size ∧ s[0].toNat = 48
  · obtain ⟨h1, h2⟩ := h1
    have hq : ((s[0].toNat : Int) == 48) = true := (by rw [beq_iff_eq]; omega)
    go_enter Tryz.func151, Tryz.ntmps151
    go_wp2
    go_ret2
    exact ⟨ret_ibT <| nt_none (rn_zero (by rw [HL.out]; exact h1) (by rw [HZ0.out]; exact congrArg some (UInt8.toNat_inj.1 h2))), rfl⟩
  have H3 : Hid (1 < s.data.toList.length → s.data.toList[0]? ≠ some 48) := Lib.hid (fun a b => h1 ⟨by rw [← HL.out]; exact a, by rw [HZ0.out] at b; rw [Option.some.inj b]; rfl⟩)
  have hcase : (s.size < 2 ∧ s[0].toNat < 48) ∨ (s.size < 2 ∧ s[0].toNat = 48) ∨ (s.size < 2 ∧ 48 < s[0].toNat) ∨ (1 < s.size ∧ s[0].toNat < 48) ∨ (1 < s.size ∧ 48 < s[0].toNat) := by omega
  clear h1
  rcases hcase with ⟨h1, h2⟩ | ⟨h1, h2⟩ | ⟨h1, h2⟩ | ⟨h1, h2⟩ | ⟨h1, h2⟩
  all_goals
    first
      | have hq : ((s[0].toNat : Int) == 48) = false := (by rw [beq_eq_false_iff_ne]; omega)
      | have hq : ((s[0].toNat : Int) == 48) = true := (by rw [beq_iff_eq]; omega)
    go_enter Tryz.func151, Tryz.ntmps151
    go_wp2
    go_loop [4, 5] (fun n i => ∃ k : Nat, k ≤ s.size ∧ i = .int .i64 k ∧ n = .int .i64 (dval (s.data.toList.take k) : Nat) ∧ (s.data.toList.take k).all isDg = true) (fun _ i => s.size - (RowKit.intOf i).toNat)
    case atStart => exact ⟨0, Nat.zero_le _, rfl, rfl, rfl⟩
    case round =>
      obtain ⟨k, hk2, rfl, rfl, ha⟩ := hrel
      have hv := dval_take hk2 (by omega) ha
      have HA := Lib.hid ha
      clear ha
      by_cases hlt : k < s.size
      · have HZ := Lib.hid (byte_get s k hlt)
        have HD := Lib.hid (dv_snoc HZ.out)
        have hlt' : (k : Int) < (s.size : Int) := by omega
        rcases byte3 s[k].toNat with hc | hc | hc
        · generalize dval (s.data.toList.take k) = v at *
          go_wp2
          go_ret2
          exact ⟨ret_ibT <| nt_none (rn_bad HZ.out (dg_not (.inl hc))), rfl⟩
        · generalize dval (s.data.toList.take k) = v at *
          go_wp2
          go_ret2
          exact ⟨ret_ibT <| nt_none (rn_bad HZ.out (dg_not (.inr hc))), rfl⟩
        · generalize dval (s.data.toList.take k) = v at *
          go_wp2
          go_round
          case rel => exact ⟨k + 1, by omega, by go_num, by rw [HD.out]; go_num, all_snoc HZ.out HA.out (dg_of hc.1 hc.2)⟩
          case measure => simp [RowKit.intOf]; omega
      · obtain rfl : k = s.size := by omega
        have e : s.data.toList.take s.size = s.data.toList := List.take_of_length_le (by rw [HL.out]; exact Nat.le_refl _)
        rw [e] at HA hv ⊢
        have HE := Lib.hid (rn_ok (k := 12) (by rw [HL.out]; omega) (by rw [HL.out]; omega) H3.out HA.out)
        generalize dval s.data.toList = v at *
        go_wp2
        go_ret2
        exact ⟨ret_ibT <| nt_some HE.out, rfl⟩
set_option maxHeartbeats 4000000 in
theorem l1Read_any (s : ByteArray) (w : World) (hs : s.size ≤ maxLen) :
    Calls Tryz.prog 109 #[.string s] w fun e w' => e = .returned (.int .i64 (rdV 6 s)) ∧ w = w' := by
  unfold maxLen at hs
  have hlen : s.data.toList.length = s.size := by rw [size_eq]
  have HL := Lib.hid hlen
  clear hlen
  by_cases h0 : s = ⟨#[]⟩
  · subst h0
    have HI : Hid (inB 0 1 6 = false) := Lib.hid rfl
    go_enter Tryz.func109, Tryz.ntmps109
    go_wp2_with (go_at_call 100; refine (l1In_any _ _ _ _).mono ?_; rintro e w' ⟨rfl, rfl⟩; rw [HI.out])
    go_ret
    exact ⟨ret_i <| rd_none (rn_big (.inl rfl)), rfl⟩
  have hp := ne_zero h0
  have he : s.toList.isEmpty = false := by
    rw [toList_data]
    cases hq : s.data.toList with
    | nil => have := HL.out; rw [hq] at this; simp at this; omega
    | cons _ _ => rfl
  by_cases hk : 6 < s.size
  · have HI : Hid (inB (s.size : Int) 1 6 = false) := Lib.hid (by unfold inB; simp; omega)
    go_enter Tryz.func109, Tryz.ntmps109
    go_wp2_with (go_at_call 100; refine (l1In_any _ _ _ _).mono ?_; rintro e w' ⟨rfl, rfl⟩; rw [HI.out])
    go_ret
    exact ⟨ret_i <| rd_none (rn_big (.inr (by rw [HL.out]; exact hk))), rfl⟩
  have HI : Hid (inB (s.size : Int) 1 6 = true) := Lib.hid (by unfold inB; simp; omega)
  have HZ0 := Lib.hid (byte_get s 0 hp)
  by_cases h1 : 1 < s.size ∧ s[0].toNat = 48
  · obtain ⟨h1, h2⟩ := h1
    have hq : ((s[0].toNat : Int) == 48) = true := (by rw [beq_iff_eq]; omega)
    go_enter Tryz.func109, Tryz.ntmps109
    go_wp2_with (go_at_call 100; refine (l1In_any _ _ _ _).mono ?_; rintro e w' ⟨rfl, rfl⟩; rw [HI.out])
    go_ret
    exact ⟨ret_i <| rd_none (rn_zero (by rw [HL.out]; exact h1) (by rw [HZ0.out]; exact congrArg some (UInt8.toNat_inj.1 h2))), rfl⟩
  have H3 : Hid (1 < s.data.toList.length → s.data.toList[0]? ≠ some 48) := Lib.hid (fun a b => h1 ⟨by rw [← HL.out]; exact a, by rw [HZ0.out] at b; rw [Option.some.inj b]; rfl⟩)
  have hcase : (s.size < 2 ∧ s[0].toNat < 48) ∨ (s.size < 2 ∧ s[0].toNat = 48) ∨ (s.size < 2 ∧ 48 < s[0].toNat) ∨ (1 < s.size ∧ s[0].toNat < 48) ∨ (1 < s.size ∧ 48 < s[0].toNat) := by omega
  clear h1
  rcases hcase with ⟨h1, h2⟩ | ⟨h1, h2⟩ | ⟨h1, h2⟩ | ⟨h1, h2⟩ | ⟨h1, h2⟩
  all_goals
    first
      | have hq : ((s[0].toNat : Int) == 48) = false := (by rw [beq_eq_false_iff_ne]; omega)
      | have hq : ((s[0].toNat : Int) == 48) = true := (by rw [beq_iff_eq]; omega)
    go_enter Tryz.func109, Tryz.ntmps109
    go_wp2_with (go_at_call 100; refine (l1In_any _ _ _ _).mono ?_; rintro e w' ⟨rfl, rfl⟩; rw [HI.out])
    go_loop [3, 4] (fun n i => ∃ k : Nat, k ≤ s.size ∧ i = .int .i64 k ∧ n = .int .i64 (dval (s.data.toList.take k) : Nat) ∧ (s.data.toList.take k).all isDg = true) (fun _ i => s.size - (RowKit.intOf i).toNat)
    case atStart => exact ⟨0, Nat.zero_le _, rfl, rfl, rfl⟩
    case round =>
      obtain ⟨k, hk2, rfl, rfl, ha⟩ := hrel
      have hv := dval_take hk2 (by omega) ha
      have HA := Lib.hid ha
      clear ha
      by_cases hlt : k < s.size
      · have HZ := Lib.hid (byte_get s k hlt)
        have HD := Lib.hid (dv_snoc HZ.out)
        have hlt' : (k : Int) < (s.size : Int) := by omega
        rcases byte3 s[k].toNat with hc | hc | hc
        · generalize dval (s.data.toList.take k) = v at *
          go_wp2
          go_ret
          exact ⟨ret_i <| rd_none (rn_bad HZ.out (dg_not (.inl hc))), rfl⟩
        · generalize dval (s.data.toList.take k) = v at *
          go_wp2
          go_ret
          exact ⟨ret_i <| rd_none (rn_bad HZ.out (dg_not (.inr hc))), rfl⟩
        · generalize dval (s.data.toList.take k) = v at *
          go_wp2
          go_round
          case rel => exact ⟨k + 1, by omega, by go_num, by rw [HD.out]; go_num, all_snoc HZ.out HA.out (dg_of hc.1 hc.2)⟩
          case measure => simp [RowKit.intOf]; omega
      · obtain rfl : k = s.size := by omega
        have e : s.data.toList.take s.size = s.data.toList := List.take_of_length_le (by rw [HL.out]; exact Nat.le_refl _)
        rw [e] at HA hv ⊢
        have HE := Lib.hid (rn_ok (k := 6) (by rw [HL.out]; omega) (by rw [HL.out]; omega) H3.out HA.out)
        generalize dval s.data.toList = v at *
        go_wp2
        go_ret
        exact ⟨ret_i <| rd_some HE.out, rfl⟩
end Go.Proofs.YtkekpolfdmmgeaaGreatDoor

/- Texts: a text split at a byte, the reference's way. -/
namespace Go.Proofs.YtkekpolfdmmgeaaGreatDoor
set_option linter.unusedVariables false
set_option linter.unusedSimpArgs false
set_option linter.unnecessarySimpa false
open Go.RowKit Go.Lib

theorem splitOn_snoc_ne {b c : UInt8} (hc : c ≠ b) : ∀ {p : List UInt8} {L : List (List UInt8)} {x : List UInt8}, splitOn b p = L ++ [x] → splitOn b (p ++ [c]) = L ++ [x ++ [c]]
  | [], L, x, h => by
    have e : ([[]] : List (List UInt8)) = L ++ [x] := h
    cases L with
    | nil => simp at e; subst e; simp [splitOn, hc]
    | cons y L => simp at e
  | d :: p, L, x, h => by
    by_cases hd : d = b
    · subst hd
      rw [splitOn_cons_eq] at h
      cases L with
      | nil => simp at h; exact absurd h.2 (splitOn_ne _ _)
      | cons y L =>
        simp only [List.cons_append, List.cons.injEq] at h
        obtain ⟨h1, h2⟩ := h
        subst h1
        rw [List.cons_append, splitOn_cons_eq, splitOn_snoc_ne hc h2]
        rfl
    · rw [splitOn_cons_ne hd] at h
      cases hs : splitOn b p with
      | nil => exact absurd hs (splitOn_ne _ _)
      | cons y t =>
        rw [hs, prep] at h
        cases L with
        | nil =>
          simp at h
          obtain ⟨h1, h2⟩ := h
          subst h1 h2
          rw [List.cons_append, splitOn_cons_ne hd, splitOn_snoc_ne (L := []) (x := y) hc (by rw [hs]; rfl)]
          rfl
        | cons z L =>
          simp at h
          obtain ⟨h1, h2⟩ := h
          subst h1 h2
          rw [List.cons_append, splitOn_cons_ne hd, splitOn_snoc_ne (L := y :: L) (x := x) hc (by rw [hs]; rfl)]
          rfl
/-- the piece from a to b -/
def pc (s : ByteArray) (a b : Nat) : List UInt8 := (s.data.toList.take b).drop a
theorem pc_ext (s : ByteArray) (a b : Nat) : s.extract a b = tx (pc s a b) := by
  apply ByteArray.ext
  apply Array.ext'
  unfold pc tx
  simp [List.extract_eq_take_drop, List.drop_take]
theorem pc_size (s : ByteArray) (a b : Nat) (h : b ≤ s.size) : (pc s a b).length = b - a := by
  unfold pc
  rw [List.length_drop, List.length_take, ← size_eq, Nat.min_eq_left h]
theorem pc_snoc {s : ByteArray} {a k : Nat} {c : UInt8} (h : s.data.toList[k]? = some c) (hk : k ≤ s.size) (ha : a ≤ k) : pc s a (k + 1) = pc s a k ++ [c] := by
  unfold pc
  rw [take_snoc h, List.drop_append_of_le_length (by rw [List.length_take, ← size_eq]; omega)]
theorem pc_none (s : ByteArray) (k : Nat) : pc s k k = [] := by
  unfold pc
  exact List.drop_of_length_le (by rw [List.length_take]; omega)
theorem pc_all (s : ByteArray) (a : Nat) : pc s a s.size = s.data.toList.drop a := by
  unfold pc
  rw [List.take_of_length_le (by rw [size_eq]; exact Nat.le_refl _)]
def spB (b : UInt8) (s : ByteArray) : List ByteArray := (splitOn b s.data.toList).map tx
set_option maxRecDepth 100000 in
set_option maxHeartbeats 8000000 in
theorem l1Split_any (s : ByteArray) (b : UInt8) (w : World) (hs : s.size ≤ 1048576) :
    Calls Tryz.prog 70 #[.string s, .int .u8 b.toNat] w fun e w' => ∃ v', e = .returned v' ∧ OwnS w' w.heap.size v' (spB b s) ∧ Kept w w' := by
  have HS := Lib.hid hs
  go_enter Tryz.func70, Tryz.ntmps70
  go_wp2_with fail
  go_loopw [5, 6, 7] (fun s5 s6 s7 wr => ∃ (k a : Nat) (L : List (List UInt8)), k ≤ s.size ∧ a ≤ k ∧ s7 = .int .i64 k ∧ s6 = .int .i64 a ∧ splitOn b (s.data.toList.take k) = L ++ [pc s a k] ∧ OwnS wr w.heap.size s5 (L.map tx) ∧ Kept w wr) (fun _ _ i _ => s.size - (RowKit.intOf i).toNat)
  case atStart => exact ⟨0, 0, [], Nat.zero_le _, Nat.le_refl _, rfl, rfl, rfl, nilS _ _, Kept.refl _⟩
  case round =>
    obtain ⟨k, a, L, hk, ha, rfl, rfl, hsp, ho, hkept⟩ := hrel
    have hll : L.length ≤ k := by
      have h1 := splitOn_length_le b (s.data.toList.take k)
      rw [hsp, List.length_append, List.length_singleton, List.length_take, ← size_eq] at h1
      omega
    have HO := Lib.hid ho
    have HSP := Lib.hid hsp
    have hps : (tx (pc s a k)).size ≤ maxLen := by rw [tx_size, pc_size s a k hk]; unfold maxLen; omega
    have HPS := Lib.hid hps
    clear ho hsp hps
    by_cases hlt : k < s.size
    · have HZ := Lib.hid (byte_get s k hlt)
      have hlt' : (k : Int) < (s.size : Int) := by omega
      by_cases hc : s[k] = b
      · have hcb : s[k].toNat = b.toNat := by rw [hc]
        have HSN : Hid (splitOn b (s.data.toList.take (k + 1)) = (L ++ [pc s a k]) ++ [pc s (k + 1) (k + 1)]) := Lib.hid (by rw [take_snoc HZ.out, hc, splitOn_snoc, HSP.out, pc_none])
        have HC := Lib.hid hc
        have HE := Lib.hid (pc_ext s a k)
        have ha' : (a : Int) ≤ (k : Int) := by omega
        clear hc
        go_wp2_with (at_builtin; refine wpList_append_SL _ rfl _ _ rfl w.heap.size _ (L.map tx) rfl (HO.out.kept ((Kept.refl _).alloc _)) _ [tx (pc s a k)] rfl (by first | (rw [HE.out]; exact strs_box1 (Box.new _ _ _ _ rfl) HPS.out) | exact strs_box1 (HE.out ▸ Box.new _ _ _ _ rfl) HPS.out) (by rw [List.length_map]; simp only [List.length_cons, List.length_nil]; omega) (by have := hkept.size; simp; omega) ?_; intro v3 w3 o3 g3 n3)
        have k3 := (hkept.alloc (.cells #[.string (s.extract a k)] 9)).grew (HO.out.kept ((Kept.refl _).alloc _)).1 g3 (Nat.le_refl _)
        have O3 : Hid (OwnS w3 w.heap.size v3 ((L ++ [pc s a k]).map tx)) := Lib.hid (by rw [List.map_append]; exact o3)
        clear o3 n3 g3
        go_wp2_with fail
        go_roundw
        case rel => exact ⟨k + 1, k + 1, _, by omega, Nat.le_refl _, by go_num, by go_num, HSN.out, O3.out, k3⟩
        case measure => simp [RowKit.intOf]; omega
      · have hcb : ¬ s[k].toNat = b.toNat := fun e => hc (UInt8.toNat_inj.1 e)
        have HSN : Hid (splitOn b (s.data.toList.take (k + 1)) = L ++ [pc s a (k + 1)]) := Lib.hid (by rw [take_snoc HZ.out, splitOn_snoc_ne hc HSP.out, pc_snoc HZ.out hk ha])
        clear hc
        go_wp2_with fail
        go_roundw
        case rel => exact ⟨k + 1, a, L, by omega, by omega, by go_num, rfl, HSN.out, HO.out, hkept⟩
        case measure => simp [RowKit.intOf]; omega
    · obtain rfl : k = s.size := by omega
      have HE := Lib.hid (pc_ext s a s.size)
      have ha' : (a : Int) ≤ (s.size : Int) := by omega
      have HF : Hid ((L.map tx) ++ [tx (pc s a s.size)] = spB b s) := Lib.hid (by
        unfold spB
        have e : s.data.toList.take s.size = s.data.toList := List.take_of_length_le (by rw [size_eq]; exact Nat.le_refl _)
        have h1 := HSP.out
        rw [e] at h1
        rw [h1, List.map_append]
        rfl)
      go_wp2_with (at_builtin; refine wpList_append_SL _ rfl _ _ rfl w.heap.size _ (L.map tx) rfl (HO.out.kept ((Kept.refl _).alloc _)) _ [tx (pc s a s.size)] rfl (by first | (rw [HE.out]; exact strs_box1 (Box.new _ _ _ _ rfl) HPS.out) | exact strs_box1 (HE.out ▸ Box.new _ _ _ _ rfl) HPS.out) (by rw [List.length_map]; simp only [List.length_cons, List.length_nil]; omega) (by have := hkept.size; simp; omega) ?_; intro v3 w3 o3 g3 n3)
      have k3 := (hkept.alloc (.cells #[.string (s.extract a s.size)] 9)).grew (HO.out.kept ((Kept.refl _).alloc _)).1 g3 (Nat.le_refl _)
      rw [HF.out] at o3
      have O3 := Lib.hid o3
      clear o3 n3 g3
      go_wp2_with fail
      go_ret
      exact ⟨_, rfl, O3.out, k3⟩
end Go.Proofs.YtkekpolfdmmgeaaGreatDoor

/- Points: reading their text: plain laws; the reference's side. -/
namespace Go.Proofs.YtkekpolfdmmgeaaGreatDoor
set_option linter.unusedVariables false
set_option linter.unusedSimpArgs false
set_option linter.unnecessarySimpa false
open Go.RowKit Go.Lib

theorem tp_hit {l : List UInt8} (h : l[0]? = some 45) : trimPrefix l [45] = l.drop 1 ∧ hasPrefix l [45] = true := by
  cases l with
  | nil => cases h
  | cons c r =>
    have hc : c = 45 := by simpa using h
    subst hc
    unfold trimPrefix hasPrefix
    simp [List.isPrefixOf]
theorem tp_miss {l : List UInt8} (h : l[0]? ≠ some 45) : trimPrefix l [45] = l ∧ hasPrefix l [45] = false := by
  cases l with
  | nil => exact ⟨rfl, rfl⟩
  | cons c r =>
    have hc : c ≠ 45 := by simpa using h
    have hne : (45 == c) = false := beq_eq_false_iff_ne.2 (Ne.symm hc)
    unfold trimPrefix hasPrefix
    simp [List.isPrefixOf, hne]
def dg2 (p q : UInt8) : Nat := 10 * (p.toNat - 48) + (q.toNat - 48)
theorem pt_shape {l : List UInt8} {n : Int} (hg : ptGood n) (h : ptxt n = l) :
    ∃ u : Nat, u ≤ 1000000 ∧ splitOn 46 (trimPrefix l [45]) = [decDigits (u / 100), [UInt8.ofNat (48 + u / 10 % 10), UInt8.ofNat (48 + u % 10)]] ∧ hasPrefix l [45] = decide (n < 0) ∧ n = if hasPrefix l [45] then -(u : Int) else (u : Int) := by
  subst h
  obtain ⟨h1, h2⟩ := ptxt_sign n
  unfold ptGood at hg
  refine ⟨n.natAbs, by omega, by rw [h1, ptN_split, two_digits], h2, ?_⟩
  rw [h2]
  by_cases hn : n < 0
  · rw [decide_eq_true hn]; simp; omega
  · rw [decide_eq_false hn]; simp; omega
/-- where one of the steps fails, there is no number with the text -/
theorem rd_no {l : List UInt8} (h : ∀ p c d a, splitOn 46 (trimPrefix l [45]) = [p, [c, d]] → readNum 6 p = some a → isDg c = true → isDg d = true → False) : IsRead l 0 false := by
  refine .inr ⟨rfl, rfl, fun n hg e => ?_⟩
  obtain ⟨u, hu, hs, _, _⟩ := pt_shape hg e
  exact h _ _ _ (u / 100) hs (readNum_dec (k := 5) (by omega)) (isDg_of (Nat.mod_lt _ (by decide))) (isDg_of (Nat.mod_lt _ (by decide)))
/-- what the steps compute is the only candidate -/
theorem rd_only {l p : List UInt8} {c d : UInt8} {a : Nat} {n : Int} (hs : splitOn 46 (trimPrefix l [45]) = [p, [c, d]]) (ha : readNum 6 p = some a) (hg : ptGood n) (e : ptxt n = l) :
    n = if hasPrefix l [45] then -((100 * a + dg2 c d : Nat) : Int) else ((100 * a + dg2 c d : Nat) : Int) := by
  obtain ⟨u, hu, hs', _, hn⟩ := pt_shape hg e
  rw [hs] at hs'
  simp only [List.cons.injEq, and_true] at hs'
  obtain ⟨rfl, rfl, rfl⟩ := hs'
  rw [readNum_dec (k := 5) (by omega)] at ha
  have ha := Option.some.inj ha
  have hd : 100 * a + dg2 (UInt8.ofNat (48 + u / 10 % 10)) (UInt8.ofNat (48 + u % 10)) = u := by
    unfold dg2
    rw [toNat_of (Nat.mod_lt _ (by decide)), toNat_of (Nat.mod_lt _ (by decide))]
    omega
  rw [hd]
  exact hn
theorem rd_yes {l p : List UInt8} {c d : UInt8} {a : Nat} {v : Int} (hs : splitOn 46 (trimPrefix l [45]) = [p, [c, d]]) (ha : readNum 6 p = some a)
    (hv : v = if hasPrefix l [45] then -((100 * a + dg2 c d : Nat) : Int) else ((100 * a + dg2 c d : Nat) : Int)) :
    (ptGood v ∧ ptxt v = l → IsRead l v true) ∧ (¬ (ptGood v ∧ ptxt v = l) → IsRead l 0 false) := by
  refine ⟨fun h => .inl ⟨rfl, h.1, h.2⟩, fun h => .inr ⟨rfl, rfl, fun n hg e => ?_⟩⟩
  have := rd_only hs ha hg e
  rw [← hv] at this
  subst this
  exact h ⟨hg, e⟩
theorem rdV_neg {k : Nat} {s : ByteArray} : rdV k s < 0 ↔ readNum k s.data.toList = none := by
  unfold rdV
  cases readNum k s.data.toList with
  | none => simp
  | some n => simp
end Go.Proofs.YtkekpolfdmmgeaaGreatDoor

/- How often a name occurs in a list. -/
namespace Go.Proofs.YtkekpolfdmmgeaaGreatDoor
set_option linter.unusedVariables false
set_option linter.unusedSimpArgs false
open Go.RowKit

def cnt (s : ByteArray) (l : List ByteArray) : Nat := (l.filter fun x => decide (x = s)).length
def cntC (s : ByteArray) (it : ItemD) : Nat := if 1 < it.names.length then cnt s it.names else 0
def times (its : List ItemD) (s : ByteArray) : Nat := (its.map fun it => cnt s it.names).sum
def timesC (its : List ItemD) (s : ByteArray) : Nat := (its.map (cntC s)).sum
theorem cnt_snoc {s z : ByteArray} {l : List ByteArray} {k : Nat} (h : l[k]? = some z) : cnt s (l.take (k + 1)) = cnt s (l.take k) + if z = s then 1 else 0 := by
  unfold cnt
  rw [take_snoc h, List.filter_append]
  by_cases hz : z = s <;> simp [List.filter_cons, hz]
theorem cnt_le (s : ByteArray) (l : List ByteArray) : cnt s l ≤ l.length := List.length_filter_le _ _
theorem itemsB_true {its : List ItemD} (h : itemsB its = true) : its.length ≤ 14 ∧ ∀ it ∈ its, itemB it = true := by
  unfold itemsB at h
  rw [Bool.and_eq_true] at h
  exact ⟨by simpa using h.2, fun it hi => List.all_eq_true.1 h.1 it hi⟩
theorem itemB_true {it : ItemD} (h : itemB it = true) : (∀ z ∈ it.names, nameB z = true) ∧ 1 ≤ it.names.length ∧ it.names.length ≤ 3 ∧ it.marks.length = it.names.length ∧ ∀ m ∈ it.marks, 0 ≤ m ∧ m ≤ 3 := by
  unfold itemB at h
  simp only [Bool.and_eq_true] at h
  obtain ⟨⟨⟨h1, h2⟩, h3⟩, h4⟩ := h
  have h5 := inB_true h2
  exact ⟨fun z hz => List.all_eq_true.1 h1 z hz, by omega, by omega, by simpa using h3, fun m hm => inB_true (List.all_eq_true.1 h4 m hm)⟩
theorem sum_le_mul (l : List Nat) (B : Nat) (h : ∀ x ∈ l, x ≤ B) : l.sum ≤ l.length * B := by
  induction l with
  | nil => simp
  | cons y l ih =>
    have h1 := h y (by simp)
    have h2 := ih (fun x hx => h x (by simp [hx]))
    rw [List.sum_cons, List.length_cons, Nat.succ_mul]
    omega
theorem times_bd {its : List ItemD} (hb : itemsB its = true) (s : ByteArray) (k : Nat) : ((its.take k).map fun it => cnt s it.names).sum ≤ 42 ∧ ((its.take k).map (cntC s)).sum ≤ 42 := by
  obtain ⟨h1, h2⟩ := itemsB_true hb
  have hl : (its.take k).length ≤ 14 := by rw [List.length_take]; omega
  have hc : ∀ it ∈ its.take k, cnt s it.names ≤ 3 := fun it hi => Nat.le_trans (cnt_le s _) (itemB_true (h2 it (List.mem_of_mem_take hi))).2.2.1
  constructor
  · have := sum_le_mul ((its.take k).map fun it => cnt s it.names) 3 (by
      intro x hx
      obtain ⟨it, hi, rfl⟩ := List.mem_map.1 hx
      exact hc it hi)
    rw [List.length_map] at this
    omega
  · have := sum_le_mul ((its.take k).map (cntC s)) 3 (by
      intro x hx
      obtain ⟨it, hi, rfl⟩ := List.mem_map.1 hx
      unfold cntC
      split
      · exact hc it hi
      · omega)
    rw [List.length_map] at this
    omega
def tmV (its : List ItemD) (s : ByteArray) : Int := if itemsB its && nameB s then (times its s : Int) else 0
def tmC (its : List ItemD) (s : ByteArray) : Int := if itemsB its && nameB s then (timesC its s : Int) else 0
end Go.Proofs.YtkekpolfdmmgeaaGreatDoor
