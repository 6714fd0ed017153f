/- Contracts of functions that the proof leans on. No condition. -/
import Derived.Test.YtkekpolfdmmgeaaGreatDoorMb976dc685f
import Derived.Deep.DeepCutAuto
import Derived.StillTailTactics
import Derived.Deep.RegionHeld3
import Derived.Laws.IdiomCopy
import Derived.Laws.Externs
import Derived.Lib.Overlaps
import Derived.Lib.AppendZerosOnto
import Derived.Lib.SliceRun
import Derived.Deep.RegionLaw
/- Codes: a code if it is valid. -/
namespace Go.Proofs.YtkekpolfdmmgeaaGreatDoor
set_option linter.unusedVariables false
set_option linter.unusedSimpArgs false
open Go.RowKit

def zeroC : CodeD := ⟨[], [], 0, 0, 0, 0⟩
def ifC (x : CodeD) : CodeD := if codeB x then x else zeroC
theorem ifC_yes {x : CodeD} (h : codeB x = true) : ifC x = x := if_pos h
theorem ifC_no {x : CodeD} (h : codeB x = false) : ifC x = zeroC := by unfold ifC; rw [h]; rfl
theorem zeroC_own (w : World) (base : Nat) : OwnK w base (.agg #[.slice none 0 0, .slice none 0 0, .int .i64 0, .int .i64 0, .int .i64 0, .int .i64 0]) zeroC :=
  ⟨_, _, rfl, ⟨World.ownsRow_nil _ _ _ _, fun _ h => (by cases h)⟩, World.ownsRow_nil _ _ _ _, by rw [fpA_code]; simp [fp, Value.ownBlock]⟩
theorem OwnK.base {w : World} {base base' : Nat} {v : Value} {x : CodeD} (h : OwnK w base v x) (hb : base' ≤ base) : OwnK w base' v x := by
  obtain ⟨ev, lv, rfl, h1, h2, h3⟩ := h
  exact ⟨ev, lv, rfl, ⟨own_base h1.1 hb, h1.2⟩, own_base h2 hb, h3⟩
theorem OwnK.far {w w' : World} {base base' : Nat} {v : Value} {x : CodeD} {S : List Nat} (h : OwnK w base v x) (ho : Only S w w') (hS : ∀ b ∈ S, b < base ∨ w.heap.size ≤ b) (hb : base' ≤ base) : OwnK w' base' v x :=
  OwnK.base (h.only ho (fun b hb hs => by have := h.fps b hb; have := hS b hs; omega)) hb
theorem Box.zero6 {w : World} {b : Nat} {t : TypeId} (h : Box w b t #[.slice none 0 0, .slice none 0 0, .int .i64 0, .int .i64 0, .int .i64 0, .int .i64 0]) : True := trivial
set_option maxHeartbeats 4000000 in
theorem cdIf_any (v : Value) (x : CodeD) (w : World) (base : Nat) (h : OwnK w base v x) (hbase : base ≤ w.heap.size) :
    Calls Tryz.prog 60 #[v] w fun e w' => ∃ v', e = .returned (.tuple #[v', .bool (codeB x)]) ∧ OwnK w' base v' (ifC x) ∧ Kept w w' := by
  have HK := Lib.hid h
  obtain ⟨ev, lv, rfl, h1, h2, _⟩ := h
  obtain ⟨A, c, rfl, _⟩ := own_form h1.1
  obtain ⟨A2, c2, rfl, _⟩ := own_form h2
  clear h1 h2
  go_enter Tryz.func60, Tryz.ntmps60
  go_wp2_with fail
  have B0 := (Box.new w w.heap.size 26 #[.slice A x.elems.length c, .slice A2 x.limits.length c2, .int .i64 x.repeats, .int .i64 x.bonus, .int .i64 x.keeps, .int .i64 x.fall] rfl).alloc (.cells #[.slice none 0 0, .slice none 0 0, .int .i64 0, .int .i64 0, .int .i64 0, .int .i64 0] 26)
  have B1 := Box.new (w.alloc (.cells #[.slice A x.elems.length c, .slice A2 x.limits.length c2, .int .i64 x.repeats, .int .i64 x.bonus, .int .i64 x.keeps, .int .i64 x.fall] 26)) (w.heap.size + 1) 26 #[.slice none 0 0, .slice none 0 0, .int .i64 0, .int .i64 0, .int .i64 0, .int .i64 0] (by simp)
  have K0 : Kept w ((w.alloc (.cells #[.slice A x.elems.length c, .slice A2 x.limits.length c2, .int .i64 x.repeats, .int .i64 x.bonus, .int .i64 x.keeps, .int .i64 x.fall] 26)).alloc (.cells #[.slice none 0 0, .slice none 0 0, .int .i64 0, .int .i64 0, .int .i64 0, .int .i64 0] 26)) := ((Kept.refl w).alloc _).alloc _
  generalize (w.alloc (.cells #[.slice A x.elems.length c, .slice A2 x.limits.length c2, .int .i64 x.repeats, .int .i64 x.bonus, .int .i64 x.keeps, .int .i64 x.fall] 26)).alloc (.cells #[.slice none 0 0, .slice none 0 0, .int .i64 0, .int .i64 0, .int .i64 0, .int .i64 0] 26) = w0 at *
  refine (cdGood_any _ x _ (HK.out.kept K0).code).mono ?_
  rintro e w1 ⟨rfl, k1⟩
  replace B0 := B0.kept k1
  replace B1 := B1.kept k1
  have K1 := K0.trans k1
  have O1 := Lib.hid (HK.out.kept K1)
  clear K0 k1
  by_cases hb : codeB x = true
  · have HB := Lib.hid hb
    rw [hb]
    clear hb
    go_upto_region 3 with (fail)
    obtain ⟨x0, y0⟩ := B0.six
    obtain ⟨x1, y1⟩ := B1.six
    go_wp2_with fail
    clear x0 y0 x1 y1
    obtain ⟨w3, hw3, B3, Q3⟩ := set6 B1 (.slice A x.elems.length c) (.slice A2 x.limits.length c2) (.int .i64 x.repeats) (.int .i64 x.bonus) (.int .i64 x.keeps) (.int .i64 x.fall)
    rw [← hw3]
    clear hw3
    obtain ⟨cc, ff⟩ := B3.six
    refine bodyPost_ret (v := .tuple #[.agg #[.slice A x.elems.length c, .slice A2 x.limits.length c2, .int .i64 x.repeats, .int .i64 x.bonus, .int .i64 x.keeps, .int .i64 x.fall], .bool true]) (by simp [results, Tryz.results60, go_sem, cc, ff]) rfl ⟨_, by rw [HB.out], ?_, Q3.above K1 (by simp)⟩
    rw [ifC_yes HB.out]
    exact O1.out.only Q3 (fun b hb hs => by have := HK.out.fps b hb; simp at hs; omega)
  · simp only [Bool.not_eq_true] at hb
    have HB := Lib.hid hb
    rw [hb]
    clear hb
    go_upto_region 2 with (fail)
    obtain ⟨x0, y0⟩ := B0.six
    obtain ⟨x1, y1⟩ := B1.six
    go_wp2_with fail
    clear x0 y0 x1 y1
    obtain ⟨w3, hw3, B3, Q3⟩ := set6 B1 (.slice none 0 0) (.slice none 0 0) (.int .i64 0) (.int .i64 0) (.int .i64 0) (.int .i64 0)
    rw [← hw3]
    clear hw3
    obtain ⟨cc, ff⟩ := B3.six
    refine bodyPost_ret (v := .tuple #[.agg #[.slice none 0 0, .slice none 0 0, .int .i64 0, .int .i64 0, .int .i64 0, .int .i64 0], .bool false]) (by simp [results, Tryz.results60, go_sem, cc, ff]) rfl ⟨_, by rw [HB.out], ?_, Q3.above K1 (by simp)⟩
    rw [ifC_no HB.out]
    exact zeroC_own _ _
set_option maxHeartbeats 4000000 in
theorem asCode_any (v ev : Value) (x : CodeD) (es : List ElemD) (w : World) (base : Nat) (h : CodeAt w v x) (he : OwnE w base ev es) (hbase : base ≤ w.heap.size) (hm : x.limits.length ≤ 1048576) :
    Calls Tryz.prog 57 #[v, ev] w fun e w' => ∃ v', e = .returned (.tuple #[v', .bool (codeB { x with elems := es })]) ∧ OwnK w' base v' (ifC { x with elems := es }) ∧ Kept w w' := by
  obtain ⟨nv, lv, rfl, h1, h2⟩ := h
  obtain ⟨A, c, rfl, _⟩ := own_form he.1
  obtain ⟨A1, c1, rfl, _⟩ := h1.1.out
  obtain ⟨A2, c2, rfl, _⟩ := h2.out
  have HE := Lib.hid he
  have H2 := Lib.hid h2
  clear h1 h2 he
  go_enter Tryz.func57, Tryz.ntmps57
  go_wp2_with fail
  have B0 := (Box.new w w.heap.size 26 #[.slice A es.length c, .slice A2 x.limits.length c2, .int .i64 x.repeats, .int .i64 x.bonus, .int .i64 x.keeps, .int .i64 x.fall] rfl).alloc (.cells #[.slice none 0 0, .slice none 0 0, .int .i64 0, .int .i64 0, .int .i64 0, .int .i64 0] 26)
  have B1 := Box.new (w.alloc (.cells #[.slice A es.length c, .slice A2 x.limits.length c2, .int .i64 x.repeats, .int .i64 x.bonus, .int .i64 x.keeps, .int .i64 x.fall] 26)) (w.heap.size + 1) 26 #[.slice none 0 0, .slice none 0 0, .int .i64 0, .int .i64 0, .int .i64 0, .int .i64 0] (by simp)
  have K0 : Kept w ((w.alloc (.cells #[.slice A es.length c, .slice A2 x.limits.length c2, .int .i64 x.repeats, .int .i64 x.bonus, .int .i64 x.keeps, .int .i64 x.fall] 26)).alloc (.cells #[.slice none 0 0, .slice none 0 0, .int .i64 0, .int .i64 0, .int .i64 0, .int .i64 0] 26)) := ((Kept.refl w).alloc _).alloc _
  generalize (w.alloc (.cells #[.slice A es.length c, .slice A2 x.limits.length c2, .int .i64 x.repeats, .int .i64 x.bonus, .int .i64 x.keeps, .int .i64 x.fall] 26)).alloc (.cells #[.slice none 0 0, .slice none 0 0, .int .i64 0, .int .i64 0, .int .i64 0, .int .i64 0] 26) = w0 at *
  have hzw : w.heap.size + 1 < w0.heap.size := B1.lt
  refine (copyInts_any _ x.limits _ (H2.out.kept K0) hm).mono ?_
  rintro e w1 ⟨v1, rfl, o1, k1⟩
  obtain ⟨A3, c3, rfl, _⟩ := own_form o1
  replace B0 := B0.kept k1
  replace B1 := B1.kept k1
  have K1 := K0.trans k1
  have O1 := Lib.hid o1
  have OE := Lib.hid (HE.out.kept K1)
  have hz0 : w.heap.size + 1 < w1.heap.size := B1.lt
  have hz1 := k1.size
  clear K0 k1 o1
  obtain ⟨x0, y0⟩ := B0.six
  go_upto_region 3 with (fail)
  clear x0 y0
  obtain ⟨w2, hw2⟩ : ∃ w2, w2 = w1.setCell ⟨w.heap.size, 1, none⟩ (.slice A3 x.limits.length c3) := ⟨_, rfl⟩
  rw [← hw2]
  have Q2 : Only [w.heap.size] w1 w2 := by rw [hw2]; exact Only.setCell (Only.refl _ _) (by simp) _
  replace B0 : Box w2 w.heap.size 26 #[.slice A es.length c, .slice A3 x.limits.length c3, .int .i64 x.repeats, .int .i64 x.bonus, .int .i64 x.keeps, .int .i64 x.fall] := hw2 ▸ B0.set 1 _
  replace B1 := B1.only Q2 (by simp)
  have F1 := Lib.hid (own_fp HE.out.1)
  have F2 := Lib.hid (own_fp O1.out)
  have OK : OwnK w2 base (.agg #[.slice A es.length c, .slice A3 x.limits.length c3, .int .i64 x.repeats, .int .i64 x.bonus, .int .i64 x.keeps, .int .i64 x.fall]) { x with elems := es } := by
    refine ⟨_, _, rfl, OE.out.only Q2 (fun b hb hs => ?_), OwnI.base (O1.out.only Q2 (fun b hb hs => ?_)) (by omega), ?_⟩
    · have := F1.out b hb; simp at hs; omega
    · have := F2.out b hb; simp at hs; omega
    · rw [fpA_code]
      exact nodup_fp (m := w.heap.size) (fun y hy => (F1.out y hy).2) (fun y hy => by have := F2.out y hy; omega)
  have K2 : Kept w w2 := Q2.above K1 (by simp)
  have HK := Lib.hid OK
  have hz2 := Q2.size
  clear hw2 OE O1 F1 OK
  obtain ⟨x0, y0⟩ := B0.six
  go_wp2_with fail
  clear x0 y0
  refine (isCode_any _ { x with elems := es } _ HK.out.code).mono ?_
  rintro e w4 ⟨rfl, k4⟩
  replace B0 := B0.kept k4
  replace B1 := B1.kept k4
  have K4 := K2.trans k4
  have O4 := Lib.hid (HK.out.kept k4)
  clear k4
  have hz4 := K4.size
  have hne : ∀ b ∈ fpA (.agg #[.slice A es.length c, .slice A3 x.limits.length c3, .int .i64 x.repeats, .int .i64 x.bonus, .int .i64 x.keeps, .int .i64 x.fall]), b ≠ w.heap.size + 1 := by
    intro b hb e
    subst e
    rw [fpA_code] at hb
    rcases List.mem_append.1 hb with hb | hb
    · have := (own_fp HE.out.1 _ hb).2; omega
    · have := F2.out _ hb; omega
  have HNE := Lib.hid hne
  clear hne
  by_cases hb : codeB { x with elems := es } = true
  · have HB := Lib.hid hb
    rw [hb]
    clear hb
    go_upto_region 5 with (fail)
    obtain ⟨x0, y0⟩ := B0.six
    obtain ⟨x1, y1⟩ := B1.six
    go_wp2_with fail
    clear x0 y0 x1 y1
    obtain ⟨w3, hw3, B3, Q3⟩ := set6 B1 (.slice A es.length c) (.slice A3 x.limits.length c3) (.int .i64 x.repeats) (.int .i64 x.bonus) (.int .i64 x.keeps) (.int .i64 x.fall)
    rw [← hw3]
    clear hw3
    obtain ⟨cc, ff⟩ := B3.six
    refine bodyPost_ret (v := .tuple #[.agg #[.slice A es.length c, .slice A3 x.limits.length c3, .int .i64 x.repeats, .int .i64 x.bonus, .int .i64 x.keeps, .int .i64 x.fall], .bool true]) (by simp [results, Tryz.results57, go_sem, cc, ff]) rfl ⟨_, by rw [HB.out], ?_, Q3.above K4 (by simp)⟩
    rw [ifC_yes HB.out]
    exact O4.out.only Q3 (fun b hb hs => HNE.out b hb (by simpa using hs))
  · simp only [Bool.not_eq_true] at hb
    have HB := Lib.hid hb
    rw [hb]
    clear hb
    go_upto_region 4 with (fail)
    obtain ⟨x0, y0⟩ := B0.six
    obtain ⟨x1, y1⟩ := B1.six
    go_wp2_with fail
    clear x0 y0 x1 y1
    obtain ⟨w3, hw3, B3, Q3⟩ := set6 B1 (.slice none 0 0) (.slice none 0 0) (.int .i64 0) (.int .i64 0) (.int .i64 0) (.int .i64 0)
    rw [← hw3]
    clear hw3
    obtain ⟨cc, ff⟩ := B3.six
    refine bodyPost_ret (v := .tuple #[.agg #[.slice none 0 0, .slice none 0 0, .int .i64 0, .int .i64 0, .int .i64 0, .int .i64 0], .bool false]) (by simp [results, Tryz.results57, go_sem, cc, ff]) rfl ⟨_, by rw [HB.out], ?_, Q3.above K4 (by simp)⟩
    rw [ifC_no HB.out]
    exact zeroC_own _ _
theorem asCode_is (X : CodeD) (bb : Bool) (v ev : Value) (x : CodeD) (es : List ElemD) (w : World) (base : Nat) (hX : ifC { x with elems := es } = X) (hb : codeB { x with elems := es } = bb) (h : CodeAt w v x) (he : OwnE w base ev es) (hbase : base ≤ w.heap.size) (hm : x.limits.length ≤ 1048576) :
    Calls Tryz.prog 57 #[v, ev] w fun e w' => ∃ v', e = .returned (.tuple #[v', .bool bb]) ∧ OwnK w' base v' X ∧ Kept w w' := by
  subst hX hb
  exact asCode_any v ev x es w base h he hbase hm
theorem cdIf_is (X : CodeD) (bb : Bool) (v : Value) (x : CodeD) (w : World) (base : Nat) (hX : ifC x = X) (hb : codeB x = bb) (h : OwnK w base v x) (hbase : base ≤ w.heap.size) :
    Calls Tryz.prog 60 #[v] w fun e w' => ∃ v', e = .returned (.tuple #[v', .bool bb]) ∧ OwnK w' base v' X ∧ Kept w w' := by
  subst hX hb
  exact cdIf_any v x w base h hbase
end Go.Proofs.YtkekpolfdmmgeaaGreatDoor

/- The texts that the laws write as marks. -/
namespace Go.Proofs.YtkekpolfdmmgeaaGreatDoor
set_option linter.unusedVariables false
set_option linter.unusedSimpArgs false
open Go.RowKit

def dgc (q : Nat) : UInt8 := UInt8.ofNat (48 + q % 10)
theorem dgc_toNat (q : Nat) : (dgc q).toNat = 48 + q % 10 := by
  unfold dgc
  rw [UInt8.toNat_ofNat']
  omega
def digF : Nat → Nat → List UInt8 → List UInt8
  | 0, _, out => out
  | f + 1, q, out => if q = 0 then out else digF f (q / 10) (dgc q :: out)
def mt (k : Int) : ByteArray := ⟨(109 :: digF 20 k.toNat []).toArray⟩
theorem digF_zero (f : Nat) (out : List UInt8) : digF f 0 out = out := by cases f <;> simp [digF]
theorem ba_cons (c : UInt8) (l : List UInt8) : (⟨#[c]⟩ : ByteArray) ++ ⟨l.toArray⟩ = ⟨(c :: l).toArray⟩ := by
  apply ByteArray.ext
  simp
theorem conv_one (w : World) (c : UInt8) (n : Int) (hn : n = c.toNat) :
    (convert 22 9 (.slice (some ⟨w.heap.size, 0, none⟩) 1 1)).run Tryz.prog (w.alloc (.cells #[.int .u8 n] 5)) = .ok (.string ⟨#[c]⟩) (w.alloc (.cells #[.int .u8 n] 5)) := by
  subst hn
  exact run_convert_bytes_back (P := Tryz.prog) (w.alloc (.cells #[.int .u8 (c.toNat : Int)] 5)) 22 9 5 ⟨w.heap.size, 0, none⟩ 1 [c] Tryz.underlying22 Tryz.underlying5 Tryz.underlying9 (fun j hj => by
    obtain rfl : j = 0 := by simpa using hj
    simp [Addr.add])
theorem digF_length (f q : Nat) (out : List UInt8) : (digF f q out).length ≤ out.length + f := by
  induction f generalizing q out with
  | zero => simp [digF]
  | succ f ih =>
    rw [digF]
    split
    · omega
    · have := ih (q / 10) (dgc q :: out)
      simp at this
      omega
theorem mt_size (k : Int) : (mt k).size ≤ maxLen := by
  have := digF_length 20 k.toNat []
  have h : (mt k).size = (digF 20 k.toNat []).length + 1 := by
    show (109 :: digF 20 k.toNat []).toArray.size = _
    simp
  rw [h]
  unfold maxLen
  simp at this
  omega
def marksS (k : Int) (n : Nat) : List ByteArray := (List.range n).map fun (i : Nat) => mt (k + (i : Int))
theorem marksS_length (k : Int) (n : Nat) : (marksS k n).length = n := by simp [marksS]
theorem marksS_get {k : Int} {n i : Nat} (h : i < n) : (marksS k n)[i]? = some (mt (k + i)) := by simp [marksS, h]
theorem marksS_size (k : Int) (n : Nat) : ∀ z ∈ marksS k n, z.size ≤ maxLen := by
  intro z hz
  unfold marksS at hz
  obtain ⟨i, _, rfl⟩ := List.mem_map.1 hz
  exact mt_size _
end Go.Proofs.YtkekpolfdmmgeaaGreatDoor

/- The marks that the laws write: elements, codes. -/
namespace Go.Proofs.YtkekpolfdmmgeaaGreatDoor
set_option linter.unusedVariables false
set_option linter.unusedSimpArgs false
open Go.RowKit

def markE (k : Int) : ElemD := ⟨mt k, k + 1, k + 2, k + 3⟩
def marksE (k : Int) (n : Nat) : List ElemD := (List.range n).map fun (i : Nat) => markE (k + 4 * (i : Int))
theorem marksE_length (k : Int) (n : Nat) : (marksE k n).length = n := by simp [marksE]
theorem marksE_get {k : Int} {n i : Nat} (h : i < n) : (marksE k n)[i]? = some (markE (k + 4 * i)) := by simp [marksE, h]
theorem marksE_size (k : Int) (n : Nat) : ∀ e ∈ marksE k n, e.name.size ≤ maxLen := by
  intro z hz
  unfold marksE at hz
  obtain ⟨i, _, rfl⟩ := List.mem_map.1 hz
  exact mt_size _
def markK (k : Int) (x : CodeD) : CodeD := { x with elems := marksE k x.elems.length, limits := marksI (k + 4 * x.elems.length) x.limits.length }
def nextC (k : Int) (x : CodeD) : Int := k + 4 * x.elems.length + x.limits.length
theorem OwnK.nodup {w : World} {base : Nat} {v : Value} {x : CodeD} (h : OwnK w base v x) : (fpA v).Nodup := by
  obtain ⟨_, _, _, _, _, h⟩ := h
  exact h
end Go.Proofs.YtkekpolfdmmgeaaGreatDoor

/- Codes: ScaleCode. -/
namespace Go.Proofs.YtkekpolfdmmgeaaGreatDoor
set_option linter.unusedVariables false
set_option linter.unusedSimpArgs false
open Go.RowKit

def scaleE (p : Int) (y : ElemD) : ElemD := { y with base := max (y.base * p / 100) 1 }
def scaleC (x : CodeD) (p : Int) : CodeD := { x with elems := x.elems.map (scaleE p) }
def scOk (x : CodeD) (p : Int) : Bool := codeB x && inB p 1 200
def scB (x : CodeD) (p : Int) : Bool := scOk x p && codeB (scaleC x p)
def scV (x : CodeD) (p : Int) : CodeD := if scOk x p then ifC (scaleC x p) else zeroC
theorem scV_no {x : CodeD} {p : Int} (h : scOk x p = false) : scV x p = zeroC := by unfold scV; rw [h]; rfl
theorem scV_yes {x : CodeD} {p : Int} (h : scOk x p = true) : scV x p = ifC (scaleC x p) := if_pos h
theorem scB_no {x : CodeD} {p : Int} (h : scOk x p = false) : scB x p = false := by unfold scB; rw [h]; rfl
theorem scB_yes {x : CodeD} {p : Int} (h : scOk x p = true) : scB x p = codeB (scaleC x p) := by unfold scB; rw [h, Bool.true_and]
theorem sc_code {x : CodeD} {p : Int} (h : scOk x p = true) : codeB x = true := by unfold scOk at h; rw [Bool.and_eq_true] at h; exact h.1
theorem sc_in {x : CodeD} {p : Int} (h : scOk x p = true) : inB p 1 200 = true := by unfold scOk at h; rw [Bool.and_eq_true] at h; exact h.2
theorem ifC_len (x : CodeD) : (ifC x).elems.length ≤ 24 ∧ (ifC x).limits.length ≤ 5 := by
  by_cases h : codeB x = true
  · rw [ifC_yes h]
    have := codeB_heads h
    omega
  · simp only [Bool.not_eq_true] at h
    rw [ifC_no h]
    exact ⟨by simp [zeroC], by simp [zeroC]⟩
theorem scV_len (x : CodeD) (p : Int) : (scV x p).elems.length ≤ 24 ∧ (scV x p).limits.length ≤ 5 := by
  by_cases h : scOk x p = true
  · rw [scV_yes h]; exact ifC_len _
  · simp only [Bool.not_eq_true] at h
    rw [scV_no h]
    exact ⟨by simp [zeroC], by simp [zeroC]⟩
theorem elems_one {w : World} {g : Nat} {t : TypeId} (y : ElemD) (h : Box w g t #[.string y.name, .int .i64 y.family, .int .i64 y.level, .int .i64 y.base]) (hs : y.name.size ≤ maxLen) : Elems w (.slice (some ⟨g, 0, none⟩) 1 1) [y] := by
  refine ⟨⟨_, 1, rfl, Nat.le_refl _, by unfold maxLen; simp, (fun h => by cases h), fun _ => ⟨g, 0, rfl, h.lt, ?_⟩⟩, ?_⟩
  · intro j u hu
    rw [Nat.zero_add, h.cell j]
    simp only [List.flatMap_cons, List.flatMap_nil, List.append_nil, cells4] at hu
    rw [← hu]
    rw [← Array.getElem?_toList]
  · intro e he
    simp at he
    subst he
    exact hs
theorem OwnE.base {w : World} {base base' : Nat} {v : Value} {es : List ElemD} (h : OwnE w base v es) (hb : base' ≤ base) : OwnE w base' v es := ⟨own_base h.1 hb, h.2⟩
theorem mul_bds {a b A B : Int} (h1 : 0 ≤ a) (h2 : a ≤ A) (h3 : 0 ≤ b) (h4 : b ≤ B) : 0 ≤ a * b ∧ a * b ≤ A * B :=
  ⟨Int.mul_nonneg h1 h3, Int.mul_le_mul h2 h4 h3 (by omega)⟩
theorem flat_set3 : ∀ (l : List ElemD) (k : Nat) (y : ElemD) (b : Int), l[k]? = some y → (l.flatMap cells4).set (k * 4 + 3) (.int .i64 b) = (l.set k { y with base := b }).flatMap cells4
  | [], _, _, _, h => by simp at h
  | x :: l, 0, y, b, h => by
    simp at h
    subst h
    simp [cells4]
  | x :: l, k + 1, y, b, h => by
    simp only [List.getElem?_cons_succ] at h
    rw [List.flatMap_cons, List.set_cons_succ, List.flatMap_cons, List.set_append_right _ _ (by simp [cells4]; omega), ← flat_set3 l k y b h]
    congr 2
    simp [cells4]
    omega
def scTo (es : List ElemD) (p : Int) (k : Nat) : List ElemD := (es.take k).map (scaleE p) ++ es.drop k
theorem scTo_len (es : List ElemD) (p : Int) (k : Nat) : (scTo es p k).length = es.length := by
  unfold scTo
  rw [List.length_append, List.length_map, List.length_take, List.length_drop]
  omega
theorem scTo_get {es : List ElemD} {p : Int} {k : Nat} {y : ElemD} (h : es[k]? = some y) : (scTo es p k)[k]? = some y := by
  have hk := (List.getElem?_eq_some_iff.1 h).1
  unfold scTo
  rw [List.getElem?_append_right (by rw [List.length_map, List.length_take]; omega), List.length_map, List.length_take, List.getElem?_drop, ← h]
  congr 1
  omega
theorem scTo_succ {es : List ElemD} {p : Int} {k : Nat} {y : ElemD} (h : es[k]? = some y) : scTo es p (k + 1) = (scTo es p k).set k (scaleE p y) := by
  have hk := (List.getElem?_eq_some_iff.1 h).1
  unfold scTo
  rw [take_snoc h, List.map_append, List.set_append_right _ _ (by rw [List.length_map, List.length_take]; omega), List.length_map, List.length_take]
  rw [show k - min k es.length = 0 from by omega, List.drop_eq_getElem_cons hk, List.set_cons_zero, List.map_cons, List.map_nil, List.append_assoc]
  rfl
theorem scTo_zero (es : List ElemD) (p : Int) : scTo es p 0 = es := by simp [scTo]
theorem scTo_full (es : List ElemD) (p : Int) : scTo es p es.length = es.map (scaleE p) := by simp [scTo]
end Go.Proofs.YtkekpolfdmmgeaaGreatDoor

/- Rows of elements of several cells: what copy, clear and the library's Delete and Insert do to a block that is known whole. -/
namespace Go.Proofs.YtkekpolfdmmgeaaGreatDoor
set_option linter.unusedVariables false
set_option linter.unusedSimpArgs false
open Go.RowKit

/-- cells written one after the other -/
def sets : Array Value → Nat → List Value → Array Value
  | cs, _, [] => cs
  | cs, o, v :: r => sets (cs.setIfInBounds o v) (o + 1) r
theorem Box.sets {b : Nat} {t : TypeId} : ∀ (vs : List Value) (o : Nat) (w : World) (cs : Array Value), Box w b t cs → Box (w.setCells b o vs) b t (sets cs o vs)
  | [], _, _, _, h => h
  | v :: r, o, w, cs, h => Box.sets r (o + 1) _ _ (h.set o v)
theorem only_sets (b : Nat) : ∀ (vs : List Value) (o : Nat) (w : World), Only [b] w (w.setCells b o vs)
  | [], _, w => Only.refl _ w
  | v :: r, o, w => (Only.setCell (Only.refl [b] w) (p := ⟨b, o, none⟩) (by simp) v).trans (only_sets b r (o + 1) _)
theorem sets_size : ∀ (vs : List Value) (o : Nat) (cs : Array Value), (sets cs o vs).size = cs.size
  | [], _, _ => rfl
  | v :: r, o, cs => by rw [sets, sets_size r]; simp
theorem sets_toList : ∀ (vs : List Value) (o : Nat) (cs : Array Value), o + vs.length ≤ cs.size → (sets cs o vs).toList = cs.toList.take o ++ vs ++ cs.toList.drop (o + vs.length)
  | [], o, cs, h => by simp [sets]
  | v :: r, o, cs, h => by
    have hlt : o < cs.toList.length := by simp at h ⊢; omega
    rw [sets, sets_toList r (o + 1) _ (by simp at h ⊢; omega)]
    simp only [Array.toList_setIfInBounds]
    rw [List.take_set, List.take_succ_eq_append_getElem hlt, List.set_append_right _ _ (by rw [List.length_take]; omega), List.length_take_of_le (by omega), Nat.sub_self]
    rw [List.drop_set_of_lt (by omega)]
    simp only [List.set_cons_zero, List.append_assoc, List.cons_append, List.nil_append, List.length_cons]
    rw [show o + 1 + r.length = o + (r.length + 1) from by omega]
theorem sets_take {cs : Array Value} {o m : Nat} {vs : List Value} (h : o + vs.length ≤ cs.size) (hm : m ≤ o) : (sets cs o vs).toList.take m = cs.toList.take m := by
  have hl : cs.toList.length = cs.size := by simp
  rw [sets_toList _ _ _ h, List.append_assoc, List.take_append_of_le_length (by rw [List.length_take]; omega), List.take_take, Nat.min_eq_left hm]
theorem sets_full {cs : Array Value} {o m : Nat} {vs : List Value} (h : o + vs.length ≤ cs.size) (hm : m = o + vs.length) : (sets cs o vs).toList.take m = cs.toList.take o ++ vs := by
  have hl : cs.toList.length = cs.size := by simp
  rw [sets_toList _ _ _ h, List.take_left' (by rw [List.length_append, List.length_take]; omega)]
theorem sets_drop {cs : Array Value} {o : Nat} {vs : List Value} (h : o + vs.length ≤ cs.size) : (sets cs o vs).toList.drop o = vs ++ cs.toList.drop (o + vs.length) := by
  have hl : cs.toList.length = cs.size := by simp
  rw [sets_toList _ _ _ h, List.append_assoc, List.drop_left' (by rw [List.length_take]; omega)]
theorem only_drew_sets (b : Nat) (vs : List Value) (o : Nat) (w : World) : Only [b] w (w.drew.setCells b o vs) := (Only.drewN (Only.refl [b] w) 1).trans (only_sets b vs o w.drew)
theorem own_box {w : World} {base : Nat} {e : TypeId} {size n cap g : Nat} {xs : List Value} (h : w.ownsRow base e size (.slice (some ⟨g, 0, none⟩) n cap) n xs) :
    ∃ cur, Box w g e cur ∧ n ≤ cap ∧ cap ≤ maxLen ∧ cur.size = cap * size ∧ cur.toList.take (n * size) = xs := by
  rcases h.2 with ⟨h, _⟩ | ⟨g', cap', cur, e1, _, hb, h1, h2, h3, h4⟩
  · cases h
  · injection e1 with e1 e2 e3
    injection e1 with e1
    injection e1 with e1
    subst e1 e3
    exact ⟨cur, hb, h1, h2, h3, h4⟩
theorem own_of_box {w : World} {base : Nat} {e : TypeId} {size n cap g : Nat} {xs : List Value} {cur : Array Value} (hb : Box w g e cur) (hg : base ≤ g) (h1 : n ≤ cap) (h2 : cap ≤ maxLen) (h3 : cur.size = cap * size) (h4 : cur.toList.take (n * size) = xs) :
    w.ownsRow base e size (.slice (some ⟨g, 0, none⟩) n cap) n xs := by
  refine ⟨?_, .inr ⟨g, cap, cur, rfl, hg, hb, h1, h2, h3, h4⟩⟩
  rw [← h4, List.length_take]
  have : cur.toList.length = cap * size := by simpa using h3
  rw [this, Nat.min_eq_left (Nat.mul_le_mul_right _ h1)]
theorem Box.some {w : World} {b : Nat} {t : TypeId} {cs : Array Value} (h : Box w b t cs) {j : Nat} (hj : j < cs.size) : (w.cell? ⟨b, j, none⟩).isSome = true := by
  rw [h.cell j, Array.getElem?_eq_getElem hj]
  rfl
theorem Box.at_ {w : World} {b : Nat} {t : TypeId} {cs : Array Value} (h : Box w b t cs) {j : Nat} {v : Value} (hj : cs.toList[j]? = Option.some v) : w.cell? ⟨b, j, none⟩ = Option.some v := by
  rw [h.cell j, ← Array.getElem?_toList]
  exact hj
theorem add_lit (b o j : Nat) : (⟨b, o, none⟩ : Addr).add j = ⟨b, o + j, none⟩ := by unfold Addr.add; split <;> simp_all

/-- copy(d, s), elements of several cells -/
theorem run_copyN {P : Program} (w : World) (dT sT ty elem : TypeId) (size : Nat) (b o dLen dCap : Nat) (a : Addr) (sLen sCap m : Nat) (cs : List Value)
    (hu : P.underlying dT = some (.slice elem)) (hs : (P.info? elem).map (·.size) = some size) (hm : Nat.min sLen dLen = m) (hn : cs.length = m * size)
    (hsrc : ∀ j v, cs[j]? = some v → w.cell? (a.add j) = some v) (hc : ∀ j, j < cs.length → (w.cell? ⟨b, o + j, none⟩).isSome = true) (hf : ∀ j, j < cs.length → w.frozen? ⟨b, o + j, none⟩ = false) (h1 : ∀ v ∈ cs, v.oneCell' = true) :
    (Builtin.copy_ #[dT, sT] ty #[.slice (some ⟨b, o, none⟩) dLen dCap, .slice (some a) sLen sCap]).run P w = .ok (goInt m) (w.setCells b o cs) := by
  have hl := run_loadCells_list (P := P) w a cs hsrc
  have hst := run_storeCells_cells (P := P) b o cs 0 w (by simpa using hc) (by simpa using hf) h1
  cases hq : P.info? elem with
  | none => simp [hq] at hs
  | some i =>
    have hi : i.size = size := by simpa [hq] using hs
    simp [Builtin.copy_, run_underlying hu, Builtin.lenOf, Builtin.firstCells, sizeOf, typeInfo, hq, hi, hm, ← hn, hl, hst]
theorem wp_copy_run {P : Program} (w : World) {o : Oper} {a : Act} {K : Act → World → Prop} {Q : Exit → Act → World → Prop} (d s : Operand) (t t' : TypeId)
    (ho : o.op = .call { callee := .builtin .copy, args := #[d, s], argTypes := #[t, t'] }) (v u : Value) (hd : a.eval d = v) (hs : a.eval s = u) {v' : Value} {w' : World}
    (hr : (Builtin.copy_ #[t, t'] o.type #[v, u]).run P w = .ok v' w') (h : K (a.put o.dst v') w') : o.wp P a w K Q := by
  unfold Oper.wp execOp
  simp only [ho, resolve, invoke, builtin, Sem.run_bind, Sem.run_pure, Result.andThen_ok, List.map_toArray, List.map_cons, List.map_nil, hd, hs, hr]
  exact h
theorem wpList_copy_run {P : Program} (w : World) {ops : Array Oper} {rest : List Oper} {o : Oper} {a : Act} {Q : Exit → Act → World → Prop} (hgd : o.guard = none) (d s : Operand) (t t' : TypeId)
    (ho : o.op = .call { callee := .builtin .copy, args := #[d, s], argTypes := #[t, t'] }) (v u : Value) (hd : a.eval d = v) (hs : a.eval s = u) {v' : Value} {w' : World}
    (hr : (Builtin.copy_ #[t, t'] o.type #[v, u]).run P w = .ok v' w') (h : wpList P ops Q rest (a.put o.dst v') w') : wpList P ops Q (o :: rest) a w :=
  wpList_plain hgd fun _ hK => wp_copy_run w d s t t' ho v u hd hs hr (hK _ _ h)
theorem step_copy_run {P : Program} {ops : Array Oper} {o : Oper} {a : Act} {w : World} {K : Act → World → Prop} {Q : Exit → Act → World → Prop} {E : Prop}
    (hg : o.guard = none) (d x : Operand) (dT sT : TypeId) (hop : o.op = Op.call { callee := Callee.builtin Builtin.copy, args := #[d, x], argTypes := #[dT, sT] })
    (v u : Value) (hd : a.eval d = v) (hx : a.eval x = u) {v' : Value} {w' : World} (hr : (Builtin.copy_ #[dT, sT] o.type #[v, u]).run P w = .ok v' w') (hK : K (a.put o.dst v') w') :
    if Region.wanted o (yielded ops a.tmps) = true then Oper.wp P o a w K Q else E := by
  have hw : Region.wanted o (yielded ops a.tmps) = true := by simp [Region.wanted, hg]
  rw [if_pos hw]
  exact wp_copy_run w d x dT sT hop v u hd hx hr hK
/-- clear(s), one element of several cells -/
theorem run_clear1 {P : Program} (w : World) (t e ty : TypeId) (z : Value) (ht : P.underlying t = some (.slice e)) (hv : ∀ w, (zeroValue e).run P w = .ok z w) (b o c : Nat) (hz : (Builtin.zeroCells z.cells 1).toList = z.cells.toList) (h1 : ∀ v ∈ z.cells.toList, v.oneCell' = true)
    (hc : ∀ j, j < z.cells.toList.length → (w.cell? ⟨b, o + j, none⟩).isSome = true) (hf : ∀ j, j < z.cells.toList.length → w.frozen? ⟨b, o + j, none⟩ = false) :
    (Builtin.clear_ #[t] ty #[.slice (some ⟨b, o, none⟩) 1 c]).run P w = .ok (.tuple #[]) (w.setCells b o z.cells.toList) := by
  have hst := run_storeCells_cells (P := P) b o z.cells.toList 0 w (by simpa using hc) (by simpa using hf) h1
  simp only [Nat.add_zero] at hst
  simp [Builtin.clear_, run_underlying ht, hv, hz, hst]
end Go.Proofs.YtkekpolfdmmgeaaGreatDoor

/- slices.Delete of one element and slices.Insert of one element, on rows of the call's own. -/
namespace Go.Proofs.YtkekpolfdmmgeaaGreatDoor
set_option linter.unusedVariables false
set_option linter.unusedSimpArgs false
open Go.RowKit

theorem zerocellsE : (Builtin.zeroCells (Value.agg #[.string ByteArray.empty, .int .i64 0, .int .i64 0, .int .i64 0]).cells 1).toList = (Value.agg #[.string ByteArray.empty, .int .i64 0, .int .i64 0, .int .i64 0]).cells.toList := by kernel_rfl
theorem zeroE (w : World) : (zeroValue 31).run Tryz.prog w = .ok (Value.agg #[.string ByteArray.empty, .int .i64 0, .int .i64 0, .int .i64 0]) w := by kernel_rfl
set_option maxRecDepth 100000 in
set_option maxHeartbeats 4000000 in
theorem delRowE (xs : List Value) (n i cap g : Nat) (w : World) (base : Nat) (ho : w.ownsRow base 31 4 (.slice (some ⟨g, 0, none⟩) n cap) n xs) (hi : i < n) (h1 : ∀ v ∈ xs, v.oneCell' = true) :
    Calls Tryz.prog 63 #[.slice (some ⟨g, 0, none⟩) n cap, .int .i64 i, .int .i64 ((i : Int) + 1)] w fun e w' =>
      e = .returned (.slice (some ⟨g, 0, none⟩) (n - 1) cap) ∧ w'.ownsRow base 31 4 (.slice (some ⟨g, 0, none⟩) (n - 1) cap) (n - 1) (xs.take (i * 4) ++ xs.drop ((i + 1) * 4)) ∧ Only [g] w w' := by
  obtain ⟨cur, B, hnc, hcm, hsz, htk⟩ := own_box ho
  have hg : base ≤ g := (ho.lt g rfl).1
  have hxl : xs.length = n * 4 := ho.1
  obtain ⟨i0, hi0, hz0, hz1, hz2⟩ := info_parts info_elem
  have hcml := hcm
  unfold maxLen at hcm
  -- the cells behind the element
  obtain ⟨news, hnews⟩ : ∃ news, news = xs.drop ((i + 1) * 4) := ⟨_, rfl⟩
  have hlen : news.length = (n - (i + 1)) * 4 := by rw [hnews, List.length_drop, hxl]; omega
  have hcl : cur.toList.length = cap * 4 := by simpa using hsz
  have hlt : n * 4 ≤ cap * 4 := Nat.mul_le_mul_right _ hnc
  have hB : Box w.drew g 31 cur := B
  have hcell : Hid (∀ t u, news[t]? = some u → w.drew.cell? ⟨g, (i + 1) * 4 + t, none⟩ = some u) := fun t u hu => by
    refine hB.at_ ?_
    have ht := (List.getElem?_eq_some_iff.1 hu).1
    rw [hlen] at ht
    rw [hnews, List.getElem?_drop, ← htk, List.getElem?_take_of_lt (by omega)] at hu
    exact hu
  have s2 : Hid (∀ u ∈ news, u.oneCell' = true) := fun u hu => h1 u (by rw [hnews] at hu; exact List.mem_of_mem_drop hu)
  have s3 : Hid (∀ t, t < news.length → (w.drew.cell? ⟨g, 0 + i * 4 + t, none⟩).isSome = true ∧ w.drew.frozen? ⟨g, 0 + i * 4 + t, none⟩ = false) := fun t ht => by
    rw [hlen] at ht
    exact ⟨hB.some (by omega), hB.free _⟩
  obtain ⟨W1, hW1⟩ : ∃ W1, W1 = w.drew.setCells g (0 + i * 4) news := ⟨_, rfl⟩
  have B1 : Box W1 g 31 (sets cur (0 + i * 4) news) := hW1 ▸ Box.sets news _ _ _ hB
  have Q1 : Only [g] w W1 := hW1 ▸ only_drew_sets g news _ w
  have hcl1 : ∀ ty c, (Builtin.clear_ #[23] ty #[.slice (some ⟨g, (n - 1) * 4, none⟩) 1 c]).run Tryz.prog W1 = .ok (.tuple #[]) (W1.setCells g ((n - 1) * 4) (Value.agg #[.string ByteArray.empty, .int .i64 0, .int .i64 0, .int .i64 0]).cells.toList) := fun ty c =>
    run_clear1 W1 _ _ ty (Value.agg #[.string ByteArray.empty, .int .i64 0, .int .i64 0, .int .i64 0]) Tryz.underlying23 zeroE g _ c zerocellsE (by decide) (fun j hj => B1.some (by rw [sets_size]; have : (Value.agg #[.string ByteArray.empty, .int .i64 0, .int .i64 0, .int .i64 0]).cells.toList.length = 4 := rfl; omega)) (fun j _ => B1.free _)
  have hfin : Hid ((sets (sets cur (0 + i * 4) news) ((n - 1) * 4) (Value.agg #[.string ByteArray.empty, .int .i64 0, .int .i64 0, .int .i64 0]).cells.toList).toList.take ((n - 1) * 4) = xs.take (i * 4) ++ xs.drop ((i + 1) * 4)) := by
    have hz : (Value.agg #[.string ByteArray.empty, .int .i64 0, .int .i64 0, .int .i64 0]).cells.toList.length = 4 := rfl
    rw [sets_take (by rw [sets_size, hz]; omega) (Nat.le_refl _), sets_full (by rw [hlen]; omega) (by rw [hlen]; omega), Nat.zero_add, ← hnews, ← htk, List.take_take, Nat.min_eq_left (by omega)]
    exact rfl
  have B2 : Box (W1.setCells g ((n - 1) * 4) (Value.agg #[.string ByteArray.empty, .int .i64 0, .int .i64 0, .int .i64 0]).cells.toList) g 31 (sets (sets cur (0 + i * 4) news) ((n - 1) * 4) (Value.agg #[.string ByteArray.empty, .int .i64 0, .int .i64 0, .int .i64 0]).cells.toList) := Box.sets _ _ _ _ B1
  have HW := Lib.hid hW1
  have HEND : Hid ((W1.setCells g ((n - 1) * 4) (Value.agg #[.string ByteArray.empty, .int .i64 0, .int .i64 0, .int .i64 0]).cells.toList).ownsRow base 31 4 (.slice (some ⟨g, 0, none⟩) (n - 1) cap) (n - 1) (xs.take (i * 4) ++ xs.drop ((i + 1) * 4)) ∧ Only [g] w (W1.setCells g ((n - 1) * 4) (Value.agg #[.string ByteArray.empty, .int .i64 0, .int .i64 0, .int .i64 0]).cells.toList)) :=
    ⟨own_of_box B2 hg (by omega) hcml (by rw [sets_size, sets_size]; exact hsz) hfin.out, Q1.trans (only_sets g _ _ W1)⟩
  have HL := Lib.hid hlen
  clear hW1 hlen hnews ho htk hsz hcl hlt hxl B hB B1 B2 Q1 hfin
  have hne : ((i : Int) == (i : Int) + 1) = false := beq_eq_false_iff_ne.2 (by omega)
  have hn1 : (i : Int) + 1 ≤ (n : Int) := by omega
  have htn : ((i : Int) + 1).toNat = i + 1 := by omega
  have hii : i + (n - (i + 1)) = n - 1 := by omega
  have hic : i ≤ cap := by omega
  have h0i : (0 : Int) ≤ (i : Int) + 1 := by omega
  have hjc : i + 1 ≤ cap := by omega
  have hjn : i + 1 ≤ n := by omega
  by_cases hcap : cap = i + 1
  · subst hcap
    have hii1 : (i : Int) ≤ (i : Int) + 1 := by omega
    have hnil : news = [] := List.eq_nil_of_length_eq_zero (by rw [HL.out]; omega)
    have SR : Hid (∀ t u, news[t]? = some u → w.drew.cell? ((⟨g, 0, none⟩ : Addr).add t) = some u) := fun t u hu => by rw [hnil] at hu; simp at hu
    clear hnil
    go_enter Tryz.func63, Tryz.ntmps63
    go_wp2_with fail
    go_region_law (refine step_append_room rfl (.tmp 22) (.tmp 25) 23 rfl 31 i0 4 Tryz.underlying23 hi0 hz1 g 0 i (i + 1) (by simp [Act.eval, Act.put]) ⟨g, 0, none⟩ (n - (i + 1)) (i + 1 - (i + 1)) news (by simp [Act.eval, Act.put]; omega) HL.out SR.out s2.out (by omega) s3.out ?_; rw [← HW.out, hii])
    have hcl2 := hcl1
    have hcn : ¬ i + 1 = n - 1 := by omega
    have hnn : n - (n - 1) = 1 := by omega
    have hb1 : (((n - 1 : Nat) : Int)) ≤ (n : Int) := by omega
    have hb2 : n - 1 ≤ n := by omega
    go_wp2
    go_ret
    exact ⟨rfl, HEND.out.1, HEND.out.2⟩
  · have SR : Hid (∀ t u, news[t]? = some u → w.drew.cell? ((⟨g, (i + 1) * 4, none⟩ : Addr).add t) = some u) := fun t u hu => by rw [add_lit]; exact hcell.out t u hu
    go_enter Tryz.func63, Tryz.ntmps63
    go_wp2_with fail
    go_region_law (refine step_append_room rfl (.tmp 22) (.tmp 25) 23 rfl 31 i0 4 Tryz.underlying23 hi0 hz1 g 0 i cap (by simp [Act.eval, Act.put]) ⟨g, (i + 1) * 4, none⟩ (n - (i + 1)) (cap - (i + 1)) news (by simp [Act.eval, Act.put, hcap]) HL.out SR.out s2.out (by omega) s3.out ?_; rw [← HW.out, hii])
    have hcl2 := hcl1
    have hcn : ¬ cap = n - 1 := by omega
    have hnn : n - (n - 1) = 1 := by omega
    have hb1 : (((n - 1 : Nat) : Int)) ≤ (n : Int) := by omega
    have hb2 : n - 1 ≤ n := by omega
    go_wp2
    go_ret
    exact ⟨rfl, HEND.out.1, HEND.out.2⟩
set_option maxRecDepth 100000 in
set_option maxHeartbeats 4000000 in
theorem insEndE (xs vs : List Value) (n cap g vb : Nat) (w : World) (base : Nat) (ho : w.ownsRow base 31 4 (.slice (some ⟨g, 0, none⟩) n cap) n xs) (hb : base ≤ w.heap.size) (hn : n ≤ 1000000)
    (hV : Box w vb 31 vs.toArray) (hvl : vs.length = 4) (h1v : ∀ v ∈ vs, v.oneCell' = true) :
    Calls Tryz.prog 58 #[.slice (some ⟨g, 0, none⟩) n cap, .int .i64 n, .slice (some ⟨vb, 0, none⟩) 1 1] w fun e w' =>
      ∃ v', e = .returned v' ∧ w'.ownsRow base 31 4 v' (n + 1) (xs ++ vs) ∧ w.grownBy w' (some g) := by
  obtain ⟨i0, hi0, hz0, hz1, hz2⟩ := info_parts info_elem
  have HO := Lib.hid ho
  have hnc : n ≤ cap := (own_box ho).choose_spec.2.1
  have hcm : cap ≤ maxLen := (own_box ho).choose_spec.2.2.1
  unfold maxLen at hcm
  have hS : Hid (Seq w (.slice (some ⟨vb, 0, none⟩) 1 1) 1 vs) := ⟨_, 1, rfl, Nat.le_refl _, by unfold maxLen; omega, (fun h => by cases h), fun _ => ⟨vb, 0, rfl, hV.lt, fun j u hu => by rw [Nat.zero_add]; exact hV.at_ (by simpa using hu)⟩⟩
  clear ho hV
  go_enter Tryz.func58, Tryz.ntmps58
  go_wp2_with (at_builtin; refine wpList_append_seq _ rfl _ _ 23 rfl base 31 i0 _ 4 40 Tryz.underlying23 hi0 hz0 hz1 hz2 rfl (by omega) _ n xs rfl HO.out _ 1 vs rfl hS.out (by omega) h1v (by unfold maxLen; omega) (by omega) hb ?_; intro v' w' q1 q2 q3)
  all_goals
    go_ret
    exact ⟨_, rfl, q1, q2⟩
set_option maxRecDepth 100000 in
set_option maxHeartbeats 4000000 in
theorem insRoomE (xs vs : List Value) (n i cap g vb : Nat) (w : World) (base : Nat) (ho : w.ownsRow base 31 4 (.slice (some ⟨g, 0, none⟩) n cap) n xs) (hi : i < n) (hn : n ≤ 1000000) (hroom : n + 1 ≤ cap)
    (h1 : ∀ v ∈ xs, v.oneCell' = true) (hV : Box w vb 31 vs.toArray) (hvl : vs.length = 4) (h1v : ∀ v ∈ vs, v.oneCell' = true) (hvb : vb ≠ g) :
    Calls Tryz.prog 58 #[.slice (some ⟨g, 0, none⟩) n cap, .int .i64 i, .slice (some ⟨vb, 0, none⟩) 1 1] w fun e w' =>
      ∃ v', e = .returned v' ∧ w'.ownsRow base 31 4 v' (n + 1) (xs.take (i * 4) ++ vs ++ xs.drop (i * 4)) ∧ Only [g] w w' := by
  obtain ⟨cur, B, hnc, hcm, hsz, htk⟩ := own_box ho
  have hg : base ≤ g := (ho.lt g rfl).1
  have hxl : xs.length = n * 4 := ho.1
  obtain ⟨i0, hi0, hz0, hz1, hz2⟩ := info_parts info_elem
  have hsize : (Tryz.prog.info? 31).map (·.size) = some 4 := by rw [hi0]; simp [hz1]
  have hcml := hcm
  unfold maxLen at hcm
  have hcl : cur.toList.length = cap * 4 := by simpa using hsz
  have hlt : (n + 1) * 4 ≤ cap * 4 := Nat.mul_le_mul_right _ hroom
  obtain ⟨rest, hrest⟩ : ∃ rest, rest = xs.drop (i * 4) := ⟨_, rfl⟩
  have hrl : rest.length = (n - i) * 4 := by rw [hrest, List.length_drop, hxl]; omega
  have hov : ∀ lb cb, (callFunc 105 #[.slice (some ⟨vb, 0, none⟩) 1 1, .slice (some ⟨g, (i + 1) * 4, none⟩) lb cb]).run Tryz.prog w = .ok (.value (.bool false)) w := fun lb cb => by
    rw [run_callFunc_extern Tryz.func105 (by kernel_rfl) (by kernel_rfl) (by kernel_rfl) (e := Extern.SlicesOverlaps.overlaps #[23, 23] #[4]) (by kernel_rfl),
      Lib.run_overlaps_apart w 23 4 31 Tryz.underlying23 4 (fun w => by simp [sizeOf, typeInfo, hi0, hz1]) ⟨vb, 0, none⟩ ⟨g, (i + 1) * 4, none⟩ 1 1 lb cb hvb 31 31 4 (cap * 4) (by unfold Box at hV; simp [World.shape?, hV, hvl]) (by unfold Box at B; simp [World.shape?, B, hsz]) (by omega) (hV.free _) (hV.free _)]
    rfl
  have hcp1 : ∀ ty dc sc, (Builtin.copy_ #[23, 23] ty #[.slice (some ⟨g, (i + 1) * 4, none⟩) (n - i) dc, .slice (some ⟨g, i * 4, none⟩) (n + 1 - i) sc]).run Tryz.prog w.drew = .ok (goInt ((n - i : Nat) : Int)) (w.drew.setCells g ((i + 1) * 4) rest) := fun ty dc sc =>
    run_copyN w.drew _ _ ty 31 4 g ((i + 1) * 4) (n - i) dc ⟨g, i * 4, none⟩ (n + 1 - i) sc (n - i) rest Tryz.underlying23 hsize (by simp only [Nat.min_def]; split <;> omega) hrl
      (fun j v hj => by
        rw [add_lit]
        refine B.at_ ?_
        have hjl := (List.getElem?_eq_some_iff.1 hj).1
        rw [hrest, List.getElem?_drop, ← htk, List.getElem?_take_of_lt (by omega)] at hj
        exact hj)
      (fun j hj => B.some (by omega)) (fun j _ => B.free _) (fun v hv => h1 v (by rw [hrest] at hv; exact List.mem_of_mem_drop hv))
  obtain ⟨W1, hW1⟩ : ∃ W1, W1 = w.drew.setCells g ((i + 1) * 4) rest := ⟨_, rfl⟩
  rw [← hW1] at hcp1
  have B1 : Box W1 g 31 (sets cur ((i + 1) * 4) rest) := hW1 ▸ Box.sets rest _ w.drew _ B
  have Q1 : Only [g] w W1 := hW1 ▸ only_drew_sets g rest _ w
  have V1 := hV.only Q1 (by simpa using hvb)
  have hcp2 : ∀ ty dc, (Builtin.copy_ #[23, 23] ty #[.slice (some ⟨g, i * 4, none⟩) (n + 1 - i) dc, .slice (some ⟨vb, 0, none⟩) 1 1]).run Tryz.prog W1 = .ok (goInt 1) (W1.setCells g (i * 4) vs) := fun ty dc =>
    run_copyN W1 _ _ ty 31 4 g (i * 4) (n + 1 - i) dc ⟨vb, 0, none⟩ 1 1 1 vs Tryz.underlying23 hsize (by simp only [Nat.min_def]; split <;> omega) (by omega)
      (fun j v hj => by
        rw [add_lit, Nat.zero_add]
        exact V1.at_ (by simpa using hj))
      (fun j hj => B1.some (by rw [sets_size]; omega)) (fun j _ => B1.free _) h1v
  have HEND : Hid ((W1.setCells g (i * 4) vs).ownsRow base 31 4 (.slice (some ⟨g, 0, none⟩) (n + 1) cap) (n + 1) (xs.take (i * 4) ++ vs ++ xs.drop (i * 4)) ∧ Only [g] w (W1.setCells g (i * 4) vs)) := by
    refine ⟨own_of_box (Box.sets vs _ _ _ B1) hg hroom hcml (by rw [sets_size, sets_size]; exact hsz) ?_, Q1.trans (only_sets g _ _ W1)⟩
    rw [sets_toList _ _ _ (by rw [sets_size]; omega), ← hrest, show i * 4 + vs.length = (i + 1) * 4 from by omega, sets_drop (by omega)]
    rw [sets_take (by omega) (by omega), ← htk, List.take_take, Nat.min_eq_left (by omega), ← List.append_assoc]
    exact List.take_left' (by rw [List.length_append, List.length_append, List.length_take, hcl]; omega)
  have HW := Lib.hid hW1
  clear hW1 hrl hrest ho htk hsz hcl hxl B B1 Q1 V1 hV hvl h1 h1v
  have hz1' : ((1 : Int) == 0) = false := rfl
  have hz2' : ((i : Int) == (n : Int)) = false := beq_eq_false_iff_ne.2 (by omega)
  have hz3 : ¬ ((cap : Int) < (n : Int) + 1) := by omega
  have hw1 : IntKind.i64.wrap ((i : Int) + 1) = (i : Int) + 1 := IntWalk.i64_in _ (by omega)
  have hb1 : (0 : Int) ≤ (i : Int) + 1 := by omega
  have htn : ((i : Int) + 1).toNat = i + 1 := by omega
  have htn2 : ((n : Int) + 1).toNat = n + 1 := by omega
  have hb2 : ¬ (cap = i + 1) := by omega
  have hb4 : ¬ (cap = i) := by omega
  have hb5 : (i : Int) + 1 ≤ (n : Int) + 1 := by omega
  have hb6 : (i : Int) ≤ (n : Int) + 1 := by omega
  have hb7 : i ≤ n := by omega
  have hb8 : (n : Int) + 1 ≤ (cap : Int) := by omega
  go_enter Tryz.func58, Tryz.ntmps58
  go_wp2_with (simp only [hov])
  go_region_law (refine step_copy_run rfl _ _ 23 23 rfl _ _ (by simp [Act.eval, Act.put]) (by simp [Act.eval, Act.put]) (hcp1 _ _ _) ?_)
  go_wp2_with (at_builtin; refine wpList_copy_run _ rfl _ _ 23 23 rfl _ _ rfl rfl (hcp2 _ _) ?_)
  go_ret
  exact ⟨_, rfl, HEND.out.1, HEND.out.2⟩
set_option maxRecDepth 100000 in
set_option maxHeartbeats 4000000 in
theorem insGrowE (xs vs : List Value) (n i cap g vb : Nat) (w : World) (base : Nat) (ho : w.ownsRow base 31 4 (.slice (some ⟨g, 0, none⟩) n cap) n xs) (hi : i < n) (hn : n ≤ 1000000) (hroom : cap < n + 1) (hbase : base ≤ w.heap.size)
    (h1 : ∀ v ∈ xs, v.oneCell' = true) (hV : Box w vb 31 vs.toArray) (hvl : vs.length = 4) (h1v : ∀ v ∈ vs, v.oneCell' = true) :
    Calls Tryz.prog 58 #[.slice (some ⟨g, 0, none⟩) n cap, .int .i64 i, .slice (some ⟨vb, 0, none⟩) 1 1] w fun e w' =>
      ∃ v', e = .returned v' ∧ w'.ownsRow base 31 4 v' (n + 1) (xs.take (i * 4) ++ vs ++ xs.drop (i * 4)) ∧ Only [] w w' := by
  obtain ⟨cur, B, hnc, hcm, hsz, htk⟩ := own_box ho
  have hxl : xs.length = n * 4 := ho.1
  obtain ⟨i0, hi0, hz0, hz1, hz2⟩ := info_parts info_elem
  have hsize : (Tryz.prog.info? 31).map (·.size) = some 4 := by rw [hi0]; simp [hz1]
  obtain rfl : cap = n := by omega
  unfold maxLen at hcm
  have hcl : cur.toList.length = cap * 4 := by simpa using hsz
  have htk' : cur.toList = xs := by rw [← htk, List.take_of_length_le (by omega)]
  obtain ⟨rest, hrest⟩ : ∃ rest, rest = xs.drop (i * 4) := ⟨_, rfl⟩
  have hrl : rest.length = (cap - i) * 4 := by rw [hrest, List.length_drop, hxl]; omega
  have hkk : (cap : Int) + 1 - (i : Int) = ((cap + 1 - i : Nat) : Int) := by omega
  have hik : i + (cap + 1 - i) = cap + 1 := by omega
  have hold : (Builtin.firstCells i0.size i (.slice (some ⟨g, 0, none⟩) i cap)).run Tryz.prog w.drew = .ok (xs.take (i * 4)).toArray w.drew := by
    rw [hz1]
    refine run_firstCells_some w.drew 4 i ⟨g, 0, none⟩ i cap (xs.take (i * 4)) (by rw [List.length_take]; omega) (fun j v hj => ?_)
    rw [add_lit, Nat.zero_add]
    refine B.at_ ?_
    rw [htk']
    rw [List.getElem?_take] at hj
    split at hj
    · exact hj
    · cases hj
  obtain ⟨G, hG⟩ : ∃ G, G = grownCap w (cap + 1) cap 31 := ⟨_, rfl⟩
  obtain ⟨ROW, hROW⟩ : ∃ ROW : Array Value, ROW = (xs.take (i * 4)).toArray ++ Builtin.zeroCells (Value.agg #[.string ByteArray.empty, .int .i64 0, .int .i64 0, .int .i64 0]).cells (cap + 1 - i) ++ Builtin.zeroCells (Value.agg #[.string ByteArray.empty, .int .i64 0, .int .i64 0, .int .i64 0]).cells (G - (cap + 1)) := ⟨_, rfl⟩
  have hrz : ∀ ty, (Builtin.append_ #[23, 3] ty #[.slice (some ⟨g, 0, none⟩) i cap, .int .i64 ((cap : Int) + 1 - (i : Int))]).run Tryz.prog w =
      .ok (.slice (some ⟨w.heap.size, 0, none⟩) (cap + 1) G) (w.drew.alloc (.cells ROW 31)) := fun ty => by
    have h := Lib.run_append_grow_zeros w 23 3 ty 31 i0 _ .i64 .i64 Tryz.underlying23 Tryz.underlying3 hi0 hz0 (some ⟨g, 0, none⟩) i cap (xs.take (i * 4)) hold (cap + 1 - i) (by omega) (by omega) (by omega) (by omega) (by rw [hz2]; omega) (by rw [hz2, hik]; exact growslice_fits hroom (by omega))
    rw [hik, ← hG, ← hROW] at h
    rw [hkk]
    exact h
  have hGn : cap + 1 ≤ G := by rw [hG]; exact grownCap_ge w _ _ _
  have hG63 : G ≤ maxLen := by rw [hG]; exact grownCap_le_maxLen w (cap + 1) cap 31 (by unfold maxLen; omega)
  have hzs : ∀ k, (Builtin.zeroCells (Value.agg #[.string ByteArray.empty, .int .i64 0, .int .i64 0, .int .i64 0]).cells k).size = k * 4 := fun k => by unfold Builtin.zeroCells; rw [Array.size_map, Array.size_range]; rfl
  have hRs : ROW.size = G * 4 := by
    rw [hROW, Array.size_append, Array.size_append, hzs, hzs, List.size_toArray, List.length_take, hxl]
    omega
  have hRt : ROW.toList.take (i * 4) = xs.take (i * 4) := by
    rw [hROW, Array.toList_append, Array.toList_append, List.append_assoc]
    exact List.take_left' (by rw [List.length_take]; omega)
  have hgw : g < w.heap.size := B.lt
  have hvw : vb < w.heap.size := hV.lt
  obtain ⟨W1, hW1⟩ : ∃ W1, W1 = (w.alloc (.cells ROW 31)).drew := ⟨_, rfl⟩
  have B1 : Box W1 w.heap.size 31 ROW := hW1 ▸ Box.new w w.heap.size 31 ROW rfl
  have k1 : Kept w W1 := hW1 ▸ ((Kept.refl w).alloc _).drew
  have BG := B.kept k1
  have V1 := hV.kept k1
  have hcpA : ∀ ty dc, (Builtin.copy_ #[23, 23] ty #[.slice (some ⟨w.heap.size, i * 4, none⟩) (cap + 1 - i) dc, .slice (some ⟨vb, 0, none⟩) 1 1]).run Tryz.prog W1 = .ok (goInt 1) (W1.setCells w.heap.size (i * 4) vs) := fun ty dc =>
    run_copyN W1 _ _ ty 31 4 w.heap.size (i * 4) (cap + 1 - i) dc ⟨vb, 0, none⟩ 1 1 1 vs Tryz.underlying23 hsize (by simp only [Nat.min_def]; split <;> omega) (by omega)
      (fun j v hj => by
        rw [add_lit, Nat.zero_add]
        exact V1.at_ (by simpa using hj))
      (fun j hj => B1.some (by omega)) (fun j _ => B1.free _) h1v
  obtain ⟨W2, hW2⟩ : ∃ W2, W2 = W1.setCells w.heap.size (i * 4) vs := ⟨_, rfl⟩
  rw [← hW2] at hcpA
  have B2 : Box W2 w.heap.size 31 (sets ROW (i * 4) vs) := hW2 ▸ Box.sets vs _ W1 _ B1
  have Q2 : Only [w.heap.size] W1 W2 := hW2 ▸ only_sets w.heap.size vs _ W1
  have BG2 := BG.only Q2 (by simp; omega)
  have hcpB : ∀ ty dc sc, (Builtin.copy_ #[23, 23] ty #[.slice (some ⟨w.heap.size, (i + 1) * 4, none⟩) (cap - i) dc, .slice (some ⟨g, i * 4, none⟩) (cap - i) sc]).run Tryz.prog W2.drew = .ok (goInt ((cap - i : Nat) : Int)) (W2.drew.setCells w.heap.size ((i + 1) * 4) rest) := fun ty dc sc =>
    run_copyN W2.drew _ _ ty 31 4 w.heap.size ((i + 1) * 4) (cap - i) dc ⟨g, i * 4, none⟩ (cap - i) sc (cap - i) rest Tryz.underlying23 hsize (by simp only [Nat.min_def]; split <;> omega) hrl
      (fun j v hj => by
        rw [add_lit]
        refine BG2.at_ ?_
        rw [htk']
        rw [hrest, List.getElem?_drop] at hj
        exact hj)
      (fun j hj => B2.some (by rw [sets_size]; omega)) (fun j _ => B2.free _) (fun v hv => h1 v (by rw [hrest] at hv; exact List.mem_of_mem_drop hv))
  have HEND : Hid ((W2.drew.setCells w.heap.size ((i + 1) * 4) rest).ownsRow base 31 4 (.slice (some ⟨w.heap.size, 0, none⟩) (cap + 1) G) (cap + 1) (xs.take (i * 4) ++ vs ++ xs.drop (i * 4)) ∧ Only [] w (W2.drew.setCells w.heap.size ((i + 1) * 4) rest)) := by
    refine ⟨own_of_box (Box.sets rest _ _ _ (show Box W2.drew _ _ _ from B2)) hbase hGn hG63 (by rw [sets_size, sets_size]; exact hRs) ?_, ?_⟩
    · rw [sets_full (by rw [sets_size, hRs]; omega) (by omega), sets_full (by rw [hRs]; omega) (by omega), hRt, ← hrest]
    · have := (Q2.above k1 (by simp))
      exact (((only_drew_sets w.heap.size rest ((i + 1) * 4) W2).above this (by simp))).only []
  have hGi : ¬ (G = i) := by omega
  have hGim : ¬ (G = i + 1) := by omega
  have hci : ¬ (cap = i) := by omega
  clear hG hROW hrl hrest ho htk htk' hcl hxl B B1 B2 Q2 V1 hV hvl h1 h1v hold BG BG2 hRs hRt hzs
  have HW1 := Lib.hid hW1
  have HW2 := Lib.hid hW2
  unfold maxLen at hG63
  rw [hW1] at hcpA
  clear hkk hik
  have hz1' : ((1 : Int) == 0) = false := rfl
  have hz2' : ((i : Int) == (cap : Int)) = false := beq_eq_false_iff_ne.2 (by omega)
  have hw1 : IntKind.i64.wrap ((i : Int) + 1) = (i : Int) + 1 := IntWalk.i64_in _ (by omega)
  have hb1 : (0 : Int) ≤ (i : Int) + 1 := by omega
  have htn : ((i : Int) + 1).toNat = i + 1 := by omega
  have hb5 : (i : Int) + 1 ≤ (cap : Int) + 1 := by omega
  have hb6 : (i : Int) ≤ (cap : Int) + 1 := by omega
  have hb7 : i ≤ cap := by omega
  have hb3 : (i : Int) ≤ (cap : Int) := by omega
  clear hW1 hW2
  go_enter Tryz.func58, Tryz.ntmps58
  go_wp2_with (first | (at_builtin; refine Lib.wpList_append_run _ rfl _ _ _ _ rfl _ _ rfl rfl _ _ (hrz _) ?_) | (at_builtin; refine wpList_copy_run _ rfl _ _ 23 23 rfl _ _ rfl rfl (hcpA _ _) ?_))
  go_region_law (refine step_copy_run rfl _ _ 23 23 rfl _ _ (by simp [Act.eval, Act.put]) (by simp [Act.eval, Act.put]) (hcpB _ _ _) ?_)
  go_wp2
  go_ret
  exact ⟨_, rfl, HEND.out.1, HEND.out.2⟩
end Go.Proofs.YtkekpolfdmmgeaaGreatDoor

/- Elements deleted from and inserted into rows; parts of slices of elements. -/
namespace Go.Proofs.YtkekpolfdmmgeaaGreatDoor
set_option linter.unusedVariables false
set_option linter.unusedSimpArgs false
open Go.RowKit

theorem flat_take {α β : Type} (f : α → List β) (m : Nat) (hf : ∀ x, (f x).length = m) : ∀ (l : List α) (k : Nat), (l.flatMap f).take (k * m) = (l.take k).flatMap f
  | [], k => by simp
  | x :: l, 0 => by simp
  | x :: l, k + 1 => by
    rw [List.take_succ_cons, List.flatMap_cons, List.flatMap_cons, Nat.succ_mul, Nat.add_comm, List.take_append, hf, Nat.add_sub_cancel_left, flat_take f m hf l k, List.take_of_length_le (by rw [hf]; omega)]
theorem flat_drop {α β : Type} (f : α → List β) (m : Nat) (hf : ∀ x, (f x).length = m) : ∀ (l : List α) (k : Nat), (l.flatMap f).drop (k * m) = (l.drop k).flatMap f
  | [], k => by simp
  | x :: l, 0 => by simp
  | x :: l, k + 1 => by
    rw [List.drop_succ_cons, List.flatMap_cons, Nat.succ_mul, Nat.add_comm, List.drop_append, hf, Nat.add_sub_cancel_left, flat_drop f m hf l k, List.drop_of_length_le (by rw [hf]; omega), List.nil_append]
theorem cells4_len (e : ElemD) : (cells4 e).length = 4 := rfl
theorem cells4_one (e : ElemD) : ∀ y ∈ cells4 e, y.oneCell' = true := by
  intro y hy
  simp only [cells4, List.mem_cons, List.not_mem_nil, or_false] at hy
  rcases hy with rfl | rfl | rfl | rfl <;> rfl
theorem flat_one (es : List ElemD) : ∀ y ∈ es.flatMap cells4, y.oneCell' = true := by
  intro y hy
  obtain ⟨e, _, he⟩ := List.mem_flatMap.1 hy
  exact cells4_one e y he
theorem delE_any (v : Value) (es : List ElemD) (i : Nat) (w : World) (base : Nat) (h : OwnE w base v es) (hi : i < es.length) :
    Calls Tryz.prog 63 #[v, .int .i64 i, .int .i64 ((i : Int) + 1)] w fun e w' => ∃ v', e = .returned v' ∧ OwnE w' base v' (es.take i ++ es.drop (i + 1)) ∧ Only (fp v) w w' := by
  obtain ⟨A, c, rfl, _, _, hA⟩ := own_form h.1
  obtain ⟨g, rfl⟩ := hA (by omega)
  refine (delRowE _ es.length i c g w base h.1 hi (flat_one es)).mono ?_
  rintro e w' ⟨rfl, h2, h3⟩
  refine ⟨_, rfl, ⟨?_, ?_⟩, h3⟩
  · rw [flat_take cells4 4 cells4_len, flat_drop cells4 4 cells4_len, ← List.flatMap_append] at h2
    rw [show (es.take i ++ es.drop (i + 1)).length = es.length - 1 from by rw [List.length_append, List.length_take, List.length_drop]; omega]
    exact h2
  · intro e he
    rcases List.mem_append.1 he with he | he
    · exact h.2 e (List.mem_of_mem_take he)
    · exact h.2 e (List.mem_of_mem_drop he)
theorem insE_any (v : Value) (es : List ElemD) (y : ElemD) (i vb : Nat) (w : World) (base : Nat) (h : OwnE w base v es) (h0 : 0 < es.length) (hi : i ≤ es.length) (hn : es.length ≤ 1000000) (hbase : base ≤ w.heap.size)
    (hV : Box w vb 31 #[.string y.name, .int .i64 y.family, .int .i64 y.level, .int .i64 y.base]) (hs : y.name.size ≤ maxLen) (hvb : ∀ b ∈ fp v, vb ≠ b) :
    Calls Tryz.prog 58 #[v, .int .i64 i, .slice (some ⟨vb, 0, none⟩) 1 1] w fun e w' => ∃ v', e = .returned v' ∧ OwnE w' base v' (es.take i ++ y :: es.drop i) ∧ Only (fp v) w w' := by
  obtain ⟨A, c, rfl, _, _, hA⟩ := own_form h.1
  obtain ⟨g, rfl⟩ := hA (by omega)
  have hne : vb ≠ g := hvb g (by simp [fp_some])
  have hV' : Box w vb 31 (cells4 y).toArray := hV
  have fin : ∀ (v' : Value) (w' : World), w'.ownsRow base 31 4 v' (es.length + 1) ((es.flatMap cells4).take (i * 4) ++ cells4 y ++ (es.flatMap cells4).drop (i * 4)) → OwnE w' base v' (es.take i ++ y :: es.drop i) := by
    intro v' w' h2
    refine ⟨?_, ?_⟩
    · rw [flat_take cells4 4 cells4_len, flat_drop cells4 4 cells4_len, List.append_assoc, ← List.flatMap_cons, ← List.flatMap_append] at h2
      rw [show (es.take i ++ y :: es.drop i).length = es.length + 1 from by rw [List.length_append, List.length_cons, List.length_take, List.length_drop]; omega]
      exact h2
    · intro e he
      rcases List.mem_append.1 he with he | he
      · exact h.2 e (List.mem_of_mem_take he)
      · rcases List.mem_cons.1 he with rfl | he
        · exact hs
        · exact h.2 e (List.mem_of_mem_drop he)
  rcases Nat.lt_or_eq_of_le hi with hlt | rfl
  · rcases Nat.lt_or_ge c (es.length + 1) with hc | hc
    · refine (insGrowE _ (cells4 y) es.length i c g vb w base h.1 hlt hn hc hbase (flat_one es) hV' rfl (cells4_one y)).mono ?_
      rintro e w' ⟨v', rfl, h2, h3⟩
      exact ⟨v', rfl, fin v' w' h2, h3.mono (fun _ h => by cases h)⟩
    · refine (insRoomE _ (cells4 y) es.length i c g vb w base h.1 hlt hn hc (flat_one es) hV' rfl (cells4_one y) hne).mono ?_
      rintro e w' ⟨v', rfl, h2, h3⟩
      exact ⟨v', rfl, fin v' w' h2, h3⟩
  · refine (insEndE _ (cells4 y) es.length c g vb w base h.1 hbase hn hV' rfl (cells4_one y)).mono ?_
    rintro e w' ⟨v', rfl, h2, h3⟩
    refine ⟨v', rfl, fin v' w' ?_, only_of_grown (v := .slice (some ⟨g, 0, none⟩) es.length c) h3⟩
    rw [List.take_of_length_le (by rw [flat_length cells4 4 cells4_len]; omega), List.drop_of_length_le (by rw [flat_length cells4 4 cells4_len]; omega), List.append_nil]
    exact h2
/-- s[:i] -/
theorem elems_to {w : World} {b o n c : Nat} {es : List ElemD} (h : Elems w (.slice (some ⟨b, o, none⟩) n c) es) (hn : es.length = n) {i : Nat} (hi : i ≤ n) : Elems w (.slice (some ⟨b, o, none⟩) i c) (es.take i) := by
  obtain ⟨⟨A, c', e, h1, h2, h3, h4⟩, h5⟩ := h
  injection e with e1 e2 e3
  subst e1 e3
  refine ⟨?_, fun e he => h5 e (List.mem_of_mem_take he)⟩
  rw [List.length_take, hn, Nat.min_eq_left hi]
  refine ⟨_, c, rfl, by omega, h2, (fun h => by cases h), fun hp => ?_⟩
  obtain ⟨b', o', e1, hb, hc⟩ := h4 (by omega)
  injection e1 with e1
  injection e1 with e1 e2
  subst e1 e2
  refine ⟨b, o, rfl, hb, fun j u hu => hc j u ?_⟩
  rw [← flat_take cells4 4 cells4_len, List.getElem?_take] at hu
  split at hu
  · exact hu
  · cases hu
/-- s[k:], not at the end of the capacity -/
theorem elems_from {w : World} {b o n c : Nat} {es : List ElemD} (h : Elems w (.slice (some ⟨b, o, none⟩) n c) es) (hn : es.length = n) {k : Nat} (hk : k ≤ n) : Elems w (.slice (some ⟨b, o + k * 4, none⟩) (n - k) (c - k)) (es.drop k) := by
  obtain ⟨⟨A, c', e, h1, h2, h3, h4⟩, h5⟩ := h
  injection e with e1 e2 e3
  subst e1 e3
  refine ⟨?_, fun e he => h5 e (List.mem_of_mem_drop he)⟩
  rw [List.length_drop, hn]
  refine ⟨_, c - k, rfl, by omega, by unfold maxLen at *; omega, (fun h => by cases h), fun hp => ?_⟩
  obtain ⟨b', o', e1, hb, hc⟩ := h4 (by omega)
  injection e1 with e1
  injection e1 with e1 e2
  subst e1 e2
  refine ⟨b, o + k * 4, rfl, hb, fun j u hu => ?_⟩
  rw [← flat_drop cells4 4 cells4_len, List.getElem?_drop] at hu
  rw [Nat.add_assoc]
  exact hc _ u hu
/-- s[k:] at the end of the capacity -/
theorem elems_none {w : World} {b o : Nat} {es : List ElemD} {k : Nat} (hk : es.length ≤ k) : Elems w (.slice (some ⟨b, o, none⟩) 0 0) (es.drop k) := by
  rw [List.drop_of_length_le hk]
  exact ⟨⟨_, 0, rfl, Nat.le_refl _, Nat.zero_le _, (fun h => by cases h), fun h => absurd h (by simp)⟩, fun _ h => by cases h⟩
end Go.Proofs.YtkekpolfdmmgeaaGreatDoor
