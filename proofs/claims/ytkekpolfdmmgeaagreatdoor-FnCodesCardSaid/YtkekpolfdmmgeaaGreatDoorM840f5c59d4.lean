/- Contracts of functions that the proof leans on. No condition. -/
import Derived.Test.YtkekpolfdmmgeaaGreatDoorM529cd0b7fe
import Derived.Deep.RegionHeld3
import Derived.Deep.DeepCutAuto
import Derived.Test.YtkekpolfdmmgeaaGreatDoorRows
import Derived.WalkKit
import Derived.ProofKit
import Derived.OpenShut
import Derived.ShutString
import Derived.ChangeOld
import Derived.Below
import Derived.LaidMore
import Derived.Lay
import Derived.MakeChecks
import Derived.Stop.LaidErr
import Derived.Shelf.Vars
import Derived.Lib.LaidTab
import Derived.OpenVars
import Derived.Test.YtkekpolfdmmgeaaGreatDoorShelf
/- Items: the text of an item, both sides. -/
namespace Go.Proofs.YtkekpolfdmmgeaaGreatDoor
set_option linter.unusedVariables false
set_option linter.unusedSimpArgs false
set_option linter.unnecessarySimpa false
open Go.RowKit Go.Lib

def itT (it : ItemD) : ByteArray := tx (itTxt it)
def sgB (m : Nat) : ByteArray := tx (signL (m : Int))
theorem sgB_size (m : Nat) : (sgB m).size ≤ 1 := by
  unfold sgB
  rw [tx_size]
  unfold signL
  split
  · simp
  · split
    · simp
    · split <;> simp
theorem itW_length {it : ItemD} (h : it.marks.length = it.names.length) : (itW it).length = it.names.length := by
  unfold itW
  rw [List.length_map, List.length_zip]
  omega
theorem itW_get {it : ItemD} {k : Nat} {s : ByteArray} {m : Nat} (h1 : it.names[k]? = some s) (h2 : it.marks[k]? = some (m : Int)) : (itW it)[k]? = some (s.data.toList ++ signL (m : Int)) := by
  unfold itW
  rw [List.getElem?_map, (List.getElem?_zip_eq_some (z := (s, (m : Int)))).2 ⟨h1, h2⟩]
  rfl
/-- The text of the first k words. -/
def jW (it : ItemD) (k : Nat) : ByteArray := tx (join ((itW it).take k) [43])
theorem jW_zero (it : ItemD) : jW it 0 = ⟨#[]⟩ := rfl
theorem jW_one {it : ItemD} {s : ByteArray} {m : Nat} (h1 : it.names[0]? = some s) (h2 : it.marks[0]? = some (m : Int)) : jW it 1 = s ++ sgB m := by
  unfold jW
  rw [take_snoc (itW_get h1 h2), List.take_zero, List.nil_append, join_one, ← tx_app, tx_of]
  rfl
theorem jW_succ {it : ItemD} {k : Nat} {s : ByteArray} {m : Nat} (hk : 0 < k) (h1 : it.names[k]? = some s) (h2 : it.marks[k]? = some (m : Int)) : jW it (k + 1) = jW it k ++ ⟨#[43]⟩ ++ (s ++ sgB m) := by
  have hg := itW_get h1 h2
  have hne : (itW it).take k ≠ [] := by
    intro e
    have h0 := congrArg List.length e
    have hlt := (List.getElem?_eq_some_iff.1 hg).1
    rw [List.length_take, List.length_nil] at h0
    omega
  unfold jW
  rw [take_snoc hg, join_snoc _ _ _ hne]
  show tx (_ ++ [43] ++ _) = tx _ ++ tx [43] ++ (s ++ sgB m)
  rw [tx_app]
  rw [← tx_app]
  congr 1
theorem word_size {it : ItemD} (hb : itemB it = true) {k : Nat} {s : ByteArray} (h : it.names[k]? = some s) : s.size ≤ 5 := by
  have hn := (item_of hb).1 s (List.mem_of_getElem? h)
  unfold nameB at hn
  simp only [Bool.and_eq_true] at hn
  have := inB_true hn.2
  omega
theorem jW_size {it : ItemD} (hb : itemB it = true) : ∀ k, k ≤ it.names.length → (jW it k).size ≤ 7 * k
  | 0, _ => by rw [jW_zero]; exact Nat.le_refl 0
  | k + 1, hk => by
    obtain ⟨_, hm, hl, _, _⟩ := item_of hb
    have h1 : it.names[k]? = some it.names[k] := List.getElem?_eq_getElem (by omega)
    have h2 : it.marks[k]? = some it.marks[k] := List.getElem?_eq_getElem (by omega)
    have hmm := hm _ (List.mem_of_getElem? h2)
    obtain ⟨m, e⟩ : ∃ m : Nat, it.marks[k] = (m : Int) := by
      rcases sign_of hmm with e | e | e | e
      · exact ⟨0, e⟩
      · exact ⟨1, e⟩
      · exact ⟨2, e⟩
      · exact ⟨3, e⟩
    rw [e] at h2
    have ih := jW_size hb k (by omega)
    have hs := word_size hb h1
    have hg := sgB_size m
    rcases Nat.eq_zero_or_pos k with h0 | h0
    · subst h0
      rw [jW_one h1 h2, ByteArray.size_append]
      omega
    · rw [jW_succ h0 h1 h2, ByteArray.size_append, ByteArray.size_append, ByteArray.size_append]
      have e1 : (⟨#[43]⟩ : ByteArray).size = 1 := rfl
      omega
theorem itT_of {it : ItemD} (hb : itemB it = true) : itT it = if it.late then jW it it.names.length ++ ⟨#[32, 120]⟩ else jW it it.names.length := by
  have hl := (item_of hb).2.2.1
  have e : (itW it).take it.names.length = itW it := List.take_of_length_le (by rw [itW_length hl]; exact Nat.le_refl _)
  unfold itT itTxt jW lateL
  rw [e]
  cases it.late with
  | true =>
    show tx (_ ++ [32, 120]) = tx _ ++ tx [32, 120]
    rw [tx_app]
  | false =>
    show tx (_ ++ []) = _
    rw [List.append_nil]
    rfl
theorem itT_size {it : ItemD} (hb : itemB it = true) : (itT it).size ≤ 23 := by
  have h1 := jW_size hb it.names.length (Nat.le_refl _)
  have h2 := (item_of hb).2.2.2.2
  rw [itT_of hb]
  cases it.late with
  | true =>
    show (_ ++ _ : ByteArray).size ≤ 23
    rw [ByteArray.size_append]
    have e : (⟨#[32, 120]⟩ : ByteArray).size = 2 := rfl
    omega
  | false => show (jW it it.names.length).size ≤ 23; omega
theorem mark_nat {it : ItemD} (hb : itemB it = true) {k : Nat} {z : Int} (h : it.marks[k]? = some z) : ∃ m : Nat, z = (m : Int) ∧ m ≤ 3 := by
  have := sign_of ((item_of hb).2.1 z (List.mem_of_getElem? h))
  rcases this with rfl | rfl | rfl | rfl
  · exact ⟨0, rfl, by omega⟩
  · exact ⟨1, rfl, by omega⟩
  · exact ⟨2, rfl, by omega⟩
  · exact ⟨3, rfl, by omega⟩
def sgCells : Array Value := #[.string ⟨#[]⟩, .string ⟨#[60]⟩, .string ⟨#[101]⟩, .string ⟨#[42]⟩]
theorem sgCells_at {m : Nat} (h : m ≤ 3) : sgCells.toList[m]? = some (.string (sgB m)) := by
  have hm : m = 0 ∨ m = 1 ∨ m = 2 ∨ m = 3 := by omega
  rcases hm with rfl | rfl | rfl | rfl <;> rfl
theorem itSigns_any (w : World) :
    Calls Tryz.prog 118 #[] w fun e w' => e = .returned (.slice (some ⟨w.heap.size, 0, none⟩) 4 4) ∧ Box w' w.heap.size 9 sgCells ∧ Kept w w' := by
  go_enter Tryz.func118, Tryz.ntmps118
  go_wp2_with fail
  go_ret
  exact ⟨rfl, Box.new w _ _ _ rfl, (Kept.refl w).alloc _⟩
set_option maxRecDepth 100000 in
set_option maxHeartbeats 8000000 in
theorem itText_any (v : Value) (it : ItemD) (w : World) (h : ItemAt w v it) (hb : itemB it = true) :
    Calls Tryz.prog 89 #[v] w fun e w' => e = .returned (.string (itT it)) ∧ Kept w w' := by
  obtain ⟨nv, mv, rfl, q1, q2⟩ := h
  obtain ⟨A1, c1, rfl, hnc1, hcm1, _⟩ := q1.1.out
  obtain ⟨A2, c2, rfl, hnc2, hcm2, _⟩ := q2.out
  unfold maxLen at hcm1 hcm2
  have H1 := Lib.hid q1
  have H2 := Lib.hid q2
  have HB := Lib.hid hb
  obtain ⟨_, _, hml, hne, hn3⟩ := item_of hb
  have HML := Lib.hid hml
  have hn1 : 0 < it.names.length := by cases hq : it.names with | nil => exact absurd hq hne | cons _ _ => simp
  clear q1 q2 hb hml hne
  go_enter Tryz.func89, Tryz.ntmps89
  have B0 := Box.new w w.heap.size 64 #[.slice A1 it.names.length c1, .slice A2 it.marks.length c2, .bool it.late] rfl
  have K0 : Kept w (w.alloc (.cells #[.slice A1 it.names.length c1, .slice A2 it.marks.length c2, .bool it.late] 64)) := (Kept.refl w).alloc _
  go_wp2_with fail
  generalize w.alloc (.cells #[.slice A1 it.names.length c1, .slice A2 it.marks.length c2, .bool it.late] 64) = w0 at *
  go_loopw [3, 9] (fun s3 s9 wr => ∃ k : Nat, k ≤ it.names.length ∧ s9 = .int .i64 k ∧ s3 = .string (jW it k) ∧ Kept w0 wr) (fun _ i _ => it.names.length - (RowKit.intOf i).toNat)
  case atStart => exact ⟨0, Nat.zero_le _, rfl, by rw [jW_zero], Kept.refl _⟩
  case round =>
    obtain ⟨k, hk, rfl, rfl, hkept⟩ := hrel
    by_cases hlt : k < it.names.length
    · obtain ⟨b, o, s, rfl, hbb, hs, hc⟩ := strs_at (H1.out.1.addr.kept (K0.trans hkept)) hlt
      obtain ⟨b2, o2, z, rfl, hb2, hz, hc2⟩ := ints_at (H2.out.addr.kept (K0.trans hkept)) (k := k) (by rw [HML.out]; exact hlt)
      obtain ⟨m, rfl, hm3⟩ := mark_nat HB.out hz
      have hmk : (k : Int) < (it.marks.length : Int) := by rw [HML.out]; omega
      have hmk2 : k < it.marks.length := by rw [HML.out]; exact hlt
      have hm4 : (m : Int) < 4 := by omega
      have hs5 := word_size HB.out hs
      have hsg := sgB_size m
      have hj := jW_size HB.out k hk
      have hBk := B0.kept hkept
      obtain ⟨x0, y0⟩ := hBk.three
      have AW := Lib.hid (cat_run (x := s) (y := sgB m) rfl (by omega))
      have HS := Lib.hid hs
      have HZ := Lib.hid hz
      clear hs hz
      by_cases hk0 : k = 0
      · have hd : decide ((0 : Int) < (k : Int)) = false := by simp; omega
        have hd2 : decide (0 < k) = false := by simp; omega
        have AJ : Hid (Op.stringOp .add (jW it k) (s ++ sgB m) = pure (.string (jW it (k + 1)))) := Lib.hid (by
          subst hk0
          refine cat_run ?_ (by rw [ByteArray.size_append]; omega)
          rw [jW_one HS.out HZ.out, jW_zero]
          show tx [] ++ _ = _
          rw [← tx_of (s ++ sgB m), tx_app]
          rfl)
        clear hk0
        have aw := AW.out
        have aj := AJ.out
        go_wp2_with fail
        clear hd hd2
        go_region_with (go_at_call 118; (with_reducible refine (itSigns_any _).mono ?_); rintro e w1 ⟨rfl, b1, k1⟩; have kk := hkept.trans ((Kept.refl _).drew.trans k1); obtain ⟨x1, y1⟩ := (B0.kept kk).three; have hc3 := (((Kept.refl _).drew.trans k1).cell (p := ⟨b2, o2 + k, none⟩) hb2).trans hc2; have hc4 : w1.cell? ⟨wr.heap.size, m, none⟩ = some (.string (sgB m)) := b1.at_ (sgCells_at hm3); clear y1 b1)
        all_goals
          go_wp2_with fail
          go_roundw
          case rel => exact ⟨k + 1, by omega, by go_num, rfl, kk⟩
          case measure => simp [RowKit.intOf]; omega
      · have hd : (0 : Int) < (k : Int) := by omega
        have hd2 : 0 < k := by omega
        have AP := Lib.hid (cat_run (x := jW it k) (y := ⟨#[43]⟩) rfl (by have e : (⟨#[43]⟩ : ByteArray).size = 1 := rfl; omega))
        have AJ : Hid (Op.stringOp .add (jW it k ++ ⟨#[43]⟩) (s ++ sgB m) = pure (.string (jW it (k + 1)))) := Lib.hid (cat_run (jW_succ hd2 HS.out HZ.out).symm (by rw [ByteArray.size_append, ByteArray.size_append]; have e : (⟨#[43]⟩ : ByteArray).size = 1 := rfl; omega))
        clear hk0
        have ap := AP.out
        go_wp2_with fail
        clear ap
        have aw := AW.out
        have aj := AJ.out
        go_region_with (go_at_call 118; (with_reducible refine (itSigns_any _).mono ?_); rintro e w1 ⟨rfl, b1, k1⟩; have kk := hkept.trans ((Kept.refl _).drew.trans k1); obtain ⟨x1, y1⟩ := (B0.kept kk).three; have hc3 := (((Kept.refl _).drew.trans k1).cell (p := ⟨b2, o2 + k, none⟩) hb2).trans hc2; have hc4 : w1.cell? ⟨wr.heap.size, m, none⟩ = some (.string (sgB m)) := b1.at_ (sgCells_at hm3); clear y1 b1)
        all_goals
          go_wp2_with fail
          go_roundw
          case rel => exact ⟨k + 1, by omega, by go_num, rfl, kk⟩
          case measure => simp [RowKit.intOf]; omega
    · obtain rfl : k = it.names.length := by omega
      have hBk := B0.kept hkept
      obtain ⟨x0, y0⟩ := hBk.three
      have HT := Lib.hid (itT_of HB.out)
      have hj := jW_size HB.out it.names.length (Nat.le_refl _)
      have AL := Lib.hid (cat_run (x := jW it it.names.length) (y := ⟨#[32, 120]⟩) rfl (by have e : (⟨#[32, 120]⟩ : ByteArray).size = 2 := rfl; omega))
      have al := AL.out
      cases hla : it.late with
      | true =>
        rw [hla] at x0
        have HLA := Lib.hid hla
        clear hla
        go_wp2_with fail
        go_ret
        exact ⟨ret_str (by rw [HT.out, HLA.out]; rfl), K0.trans hkept⟩
      | false =>
        rw [hla] at x0
        have HLA := Lib.hid hla
        clear hla
        go_wp2_with fail
        go_ret
        exact ⟨ret_str (by rw [HT.out, HLA.out]; rfl), K0.trans hkept⟩
end Go.Proofs.YtkekpolfdmmgeaaGreatDoor

/- The rows' step for statements that list package-level variables: the wrap with the listed variables and the world's shape; what the listed variables give a walk. -/
namespace Go.Proofs.YtkekpolfdmmgeaaGreatDoor
set_option linter.unusedVariables false
set_option linter.unusedSimpArgs false
set_option linter.unnecessarySimpa false
open Go.ChangeShapes Go.WideShapes Go.ChangeAt Go.RowKit

theorem returns_lot {H : Type} {enc : TypeId × Value → H} {a : Assume} {C : Checked} {os : Os} {f : FuncId} {fn : Func} {s : ChangeSpec} {conds : List PathCond} {apart fresh handsOn again : Bool} {X : World → Array Value → Prop}
    (hX : ∀ (w w' : World) (args : Array Value), w.heap = w'.heap → X w args → X w' args)
    (own : ownKnob C.prog.godebug = none) (started : os.Started) (noInit : C.prog.inits.idxOf? f = none) (hfn : C.prog.funcs[f]? = some fn)
    (witness : ∃ (w : World) (tape : Tape) (i : Input), w.os = os ∧ (w.forCall tape i).Shaped C.prog ∧ i.vars = [] ∧ Input.okWide C.prog (w.forCall tape i) .any w.heap.size f i ∧
      ((s.pre enc C.prog fn conds apart (w.forCall tape i).memory i.args ∧ X (w.forCall tape i).memory i.args) ∧ sizedMet enc C.prog fn (OpenSpec.ofChange s) apart (w.forCall tape i).memory i.args) ∧ a.holds C.prog (lone (Frame.enter C.prog f i.args .normal) [] (w.forCall tape i)))
    (contract : ∀ (W : World) (base : Nat) (args : Array Value) (ds gs : List (DataW H)) (before : List MemPlace),
      (∀ (j : Nat) t v, fn.params[j]? = some t → args[j]? = some v → Value.okWide C.prog W .any base t v) →
      DataW.Whole enc C.prog fn.params.toList s.vars apart W args.toList ds gs before →
      X W args → W.ShapedOpen C.prog →
      Calls C.prog f args W fun e W' => ∃ v, e = .returned v ∧ s.post enc C.prog fn apart fresh handsOn again W args v W') :
    ReturnsInHanded a C os f .any (fun w args => (s.pre enc C.prog fn conds apart w args ∧ X w args) ∧ sizedMet enc C.prog fn (OpenSpec.ofChange s) apart w args) (s.post enc C.prog fn apart fresh handsOn again) := by
  refine returnsInHanded_of_calls own started noInit witness ?_
  intro w tape i _ hsh _ hok hpre hholds
  obtain ⟨_, _, _, fn', hfn', _, _, _, _, hval⟩ := hok
  have e : fn' = fn := Option.some.inj (hfn'.symm.trans hfn)
  subst e
  obtain ⟨⟨⟨ds, gs, before, hw, hc⟩, hx⟩, hz⟩ := hpre
  have hw' := DataW.Whole.of_heap (w' := w.forCall tape i) (by rfl) hw
  refine (contract (w.forCall tape i) w.heap.size i.args ds gs before hval hw' (hX _ _ _ (by rfl) hx) hsh).mono fun e W' ⟨v, he, hp⟩ => ?_
  subst he
  exact ChangeSpec.post_blind hp
theorem tab_of {W : World} {rest : List (String × DataW Unit)} (h : laidMet Tryz.prog (("math/bits.deBruijn32tab", Rows.laid_math_bits_deBruijn32tab) :: ("math/bits.deBruijn64tab", Rows.laid_math_bits_deBruijn64tab) :: ("internal/strconv.uint64pow10", Rows.laid_internal_strconv_uint64pow10) :: rest) W) : HasTab W := by
  have h3 := h.tail.tail
  have e : (Rows.laid_internal_strconv_uint64pow10 : DataW Unit) = Lib.tabData .u64 Lib.pow10Tab := by kernel_rfl
  rw [e] at h3
  have hg : Tryz.prog.globalNamed "internal/strconv.uint64pow10" = some 2 := by kernel_rfl
  have ht := Lib.tabIs_of_head (g := 2) hg (by kernel_rfl) Tryz.underlying174 Tryz.underlying84 (by kernel_rfl) (by kernel_rfl) h3
  refine ⟨ht, ?_⟩
  have hv := ht.cell hg 0 (by decide)
  unfold World.cell? at hv
  cases hh : W.heap[2]? with
  | none => rw [hh] at hv; cases hv
  | some o => exact (Array.getElem?_eq_some_iff.1 hh).1
def HasMax (w : World) : Prop := ∃ m, w.cell? ⟨1, 0, none⟩ = some (.int .i64 m)
theorem cell_lt {w : World} {g o : Nat} {v : Value} (h : w.cell? ⟨g, o, none⟩ = some v) : g < w.heap.size := by
  unfold World.cell? at h
  cases hh : w.heap[g]? with
  | none => simp [hh] at h
  | some o => exact (Array.getElem?_eq_some_iff.1 hh).1
theorem HasMax.kept {w w' : World} (h : HasMax w) (k : Kept w w') : HasMax w' := by
  obtain ⟨m, hm⟩ := h
  exact ⟨m, (k.cell (p := ⟨1, 0, none⟩) (cell_lt hm)).trans hm⟩
theorem max_of {W : World} (h : W.ShapedOpen Tryz.prog) : HasMax W :=
  Go.Proofs.cell_of_shapedOpen_int (zero := #[.int .i64 0]) (t := 3) h (of_decide_eq_true (by kernel_rfl)) (by kernel_rfl) rfl (by kernel_rfl) (by kernel_rfl) Tryz.underlying3
end Go.Proofs.YtkekpolfdmmgeaaGreatDoor

/- The marks' signs: what the listed variable gives a walk. -/
namespace Go.Proofs.YtkekpolfdmmgeaaGreatDoor
set_option linter.unusedVariables false
set_option linter.unusedSimpArgs false
set_option linter.unnecessarySimpa false
open Go.ChangeShapes Go.WideShapes Go.ChangeAt Go.RowKit Go.Lib

/-- the marks' signs read as their initialiser lays them -/
def HasSigns (w : World) : Prop := ∀ m, m ≤ 3 → w.cell? ⟨0, m, none⟩ = some (.string (sgB m))
theorem HasSigns.kept {w w' : World} (h : HasSigns w) (k : Kept w w') : HasSigns w' := fun m hm =>
  (k.cell (p := ⟨0, m, none⟩) (cell_lt (h m hm))).trans (h m hm)
theorem signs_head {W : World} {rest : List (String × DataW Unit)} (h : laidMet Tryz.prog (("loop.example/g00912/impl.markSigns", Rows.laid_loop_example_g00912_impl_markSigns) :: rest) W) : HasSigns W := by
  intro r hr
  obtain ⟨ps, ⟨g, t, cs, fuel, p, q, hg, ht, hv, hd, _, _⟩, _, _⟩ := h
  obtain rfl := Option.some.inj ((show Tryz.prog.globalNamed "loop.example/g00912/impl.markSigns" = some 0 by kernel_rfl).symm.trans hg)
  obtain rfl := Option.some.inj ((show (Tryz.prog.globals[0]?).map (·.type) = some 115 by kernel_rfl).symm.trans ht)
  obtain ⟨xs, m, _, ex, _, hl, hel⟩ := DataW.trod_array Tryz.underlying115 hd
  have c5 : Tryz.prog.cellsOf 9 = 1 := by kernel_rfl
  have hE := hel r (by omega)
  rw [c5, Nat.mul_one, List.getElem?_eq_getElem (by omega)] at hE
  obtain ⟨z, e1, e2, _⟩ := DataW.trod_string Tryz.underlying9 hE
  have e3 : (xs.map (·.1)) = [.lit (.string []), .lit (.string [60]), .lit (.string [101]), .lit (.string [42])] := (DataW.agg.inj (Prod.mk.inj ex).1).symm
  have e4 : (xs.map (·.1))[r]? = some (.lit (.string (signL (r : Int)))) := by
    rw [e3]
    have hm : r = 0 ∨ r = 1 ∨ r = 2 ∨ r = 3 := by omega
    rcases hm with rfl | rfl | rfl | rfl <;> rfl
  rw [List.getElem?_map, List.getElem?_eq_getElem (by omega : r < xs.length), e2] at e4
  simp only [Option.map_some, Option.some.injEq, DataW.lit.injEq, Lit.string.injEq] at e4
  have hz : z = sgB r := by unfold sgB; rw [← e4, tx_of]
  rw [World.var?_cell hg hv r, ← hz]
  have : cs.toList[r]? = some (.string z) := by
    have h0 : ((cs.toList.drop r).take 1)[0]? = some (.string z) := by rw [e1]; rfl
    simpa using h0
  simpa using this
theorem signs_of0 {W : World} (h : laidMet Tryz.prog [("loop.example/g00912/impl.markSigns", Rows.laid_loop_example_g00912_impl_markSigns)] W) : HasSigns W := signs_head h
theorem signs_of1 {W : World} {x y : String × DataW Unit} (h : laidMet Tryz.prog [x, ("loop.example/g00912/impl.markSigns", Rows.laid_loop_example_g00912_impl_markSigns), y] W) : HasSigns W := signs_head h.tail
end Go.Proofs.YtkekpolfdmmgeaaGreatDoor

/- Items: the text of an item, the program's side. -/
namespace Go.Proofs.YtkekpolfdmmgeaaGreatDoor
set_option linter.unusedVariables false
set_option linter.unusedSimpArgs false
set_option linter.unnecessarySimpa false
open Go.RowKit Go.Lib

def wB (it : ItemD) : List ByteArray := (itW it).map tx
theorem wB_len {it : ItemD} (hl : it.marks.length = it.names.length) : (wB it).length = it.names.length := by
  unfold wB
  rw [List.length_map, itW_length hl]
theorem wB_snoc {it : ItemD} {k : Nat} {s : ByteArray} {m : Nat} (h1 : it.names[k]? = some s) (h2 : it.marks[k]? = some (m : Int)) : (wB it).take (k + 1) = (wB it).take k ++ [s ++ sgB m] := by
  have e : (wB it)[k]? = some (s ++ sgB m) := by
    unfold wB
    rw [List.getElem?_map, itW_get h1 h2]
    show some (tx (_ ++ _)) = _
    rw [← tx_app, tx_of]
    rfl
  exact take_snoc e
theorem wB_join (it : ItemD) : Lib.join ((wB it).map (·.data.toList)) [43] = join (itW it) [43] := by
  unfold wB
  rw [List.map_map]
  have e : ((fun x : ByteArray => x.data.toList) ∘ tx) = id := by funext l; rfl
  rw [e, List.map_id]
set_option maxRecDepth 100000 in
set_option maxHeartbeats 16000000 in
theorem implItemText0_any (v : Value) (it : ItemD) (w : World) (h : ItemAt w v it) (hb : itemB it = true) (hsg : HasSigns w) :
    Calls Tryz.prog 87 #[v] w fun e w' => e = .returned (.string (itT it)) ∧ Kept w w' := by
  obtain ⟨nv, mv, rfl, q1, q2⟩ := h
  obtain ⟨A1, c1, rfl, hnc1, hcm1, _⟩ := q1.1.out
  obtain ⟨A2, c2, rfl, hnc2, hcm2, _⟩ := q2.out
  unfold maxLen at hcm1 hcm2
  have H1 := Lib.hid q1
  have H2 := Lib.hid q2
  have HB := Lib.hid hb
  have HSG := Lib.hid hsg
  obtain ⟨_, _, hml, hne, hn3⟩ := item_of hb
  have HML := Lib.hid hml
  have HWL := Lib.hid (wB_len hml)
  have hn1 : 0 < it.names.length := by cases hq : it.names with | nil => exact absurd hq hne | cons _ _ => simp
  clear q1 q2 hb hml hne hsg
  go_enter Tryz.func87, Tryz.ntmps87
  have B0 := Box.new w w.heap.size 64 #[.slice A1 it.names.length c1, .slice A2 it.marks.length c2, .bool it.late] rfl
  have K0 : Kept w (w.alloc (.cells #[.slice A1 it.names.length c1, .slice A2 it.marks.length c2, .bool it.late] 64)) := (Kept.refl w).alloc _
  obtain ⟨x00, y00⟩ := B0.three
  have hs0 : (w.alloc (.cells #[.slice A1 it.names.length c1, .slice A2 it.marks.length c2, .bool it.late] 64)).heap.size = w.heap.size + 1 := by simp
  go_wp2_with fail
  clear x00 y00
  generalize w.alloc (.cells #[.slice A1 it.names.length c1, .slice A2 it.marks.length c2, .bool it.late] 64) = w0 at *
  go_loopw [3, 11] (fun s3 s11 wr => ∃ k : Nat, k ≤ it.names.length ∧ s11 = .int .i64 k ∧ OwnS wr w0.heap.size s3 ((wB it).take k) ∧ s3.ownBlock ≠ none ∧ Kept w0 wr) (fun _ i _ => it.names.length - (RowKit.intOf i).toNat)
  case atStart => exact ⟨0, Nat.zero_le _, rfl, by rw [List.take_zero]; exact ⟨own_made _ _ 1 (by omega) (Box.new _ _ _ _ hs0.symm), fun _ h => by cases h⟩, (fun h => by cases h), (Kept.refl _).alloc _⟩
  case round =>
    obtain ⟨k, hk, rfl, ho, hnn, hkept⟩ := hrel
    by_cases hlt : k < it.names.length
    · obtain ⟨b, o, s, rfl, hbb, hs, hc⟩ := strs_at (H1.out.1.addr.kept (K0.trans hkept)) hlt
      obtain ⟨b2, o2, z, rfl, hb2, hz, hc2⟩ := ints_at (H2.out.addr.kept (K0.trans hkept)) (k := k) (by rw [HML.out]; exact hlt)
      obtain ⟨m, rfl, hm3⟩ := mark_nat HB.out hz
      have hmk : (k : Int) < (it.marks.length : Int) := by rw [HML.out]; omega
      have hmk2 : k < it.marks.length := by rw [HML.out]; exact hlt
      have hm4 : (m : Int) < 4 := by omega
      have hs5 := word_size HB.out hs
      have hsg := sgB_size m
      have hc4 := (HSG.out.kept (K0.trans hkept)) m hm3
      have hBk := B0.kept hkept
      obtain ⟨x0, y0⟩ := hBk.three
      have AW := Lib.hid (cat_run (x := s) (y := sgB m) rfl (by omega))
      have HSN := Lib.hid (wB_snoc hs hz)
      have HO := Lib.hid ho
      have HNN := Lib.hid hnn
      have HWZ : Hid ((s ++ sgB m).size ≤ maxLen) := Lib.hid (by rw [ByteArray.size_append]; unfold maxLen; omega)
      have hwl : ((wB it).take k).length ≤ 3 := by rw [List.length_take, HWL.out]; omega
      clear hs hz ho hnn y0
      have aw := AW.out
      generalize s ++ sgB m = z at aw HSN HWZ
      go_wp2_with (at_builtin; refine wpList_append_SL _ rfl _ _ rfl w0.heap.size _ ((wB it).take k) rfl (HO.out.kept ((Kept.refl _).alloc _)) _ [z] rfl (strs_box1 (Box.new _ _ _ _ rfl) HWZ.out) (by simp only [List.length_cons, List.length_nil]; omega) (by have := hkept.size; simp; omega) ?_; intro v3 w3 o3 g3 n3)
      have k3 := (hkept.alloc (.cells #[.string z] 9)).grew (HO.out.kept ((Kept.refl _).alloc _)).1 g3 (Nat.le_refl _)
      have N3 : Hid (v3.ownBlock ≠ none) := Lib.hid (n3 HNN.out)
      rw [← HSN.out] at o3
      have O3 := Lib.hid o3
      clear o3 n3 g3
      go_wp2_with fail
      go_roundw
      case rel => exact ⟨k + 1, by omega, by go_num, O3.out, N3.out, k3⟩
      case measure => simp [RowKit.intOf]; omega
    · obtain rfl : k = it.names.length := by omega
      rw [List.take_of_length_le (by rw [HWL.out]; exact Nat.le_refl _)] at ho
      rcases ownS_cases ho with ⟨rfl, _⟩ | ⟨g, cap, rfl, hcap1, hcap2⟩
      · exact absurd rfl hnn
      have hg1 : g < wr.heap.size := own_lt ho.1
      have hBk := B0.kept hkept
      have HT := Lib.hid (itT_of HB.out)
      have hj := jW_size HB.out it.names.length (Nat.le_refl _)
      have HJ : Hid ((⟨(Lib.join ((wB it).map (·.data.toList)) [43]).toArray⟩ : ByteArray) = jW it it.names.length) := Lib.hid (by
        rw [wB_join]
        unfold jW
        rw [List.take_of_length_le (by rw [← HWL.out]; unfold wB; rw [List.length_map]; exact Nat.le_refl _)]
        rfl)
      have hjl : (Lib.join ((wB it).map (·.data.toList)) [43]).length ≤ 140737488355328 := by
        have e : tx (Lib.join ((wB it).map (·.data.toList)) [43]) = jW it it.names.length := HJ.out
        have e2 := congrArg ByteArray.size e
        rw [tx_size] at e2
        omega
      have hwl := HWL.out
      have hcl : ∀ (j : Nat) x, (wB it)[j]? = some x → wr.cell? ⟨g, 0 + j, none⟩ = some (.string x) := fun j x hx => by
        obtain ⟨hj, e⟩ := List.getElem?_eq_some_iff.1 hx
        have hh := holds_own (enc := Value.string) ho.1 j (by simpa using hj)
        simp only [List.getElem!_toArray] at hh
        rw [hh.1]
        simp [hx]
      have cj := ((Tryz.strings_Join g 0 cap (wB it) ⟨#[43]⟩ wr hcl hg1 (by omega) hcap1 hjl).mono (fun e w' hh => (⟨hh.1.trans (ret_str HJ.out), hh.2⟩ : e = .returned (.string (jW it it.names.length)) ∧ Kept wr w')))
      rw [hwl] at cj
      have CJ := Lib.hid cj
      clear cj
      have AL := Lib.hid (cat_run (x := jW it it.names.length) (y := ⟨#[32, 120]⟩) rfl (by have e : (⟨#[32, 120]⟩ : ByteArray).size = 2 := rfl; omega))
      clear ho hnn hjl hcap1 hcap2
      go_wp2_with fail
      with_reducible refine (CJ.out).mono ?_
      rintro e w1 ⟨rfl, k1⟩
      have kk := hkept.trans k1
      obtain ⟨x0, y0⟩ := (B0.kept kk).three
      have al := AL.out
      cases hla : it.late with
      | true =>
        rw [hla] at x0
        have HLA := Lib.hid hla
        clear hla
        go_wp2_with fail
        go_ret
        exact ⟨ret_str (by rw [HT.out, HLA.out]; rfl), K0.trans kk⟩
      | false =>
        rw [hla] at x0
        have HLA := Lib.hid hla
        clear hla
        go_wp2_with fail
        go_ret
        exact ⟨ret_str (by rw [HT.out, HLA.out]; rfl), K0.trans kk⟩
end Go.Proofs.YtkekpolfdmmgeaaGreatDoor

/- Items: ItemText, both sides and the law. -/
namespace Go.Proofs.YtkekpolfdmmgeaaGreatDoor
set_option linter.unusedVariables false
set_option linter.unusedSimpArgs false
set_option linter.unnecessarySimpa false
open Go.RowKit Go.Lib

theorem OwnT.only {w w' : World} {base : Nat} {v : Value} {it : ItemD} {S : List Nat} (h : OwnT w base v it) (ho : Only S w w') (hd : ∀ b ∈ fpA v, b ∉ S) : OwnT w' base v it := by
  obtain ⟨nv, mv, rfl, h1, h2, h3⟩ := h
  rw [fpA_item] at hd
  exact ⟨nv, mv, rfl, h1.only ho (fun b hb => hd b (List.mem_append_left _ hb)), h2.only ho (fun b hb => hd b (List.mem_append_right _ hb)), h3⟩
theorem OwnT.kept {w w' : World} {base : Nat} {v : Value} {it : ItemD} (h : OwnT w base v it) (hk : Kept w w') : OwnT w' base v it := h.only (hk.only []) (fun _ _ => List.not_mem_nil)
theorem OwnT.fps {w : World} {base : Nat} {v : Value} {it : ItemD} (h : OwnT w base v it) : ∀ b ∈ fpA v, base ≤ b ∧ b < w.heap.size := by
  obtain ⟨nv, mv, rfl, h1, h2, h3⟩ := h
  rw [fpA_item]
  intro b hb
  rcases List.mem_append.1 hb with hb | hb
  · exact own_fp h1.1 b hb
  · exact own_fp h2 b hb
def itV (it : ItemD) : ByteArray := if itemB it then itT it else ⟨#[]⟩
theorem itV_yes {it : ItemD} (h : itemB it = true) : itV it = itT it := by unfold itV; rw [h]; rfl
theorem itV_no {it : ItemD} (h : itemB it = false) : itV it = ⟨#[]⟩ := by unfold itV; rw [h]; rfl
set_option maxHeartbeats 1000000 in
theorem specItemText_any (v : Value) (it : ItemD) (w : World) (h : ItemAt w v it) :
    Calls Tryz.prog 39 #[v] w fun e w' => e = .returned (.tuple #[.string (itV it), .bool (itemB it)]) ∧ Kept w w' := by
  have HI := Lib.hid h
  obtain ⟨nv, mv, rfl, q1, q2⟩ := h
  obtain ⟨A1, c1, rfl, _⟩ := q1.1.out
  obtain ⟨A2, c2, rfl, _⟩ := q2.out
  clear q1 q2
  go_enter Tryz.func39, Tryz.ntmps39
  have B0 := Box.new w w.heap.size 64 #[.slice A1 it.names.length c1, .slice A2 it.marks.length c2, .bool it.late] rfl
  have K0 : Kept w (w.alloc (.cells #[.slice A1 it.names.length c1, .slice A2 it.marks.length c2, .bool it.late] 64)) := (Kept.refl w).alloc _
  obtain ⟨x0, y0⟩ := B0.three
  go_wp2_with fail
  refine (itGood_any _ it _ (HI.out.kept K0)).mono ?_
  rintro e w1 ⟨rfl, k1⟩
  have kk := K0.trans k1
  obtain ⟨x1, y1⟩ := (B0.kept k1).three
  clear x0 y0
  by_cases hb : itemB it = true
  · have HB := Lib.hid hb
    rw [hb]
    clear hb
    go_wp2_with fail
    refine (itText_any _ it _ (HI.out.kept kk) HB.out).mono ?_
    rintro e w2 ⟨rfl, k2⟩
    go_wp2_with fail
    go_ret2
    exact ⟨ret_sb (itV_yes HB.out).symm HB.out.symm, kk.trans k2⟩
  · simp only [Bool.not_eq_true] at hb
    have HB := Lib.hid hb
    rw [hb]
    clear hb
    go_wp2_with fail
    go_ret2
    exact ⟨ret_sb (itV_no HB.out).symm HB.out.symm, kk⟩
set_option maxHeartbeats 1000000 in
theorem implItemText_any (v : Value) (it : ItemD) (w : World) (h : ItemAt w v it) (hsg : HasSigns w) :
    Calls Tryz.prog 38 #[v] w fun e w' => e = .returned (.tuple #[.string (itV it), .bool (itemB it)]) ∧ Kept w w' := by
  have HI := Lib.hid h
  obtain ⟨nv, mv, rfl, q1, q2⟩ := h
  obtain ⟨A1, c1, rfl, _⟩ := q1.1.out
  obtain ⟨A2, c2, rfl, _⟩ := q2.out
  have HSG := Lib.hid hsg
  clear hsg
  clear q1 q2
  go_enter Tryz.func38, Tryz.ntmps38
  have B0 := Box.new w w.heap.size 64 #[.slice A1 it.names.length c1, .slice A2 it.marks.length c2, .bool it.late] rfl
  have K0 : Kept w (w.alloc (.cells #[.slice A1 it.names.length c1, .slice A2 it.marks.length c2, .bool it.late] 64)) := (Kept.refl w).alloc _
  obtain ⟨x0, y0⟩ := B0.three
  go_wp2_with fail
  refine (isItem_any _ it _ (HI.out.kept K0)).mono ?_
  rintro e w1 ⟨rfl, k1⟩
  have kk := K0.trans k1
  obtain ⟨x1, y1⟩ := (B0.kept k1).three
  clear x0 y0
  by_cases hb : itemB it = true
  · have HB := Lib.hid hb
    rw [hb]
    clear hb
    go_wp2_with fail
    refine (implItemText0_any _ it _ (HI.out.kept kk) HB.out (HSG.out.kept kk)).mono ?_
    rintro e w2 ⟨rfl, k2⟩
    go_wp2_with fail
    go_ret2
    exact ⟨ret_sb (itV_yes HB.out).symm HB.out.symm, kk.trans k2⟩
  · simp only [Bool.not_eq_true] at hb
    have HB := Lib.hid hb
    rw [hb]
    clear hb
    go_wp2_with fail
    go_ret2
    exact ⟨ret_sb (itV_no HB.out).symm HB.out.symm, kk⟩
end Go.Proofs.YtkekpolfdmmgeaaGreatDoor

/- An item's marks. -/
namespace Go.Proofs.YtkekpolfdmmgeaaGreatDoor
set_option linter.unusedVariables false
set_option linter.unusedSimpArgs false
open Go.RowKit

def nextM (k : Int) (x : ItemD) : Int := k + x.names.length + x.marks.length
def markM (k : Int) (x : ItemD) : ItemD := ⟨marksS k x.names.length, marksI (k + x.names.length) x.marks.length, x.late⟩
end Go.Proofs.YtkekpolfdmmgeaaGreatDoor

/- Reading items: plain facts about words and their signs; rows in a box; splitting by the library; the marks of one item. -/
namespace Go.Proofs.YtkekpolfdmmgeaaGreatDoor
set_option linter.unusedVariables false
set_option linter.unusedSimpArgs false
set_option linter.unnecessarySimpa false
open Go.RowKit Go.Lib

theorem Only.over {S T : List Nat} {a b c : World} (h : Only S a b) (k : Only T b c) (hT : ∀ x ∈ T, x ∈ S ∨ a.heap.size ≤ x) : Only S a c :=
  ⟨k.os.trans h.os, k.tape.trans h.tape, k.output.trans h.output, Nat.le_trans h.size k.size, fun i hi hn => (k.block i (Nat.lt_of_lt_of_le hi h.size) (fun hx => by rcases hT i hx with q | q; exact hn q; omega)).trans (h.block i hi hn)⟩
theorem Only.step {S : List Nat} {a b c : World} (h : Only S a b) (k : Kept b c) : Only S a c := h.trans (k.only S)
theorem Box.set0 {w : World} {b : Nat} {t : TypeId} {x y z : Value} (h : Box w b t #[x, y, z]) (u : Value) : Box (w.setCell ⟨b, 0, none⟩ u) b t #[u, y, z] := h.set 0 u
theorem Box.set1 {w : World} {b : Nat} {t : TypeId} {x y z : Value} (h : Box w b t #[x, y, z]) (u : Value) : Box (w.setCell ⟨b, 1, none⟩ u) b t #[x, u, z] := h.set 1 u
theorem Box.set2 {w : World} {b : Nat} {t : TypeId} {x y z : Value} (h : Box w b t #[x, y, z]) (u : Value) : Box (w.setCell ⟨b, 2, none⟩ u) b t #[x, y, u] := h.set 2 u
/-- append(out, xs...), strings: only the row's own block turns; where the new row lies -/
theorem wpList_append_SD (w : World) {ops : Array Oper} {rest : List Oper} {o : Oper} {a : Act} {Q : Exit → Act → World → Prop} (hgd : o.guard = none) (s x : Operand)
    (ho : o.op = .call { callee := .builtin .append, args := #[s, x], argTypes := #[57, 57] })
    (base : Nat) (v : Value) (zs : List ByteArray) (hs : a.eval s = v) (hown : OwnS w base v zs) (u : Value) (ys : List ByteArray) (hx : a.eval x = u) (hr : Strs w u ys)
    (hl : zs.length + ys.length ≤ 16777216) (hbase : base ≤ w.heap.size)
    (h : ∀ v' w', OwnS w' base v' (zs ++ ys) → Only (fp v) w w' → (∀ b ∈ fp v', b ∈ fp v ∨ b = w.heap.size) → wpList Tryz.prog ops Q rest (a.put o.dst v') w') : wpList Tryz.prog ops Q (o :: rest) a w := by
  refine wpList_plain hgd fun K hK => ?_
  obtain ⟨i0, hi, hz0, hz1, hz2⟩ := info_parts info_str
  obtain ⟨v', w', hrun, h2, h3, h4⟩ := run_append_locG (P := Tryz.prog) w base 57 o.type 9 i0 _ 1 16 Tryz.underlying57 hi hz0 hz1 hz2 rfl (by omega) v zs.length _ hown.1 u ys.length (ys.map Value.string) hr.1 (by simp) (fun y hy => by obtain ⟨_, _, rfl⟩ := List.mem_map.1 hy; rfl) (by unfold maxLen; omega) (by omega) hbase
  unfold Oper.wp execOp
  simp only [ho, resolve, invoke, builtin, Sem.run_bind, Sem.run_pure, Result.andThen_ok, List.map_toArray, List.map_cons, List.map_nil, hs, hx, hrun]
  refine hK _ _ (h v' w' ?_ (only_of_grown h3) (fun b hb => ?_))
  · refine ⟨by rw [List.length_append, List.map_append]; exact h2, fun e he => ?_⟩
    rcases List.mem_append.1 he with he | he
    · exact hown.2 e he
    · exact hr.2 e he
  · have hb' : v'.ownBlock = some b := by simpa [fp] using hb
    rcases h4 with h4 | h4
    · left; rw [h4] at hb'; simpa [fp] using hb'
    · right; rw [h4] at hb'; exact (Option.some.inj hb').symm
/-- the same, numbers -/
theorem wpList_append_ID (w : World) {ops : Array Oper} {rest : List Oper} {o : Oper} {a : Act} {Q : Exit → Act → World → Prop} (hgd : o.guard = none) (s x : Operand)
    (ho : o.op = .call { callee := .builtin .append, args := #[s, x], argTypes := #[24, 24] })
    (base : Nat) (v : Value) (zs : List Int) (hs : a.eval s = v) (hown : OwnI w base v zs) (u : Value) (ys : List Int) (hx : a.eval x = u) (hr : Ints w u ys)
    (hl : zs.length + ys.length ≤ 16777216) (hbase : base ≤ w.heap.size)
    (h : ∀ v' w', OwnI w' base v' (zs ++ ys) → Only (fp v) w w' → (∀ b ∈ fp v', b ∈ fp v ∨ b = w.heap.size) → wpList Tryz.prog ops Q rest (a.put o.dst v') w') : wpList Tryz.prog ops Q (o :: rest) a w := by
  refine wpList_plain hgd fun K hK => ?_
  obtain ⟨i0, hi, hz0, hz1, hz2⟩ := info_parts info_int
  obtain ⟨v', w', hrun, h2, h3, h4⟩ := run_append_locG (P := Tryz.prog) w base 24 o.type 3 i0 _ 1 8 Tryz.underlying24 hi hz0 hz1 hz2 rfl (by omega) v zs.length _ hown u ys.length (ys.map (Value.int .i64)) hr (by simp) (fun y hy => by obtain ⟨_, _, rfl⟩ := List.mem_map.1 hy; rfl) (by unfold maxLen; omega) (by omega) hbase
  unfold Oper.wp execOp
  simp only [ho, resolve, invoke, builtin, Sem.run_bind, Sem.run_pure, Result.andThen_ok, List.map_toArray, List.map_cons, List.map_nil, hs, hx, hrun]
  refine hK _ _ (h v' w' ?_ (only_of_grown h3) (fun b hb => ?_))
  · unfold OwnI
    rw [List.length_append, List.map_append]
    exact h2
  · have hb' : v'.ownBlock = some b := by simpa [fp] using hb
    rcases h4 with h4 | h4
    · left; rw [h4] at hb'; simpa [fp] using hb'
    · right; rw [h4] at hb'; exact (Option.some.inj hb').symm

/-! ### words and signs -/
theorem endM_bd (w : List UInt8) : 0 ≤ endM w ∧ endM w ≤ 3 := by
  unfold endM
  split
  · split
    · omega
    · split
      · omega
      · split <;> omega
  · omega
theorem sig_one {m : Nat} (h1 : 1 ≤ m) (h3 : m ≤ 3) : ∃ c, signL (m : Int) = [c] ∧ ∀ b : UInt8, (if b = 60 then (1 : Int) else if b = 101 then 2 else if b = 42 then 3 else 0) = (m : Int) ↔ b = c := by
  have hm : m = 1 ∨ m = 2 ∨ m = 3 := by omega
  rcases hm with rfl | rfl | rfl
  · refine ⟨60, rfl, fun b => ⟨fun h => ?_, fun h => by subst h; rfl⟩⟩
    by_cases h1 : b = 60
    · exact h1
    · rw [if_neg h1] at h; split at h
      · cases h
      · split at h <;> cases h
  · refine ⟨101, rfl, fun b => ⟨fun h => ?_, fun h => by subst h; rfl⟩⟩
    by_cases h1 : b = 60
    · rw [if_pos h1] at h; cases h
    · rw [if_neg h1] at h
      by_cases h2 : b = 101
      · exact h2
      · rw [if_neg h2] at h; split at h <;> cases h
  · refine ⟨42, rfl, fun b => ⟨fun h => ?_, fun h => by subst h; rfl⟩⟩
    by_cases h1 : b = 60
    · rw [if_pos h1] at h; cases h
    · rw [if_neg h1] at h
      by_cases h2 : b = 101
      · rw [if_pos h2] at h; cases h
      · rw [if_neg h2] at h
        by_cases h3 : b = 42
        · exact h3
        · rw [if_neg h3] at h; cases h
/-- a word ends with a sign just if its mark is that sign's -/
theorem suf_sign {w : List UInt8} {m : Nat} (h1 : 1 ≤ m) (h3 : m ≤ 3) : hasSuffix w (signL (m : Int)) = decide (endM w = (m : Int)) := by
  obtain ⟨c, e, hc⟩ := sig_one h1 h3
  rw [e]
  induction w using snocInd with
  | h0 =>
    have : ¬ endM [] = (m : Int) := by rw [endM_nil]; omega
    rw [decide_eq_false this]
    rfl
  | h1 l b _ =>
    rw [endM_snoc]
    have hb := hc b
    by_cases hbc : b = c
    · rw [decide_eq_true (hb.2 hbc)]
      subst hbc
      exact List.isSuffixOf_iff_suffix.2 ⟨l, rfl⟩
    · rw [decide_eq_false (fun h => hbc (hb.1 h)), Bool.eq_false_iff]
      intro hs
      obtain ⟨t, ht⟩ := List.isSuffixOf_iff_suffix.1 hs
      have := (List.append_inj' ht rfl).2
      injection this with this
      exact hbc this.symm
theorem cut_sign {w : List UInt8} {m : Nat} (h1 : 1 ≤ m) (h3 : m ≤ 3) (he : endM w = (m : Int)) : trimSuffix w (signL (m : Int)) = cutM w := by
  have hs := suf_sign (w := w) h1 h3
  rw [decide_eq_true he] at hs
  obtain ⟨c, e, _⟩ := sig_one h1 h3
  have hs' := hs
  rw [e] at hs'
  obtain ⟨t, ht⟩ := List.isSuffixOf_iff_suffix.1 hs'
  unfold trimSuffix cutM
  rw [show hasSuffix w (signL (m : Int)) = true from hs, if_pos rfl, if_neg (by omega), e, ← ht]
  simp
def nmW (z : ByteArray) : ByteArray := nameM z.data.toList
def mkW (z : ByteArray) : Int := endM z.data.toList
theorem nmW_zero {z : ByteArray} (h : mkW z = 0) : nmW z = z := by
  unfold nmW nameM cutM
  unfold mkW at h
  rw [if_pos h]
theorem nmW_cut {z : ByteArray} (h : ¬ mkW z = 0) : z.extract 0 (z.size - 1) = nmW z := by
  unfold nmW nameM cutM
  unfold mkW at h
  rw [if_neg h, pc_ext]
  unfold pc tx
  rw [List.drop_zero, List.dropLast_eq_take, size_eq]
theorem last_ext {z : ByteArray} (h : 0 < z.size) : ∃ p b, z.data.toList = p ++ [b] ∧ z.extract (z.size - 1) z.size = tx [b] := by
  have hne : z.data.toList ≠ [] := by intro e; rw [size_eq, e] at h; simp at h
  refine ⟨_, _, (List.dropLast_concat_getLast hne).symm, ?_⟩
  rw [pc_ext]
  unfold pc
  congr 1
  rw [size_eq, List.take_length]
  conv => lhs; rw [← List.dropLast_concat_getLast hne]
  rw [List.drop_left' (by rw [List.length_dropLast, List.length_append, List.length_dropLast]; simp)]
theorem mkW_pos {z : ByteArray} (h : ¬ mkW z = 0) : 0 < z.size := by
  rcases Nat.eq_zero_or_pos z.size with h0 | h0
  · exfalso
    apply h
    unfold mkW
    rw [show z.data.toList = [] from List.eq_nil_of_length_eq_zero (by rw [← size_eq]; exact h0)]
    rfl
  · exact h0
theorem last_yes {z : ByteArray} {m : Nat} (h1 : 1 ≤ m) (h3 : m ≤ 3) (he : mkW z = (m : Int)) : z.extract (z.size - 1) z.size = sgB m := by
  obtain ⟨p, b, e, hx⟩ := last_ext (z := z) (mkW_pos (by omega))
  obtain ⟨c, ec, hc⟩ := sig_one h1 h3
  unfold mkW at he
  rw [e, endM_snoc] at he
  rw [hx, (hc b).1 he]
  unfold sgB
  rw [ec]
theorem last_no {z : ByteArray} {m : Nat} (h0 : 0 < z.size) (h1 : 1 ≤ m) (h3 : m ≤ 3) (he : ¬ mkW z = (m : Int)) : ¬ (z.extract (z.size - 1) z.size).toList = (sgB m).toList := by
  obtain ⟨p, b, e, hx⟩ := last_ext h0
  obtain ⟨c, ec, hc⟩ := sig_one h1 h3
  unfold mkW at he
  rw [e, endM_snoc] at he
  rw [hx, tx_toList]
  unfold sgB
  rw [tx_toList, ec]
  intro h
  injection h with h
  exact he ((hc b).2 h)
def nmsP (t : ByteArray) : List ByteArray := (spB 43 t).map nmW
def mksP (t : ByteArray) : List Int := (spB 43 t).map mkW
theorem nmsP_len (t : ByteArray) : (nmsP t).length = (spB 43 t).length := by simp [nmsP]
theorem mksP_len (t : ByteArray) : (mksP t).length = (spB 43 t).length := by simp [mksP]
theorem nmsP_snoc {t z : ByteArray} {k : Nat} (h : (spB 43 t)[k]? = some z) : (nmsP t).take (k + 1) = (nmsP t).take k ++ [nmW z] := take_snoc (by unfold nmsP; rw [List.getElem?_map, h]; rfl)
theorem mksP_snoc {t z : ByteArray} {k : Nat} (h : (spB 43 t)[k]? = some z) : (mksP t).take (k + 1) = (mksP t).take k ++ [mkW z] := take_snoc (by unfold mksP; rw [List.getElem?_map, h]; rfl)
theorem itP_parts {s t : ByteArray} {late : Bool} (ht : trimSuffix s.data.toList [32, 120] = t.data.toList) (hl : hasSuffix s.data.toList [32, 120] = late) : itP s.data.toList = ⟨nmsP t, mksP t, late⟩ := by
  unfold itP nmsP mksP spB
  rw [ht, hl, List.map_map, List.map_map]
  rfl
def piB (s : ByteArray) : Bool := itemB (itP s.data.toList)
def zeroT : ItemD := ⟨[], [], false⟩
def piV (s : ByteArray) : ItemD := if piB s then itP s.data.toList else zeroT
theorem piV_yes {s : ByteArray} (h : piB s = true) : piV s = itP s.data.toList := by unfold piV; rw [h]; rfl
theorem piV_no {s : ByteArray} (h : piB s = false) : piV s = zeroT := by unfold piV; rw [h]; rfl
theorem piV_len (s : ByteArray) : (piV s).names.length ≤ 3 ∧ (piV s).marks.length ≤ 3 := by
  cases h : piB s with
  | true =>
    rw [piV_yes h]
    obtain ⟨_, _, a, _, b⟩ := item_of h
    omega
  | false => rw [piV_no h]; exact ⟨by decide, by decide⟩
def PiPost (s : ByteArray) (w : World) (e : Ending) (w' : World) : Prop := ∃ v', e = .returned (.tuple #[v', .bool (piB s)]) ∧ OwnT w' w.heap.size v' (piV s) ∧ Kept w w'
/-- a cut string's size -/
theorem spB_sz {b : UInt8} {t z : ByteArray} (h : z ∈ spB b t) : z.size ≤ t.size := by
  unfold spB at h
  obtain ⟨l, hl, rfl⟩ := List.mem_map.1 h
  have hj := splitOn_join b t.data.toList
  rw [tx_size, size_eq, ← hj]
  have hm : ∀ (L : List (List UInt8)), l ∈ L → l.length ≤ (Lib.join L [b]).length := by
    intro L
    induction L with
    | nil => intro h; cases h
    | cons x r ih =>
      intro h
      cases r with
      | nil =>
        rw [join_one]
        rcases List.mem_cons.1 h with rfl | h
        · exact Nat.le_refl _
        · cases h
      | cons y r =>
        have e : Lib.join (x :: y :: r) [b] = x ++ [b] ++ Lib.join (y :: r) [b] := by rw [join_cons, join_cons]; simp [joinTail]
        rw [e, List.length_append, List.length_append]
        rcases List.mem_cons.1 h with rfl | h
        · omega
        · have := ih h; omega
  exact hm _ hl
theorem spB_le (b : UInt8) (t : ByteArray) : (spB b t).length ≤ t.size + 1 := by
  unfold spB
  rw [List.length_map, size_eq]
  exact splitOn_length_le _ _
theorem split_any (s : ByteArray) (b : UInt8) (w : World) (hs : s.size ≤ 1048576) (hm : HasMax w) :
    Calls Tryz.prog 91 #[.string s, .string ⟨#[b]⟩] w fun e w' => ∃ cap, e = .returned (.slice (some ⟨w.heap.size, 0, none⟩) (spB b s).length cap) ∧ OwnS w' w.heap.size (.slice (some ⟨w.heap.size, 0, none⟩) (spB b s).length cap) (spB b s) ∧ Kept w w' := by
  obtain ⟨m, hm⟩ := hm
  have e0 : splitB ⟨#[b]⟩ 0 (countB s ⟨#[b]⟩) s = spB b s := by
    have h1 := splitB_one b s
    unfold spB
    rw [← h1, List.map_map]
    conv => lhs; rw [← List.map_id (splitB ⟨#[b]⟩ 0 (countB s ⟨#[b]⟩) s)]
    refine List.map_congr_left fun x _ => ?_
    show x = tx x.data.toList
    rw [tx_of]
  have hc : countB s ⟨#[b]⟩ + 1 = (spB b s).length := by rw [← e0, Lib.splitB_all ⟨#[b]⟩ (Nat.le_refl 1) 0 _ s rfl]
  refine (Tryz.strings_Split s ⟨#[b]⟩ m w (by omega) hm (Nat.le_refl 1)).mono ?_
  rintro e w' ⟨rfl, rfl⟩
  rw [hc, e0]
  have hl := spB_le b s
  refine ⟨_, rfl, ⟨?_, fun z hz => by have := spB_sz hz; unfold maxLen; omega⟩, (Kept.refl w).alloc _⟩
  refine own_of_box (Box.new w _ _ _ rfl) (Nat.le_refl _) (Nat.le_refl _) (by unfold maxLen; omega) (by simp) (List.take_of_length_le (by simp))
end Go.Proofs.YtkekpolfdmmgeaaGreatDoor

/- Items: reading their text, the reference's side. -/
namespace Go.Proofs.YtkekpolfdmmgeaaGreatDoor
set_option linter.unusedVariables false
set_option linter.unusedSimpArgs false
set_option linter.unnecessarySimpa false
open Go.RowKit Go.Lib

/-- the mark found among the first j signs -/
def mkAt (e : Int) (j : Nat) : Int := if e < (j : Int) then e else 0
theorem mkAt_start {e : Int} (h : 0 ≤ e) : mkAt e 0 = 0 := by unfold mkAt; split <;> omega
theorem mkAt_hit {e : Int} {j : Nat} (h : e = (j : Int)) : mkAt e (j + 1) = (j : Int) := by unfold mkAt; rw [if_pos (by omega), h]
theorem mkAt_miss {e : Int} {j : Nat} (h : ¬ e = (j : Int)) : mkAt e (j + 1) = mkAt e j := by
  unfold mkAt
  by_cases h1 : e < (j : Int)
  · rw [if_pos h1, if_pos (by omega)]
  · rw [if_neg h1, if_neg (by omega)]
theorem mkAt_zero {e : Int} {j : Nat} (h : (j : Int) = 0) (h0 : 0 ≤ e) : mkAt e (j + 1) = mkAt e j := by
  unfold mkAt
  rw [if_neg (by omega : ¬ e < (j : Int))]
  split <;> omega
theorem mkAt_end {e : Int} (h : e ≤ 3) : mkAt e 4 = e := by unfold mkAt; rw [if_pos (by omega)]
theorem mkAt_bd {e : Int} (j : Nat) (h0 : 0 ≤ e) (h3 : e ≤ 3) : 0 ≤ mkAt e j ∧ mkAt e j ≤ 3 := by unfold mkAt; split <;> omega
theorem spB_ne (b : UInt8) (t : ByteArray) : spB b t ≠ [] := by
  unfold spB
  intro h
  exact splitOn_ne _ _ (List.map_eq_nil_iff.1 h)
theorem nmW_sz (z : ByteArray) : (nmW z).size ≤ z.size := by
  unfold nmW nameM
  rw [size_eq, size_eq]
  unfold cutM
  split
  · exact Nat.le_refl _
  · simp
theorem sufx {s : ByteArray} (h : 2 ≤ s.size) : hasSuffix s.data.toList [32, 120] = true ↔ s.extract (s.size - 2) s.size = ⟨#[32, 120]⟩ := by
  have e : s.extract (s.size - 2) s.size = tx (s.data.toList.drop (s.data.toList.length - 2)) := by
    rw [pc_ext]
    unfold pc
    rw [size_eq, List.take_length]
  rw [e]
  constructor
  · intro hs
    obtain ⟨t, ht⟩ := List.isSuffixOf_iff_suffix.1 hs
    rw [← ht]
    have : (t ++ [32, 120]).length - 2 = t.length := by simp
    rw [this, List.drop_left' rfl]
    rfl
  · intro hs
    have h2 : s.data.toList.drop (s.data.toList.length - 2) = [32, 120] := tx_inj hs
    exact List.isSuffixOf_iff_suffix.2 ⟨s.data.toList.take (s.data.toList.length - 2), by rw [← h2, List.take_append_drop]⟩
theorem sufx_cut {s : ByteArray} (h : hasSuffix s.data.toList [32, 120] = true) : trimSuffix s.data.toList [32, 120] = (s.extract 0 (s.size - 2)).data.toList := by
  rw [pc_ext, tx_data]
  unfold trimSuffix pc
  rw [h, if_pos rfl, size_eq]
  simp
theorem sufx_not {s : ByteArray} (h : hasSuffix s.data.toList [32, 120] = false) : trimSuffix s.data.toList [32, 120] = s.data.toList := by
  unfold trimSuffix
  rw [h]
  rfl
theorem sufx_short {s : ByteArray} (h : s.size < 2) : hasSuffix s.data.toList [32, 120] = false := by
  rw [Bool.eq_false_iff]
  intro hs
  obtain ⟨t, ht⟩ := List.isSuffixOf_iff_suffix.1 hs
  rw [size_eq, ← ht] at h
  simp at h
  omega
/-- what the walk of a reader of an item has in hand: a text, its head, whether it ends late -/
def ItHead (s t : ByteArray) (late : Bool) : Prop := trimSuffix s.data.toList [32, 120] = t.data.toList ∧ hasSuffix s.data.toList [32, 120] = late
theorem itHead_cases (s : ByteArray) (hs : s.size ≤ 1048576) : ∃ (t : ByteArray) (late : Bool), t.size ≤ 1048576 ∧ ItHead s t late ∧
    ((s.size < 2 ∧ t = s ∧ late = false) ∨ (∃ z : ByteArray, 2 ≤ s.size ∧ s.extract (s.size - 2) s.size = z ∧ ¬ z = ⟨#[32, 120]⟩ ∧ t = s ∧ late = false) ∨ (2 ≤ s.size ∧ s.extract (s.size - 2) s.size = ⟨#[32, 120]⟩ ∧ s.extract 0 (s.size - 2) = t ∧ late = true)) := by
  by_cases h2 : s.size < 2
  · exact ⟨s, false, hs, ⟨sufx_not (sufx_short h2), sufx_short h2⟩, .inl ⟨h2, rfl, rfl⟩⟩
  · by_cases h : s.extract (s.size - 2) s.size = ⟨#[32, 120]⟩
    · have hh := (sufx (by omega)).2 h
      refine ⟨s.extract 0 (s.size - 2), true, ?_, ⟨sufx_cut hh, hh⟩, .inr (.inr ⟨by omega, h, rfl, rfl⟩)⟩
      rw [pc_ext, tx_size, pc_size s 0 (s.size - 2) (by omega)]
      omega
    · have hh : hasSuffix s.data.toList [32, 120] = false := by rw [Bool.eq_false_iff]; exact fun e => h ((sufx (by omega)).1 e)
      exact ⟨s, false, hs, ⟨sufx_not hh, hh⟩, .inr (.inl ⟨_, by omega, rfl, h, rfl, rfl⟩)⟩
/-- the item read so far lies in a box (bb); h: the box of the result; S: blocks that may have turned since w1 -/
structure RowSt (S : List Nat) (h bb B : Nat) (t : ByteArray) (late : Bool) (w1 wr : World) (k : Nat) (nv mv : Value) : Prop where
  hbox : Box wr h 64 #[.slice none 0 0, .slice none 0 0, .bool false]
  bbox : Box wr bb 64 #[nv, mv, .bool late]
  names : OwnS wr B nv ((nmsP t).take k)
  marks : OwnI wr B mv ((mksP t).take k)
  apart : ∀ b ∈ fp nv, b ∉ fp mv
  only : Only S w1 wr
  inS : bb ∈ S
  ne : h ≠ bb
  where_ : ∀ b ∈ fp nv ++ fp mv, (b ∈ S ∨ w1.heap.size ≤ b) ∧ b ≠ bb ∧ b ≠ h
  hB : B ≤ w1.heap.size
theorem RowSt.mid1 {S : List Nat} {h bb B : Nat} {t : ByteArray} {late : Bool} {w1 wr w3 w4 : World} {k : Nat} {nv mv : Value} (H : RowSt S h bb B t late w1 wr k nv mv) (k3 : Kept wr w3) (on4 : Only (fp nv) w3 w4) :
    Box w4 bb 64 #[nv, mv, .bool late] ∧ OwnI w4 B mv ((mksP t).take k) :=
  ⟨(H.bbox.kept k3).only on4 (fun hb => (H.where_ bb (List.mem_append_left _ hb)).2.1 rfl), (H.marks.kept k3).only on4 (fun b hb hb' => H.apart b hb' hb)⟩
theorem RowSt.mid2 {S : List Nat} {h bb B : Nat} {t : ByteArray} {late : Bool} {w1 wr w3 w4 : World} {k : Nat} {nv mv v4 : Value} (H : RowSt S h bb B t late w1 wr k nv mv) (k3 : Kept wr w3) (on4 : Only (fp nv) w3 w4) (o : Obj) :
    OwnI ((w4.setCell ⟨bb, 0, none⟩ v4).alloc o) B mv ((mksP t).take k) :=
  ((H.mid1 k3 on4).2.only ((Only.refl [bb] w4).setCell (by simp) _) (fun b hb hb' => by rw [List.mem_singleton] at hb'; exact (H.where_ b (List.mem_append_right _ hb)).2.1 hb')).kept ((Kept.refl _).alloc _)
theorem RowSt.mid3 {S : List Nat} {h bb B : Nat} {t : ByteArray} {late : Bool} {w1 wr w3 w4 w6 : World} {k : Nat} {nv mv v4 : Value} {o : Obj} (H : RowSt S h bb B t late w1 wr k nv mv) (k3 : Kept wr w3) (on4 : Only (fp nv) w3 w4) (on6 : Only (fp mv) ((w4.setCell ⟨bb, 0, none⟩ v4).alloc o) w6) :
    Box w6 bb 64 #[v4, mv, .bool late] :=
  Box.only (((H.mid1 k3 on4).1.set0 v4).alloc o) on6 (fun hb => (H.where_ bb (List.mem_append_right _ hb)).2.1 rfl)
theorem RowSt.step {S : List Nat} {h bb B : Nat} {t : ByteArray} {late : Bool} {w1 wr w3 w4 w6 : World} {k : Nat} {nv mv v4 v6 : Value} {o : Obj} (H : RowSt S h bb B t late w1 wr k nv mv) (k3 : Kept wr w3) (sz3 : wr.heap.size < w3.heap.size)
    (on4 : Only (fp nv) w3 w4) (on6 : Only (fp mv) ((w4.setCell ⟨bb, 0, none⟩ v4).alloc o) w6) (o4 : OwnS w4 B v4 ((nmsP t).take (k + 1))) (o6 : OwnI w6 B v6 ((mksP t).take (k + 1)))
    (f4 : ∀ b ∈ fp v4, b ∈ fp nv ∨ b = w3.heap.size) (f6 : ∀ b ∈ fp v6, b ∈ fp mv ∨ b = ((w4.setCell ⟨bb, 0, none⟩ v4).alloc o).heap.size) :
    RowSt S h bb B t late w1 (w6.setCell ⟨bb, 1, none⟩ v6) (k + 1) v4 v6 := by
  have hbl := H.bbox.lt
  have hhl := H.hbox.lt
  have hsr := H.only.size
  have hs4 := on4.size
  have hs5 : ((w4.setCell ⟨bb, 0, none⟩ v4).alloc o).heap.size = w4.heap.size + 1 := by simp [World.setCell]
  have hn := own_fp H.names.1
  have hm := own_fp H.marks
  have w4b : ∀ b ∈ fp v4, (b ∈ S ∨ w1.heap.size ≤ b) ∧ b ≠ bb ∧ b ≠ h ∧ b ∉ fp mv ∧ b < w4.heap.size + 1 := fun b hb => by
    have hlt := (own_fp o4.1 b hb).2
    rcases f4 b hb with q | q
    · have := H.where_ b (List.mem_append_left _ q)
      exact ⟨this.1, this.2.1, this.2.2, H.apart b q, by omega⟩
    · refine ⟨.inr (by omega), by omega, by omega, fun hx => ?_, by omega⟩
      have := hm b hx
      omega
  have w6b : ∀ b ∈ fp v6, (b ∈ S ∨ w1.heap.size ≤ b) ∧ b ≠ bb ∧ b ≠ h := fun b hb => by
    rcases f6 b hb with q | q
    · exact H.where_ b (List.mem_append_right _ q)
    · exact ⟨.inr (by omega), by omega, by omega⟩
  have on5 : Only [bb] w4 ((w4.setCell ⟨bb, 0, none⟩ v4).alloc o) := ((Only.refl [bb] w4).setCell (by simp) _).trans (((Kept.refl _).alloc _).only _)
  have on7 : Only [bb] w6 (w6.setCell ⟨bb, 1, none⟩ v6) := (Only.refl [bb] w6).setCell (by simp) _
  have hb1 : ∀ b ∈ [bb], b ∈ S ∨ w1.heap.size ≤ b := fun b hb => by rw [List.mem_singleton] at hb; subst hb; exact .inl H.inS
  have HW : Only S w1 (w6.setCell ⟨bb, 1, none⟩ v6) := ((((H.only.step k3).over on4 (fun b hb => (H.where_ b (List.mem_append_left _ hb)).1)).over on5 hb1).over on6 (fun b hb => (H.where_ b (List.mem_append_right _ hb)).1)).over on7 hb1
  have nb : ∀ {l : Nat} {x : Nat}, l ≠ x → l ∉ [x] := fun h hm => by rw [List.mem_singleton] at hm; exact h hm
  refine ⟨?_, ?_, ?_, ?_, ?_, HW, H.inS, H.ne, ?_, H.hB⟩
  · have a1 := (H.hbox.kept k3).only on4 (fun hb => (H.where_ h (List.mem_append_left _ hb)).2.2 rfl)
    have a2 := (a1.only on5 (nb H.ne)).only on6 (fun hb => (H.where_ h (List.mem_append_right _ hb)).2.2 rfl)
    exact a2.only on7 (nb H.ne)
  · exact (H.mid3 k3 on4 on6).set1 v6
  · have a1 := (o4.only on5 (fun b hb => nb (w4b b hb).2.1)).only on6 (fun b hb => (w4b b hb).2.2.2.1)
    exact a1.only on7 (fun b hb => nb (w4b b hb).2.1)
  · exact o6.only on7 (fun b hb => nb (w6b b hb).2.1)
  · intro b hb hb'
    rcases f6 b hb' with q | q
    · exact (w4b b hb).2.2.2.1 q
    · have := (w4b b hb).2.2.2.2
      omega
  · intro b hb
    rcases List.mem_append.1 hb with hb | hb
    · exact ⟨(w4b b hb).1, (w4b b hb).2.1, (w4b b hb).2.2.1⟩
    · exact w6b b hb
/-- the item read whole -/
theorem RowSt.whole {S : List Nat} {h bb B : Nat} {s t : ByteArray} {late : Bool} {w1 wr : World} {k : Nat} {nv mv : Value} (H : RowSt S h bb B t late w1 wr k nv mv) (hT : ItHead s t late) (hk : k = (spB 43 t).length) :
    OwnT wr B (.agg #[nv, mv, .bool late]) (itP s.data.toList) := by
  rw [itP_parts hT.1 hT.2]
  have e1 : (nmsP t).take k = nmsP t := List.take_of_length_le (by rw [nmsP_len]; omega)
  have e2 : (mksP t).take k = mksP t := List.take_of_length_le (by rw [mksP_len]; omega)
  refine ⟨nv, mv, rfl, ?_, ?_, ?_⟩
  · have := H.names; rw [e1] at this; exact this
  · have := H.marks; rw [e2] at this; exact this
  · rw [fpA_item, List.nodup_append]
    exact ⟨nodup_one _, nodup_one _, fun x hx y hy e => H.apart x hx (e ▸ hy)⟩
theorem RowSt.fin {S : List Nat} {h bb B : Nat} {s t : ByteArray} {late : Bool} {w1 wr w3 w4 : World} {k : Nat} {nv mv : Value} (H : RowSt S h bb B t late w1 wr k nv mv) (hT : ItHead s t late) (hk : k = (spB 43 t).length) (k3 : Kept wr w3) (q : Only [h] w3 w4) :
    OwnT w4 B (.agg #[nv, mv, .bool late]) (itP s.data.toList) := by
  obtain ⟨nv', mv', e, h1, h2, h3⟩ := H.whole hT hk
  injection e with e
  have e1 := congrArg Array.toList e
  simp only [List.cons.injEq] at e1
  obtain ⟨rfl, rfl, e2, _⟩ := e1
  have hd : ∀ b ∈ fp nv ++ fp mv, b ∉ [h] := fun b hb hm => (H.where_ b hb).2.2 (by rw [List.mem_singleton] at hm; exact hm)
  exact ⟨nv, mv, by rw [← e2], (h1.kept k3).only q (fun b hb => hd b (List.mem_append_left _ hb)), OwnI.only (own_kept h2 k3) q (fun b hb => hd b (List.mem_append_right _ hb)), h3⟩
theorem itT_P (s : ByteArray) : itT (itP s.data.toList) = s := by unfold itT; rw [itTxt_P, tx_of]
theorem PiPost.no {s : ByteArray} {w w' : World} (h : piB s = false) (k : Kept w w') : PiPost s w (.returned (.tuple #[.agg #[.slice none 0 0, .slice none 0 0, .bool false], .bool false])) w' :=
  ⟨_, by rw [h], by rw [piV_no h]; exact ⟨_, _, rfl, nilS _ _, own_nil _ _, by simp [fpA, fp, Value.ownBlock]⟩, k⟩
theorem PiPost.yes {s : ByteArray} {w w' : World} {v : Value} (h : piB s = true) (o : OwnT w' w.heap.size v (itP s.data.toList)) (k : Kept w w') : PiPost s w (.returned (.tuple #[v, .bool true])) w' :=
  ⟨_, by rw [h], by rw [piV_yes h]; exact o, k⟩
end Go.Proofs.YtkekpolfdmmgeaaGreatDoor
