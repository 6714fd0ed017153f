/- Contracts of functions that the proof leans on. No condition. -/
import Derived.Test.YtkekpolfdmmgeaaGreatMc138e5ac6a
/- Draws: a code and a programme for it, mostly. -/
namespace Go.Proofs.YtkekpolfdmmgeaaGreat
set_option linter.unusedVariables false
set_option linter.unusedSimpArgs false
set_option linter.unnecessarySimpa false
open Go.RowKit Go.Lib

/-- what a draw of a code and a programme leaves: the list lies behind the code -/
def PgPost (w : World) (e : Ending) (w' : World) (n : Nat) : Prop := ∃ cv lv c its cs N, e = .returned (.tuple #[cv, lv]) ∧ OwnK w' w.heap.size cv c ∧ OwnC w' N lv its cs ∧ w.heap.size ≤ N ∧ (∀ b ∈ fpA cv, b < N) ∧ (1 ≤ c.elems.length ∧ c.elems.length ≤ 24) ∧ c.limits.length = 5 ∧ its.all itemB = true ∧ its.length ≤ n
/-- an item under construction: its names are of the code, its marks are none -/
def PlainIt (n : Nat) (it : ItemD) : Prop := it.late = false ∧ it.names.length ≤ n ∧ it.marks = List.replicate it.names.length 0 ∧ it.names.all nameB = true
theorem PlainIt.valid {n : Nat} {it : ItemD} (h : PlainIt n it) (h1 : 1 ≤ it.names.length) (h3 : n ≤ 3) : itemB it = true := by
  obtain ⟨_, h2, h4, h5⟩ := h
  unfold itemB
  rw [h4, h5, List.length_replicate]
  simp only [Bool.true_and, Bool.and_eq_true, beq_self_eq_true, and_true]
  refine ⟨inB_of (by omega) (by omega), ?_⟩
  rw [List.all_eq_true]
  intro x hx
  rw [(List.mem_replicate.1 hx).2]
  decide
theorem PlainIt.push {n : Nat} {it : ItemD} {z : ByteArray} (h : PlainIt n it) (hl : it.names.length < n) (hz : nameB z = true) : PlainIt n { it with names := it.names ++ [z], marks := it.marks ++ [0] } := by
  obtain ⟨h1, h2, h4, h5⟩ := h
  refine ⟨h1, by simp; omega, ?_, ?_⟩
  · show it.marks ++ [0] = List.replicate (it.names ++ [z]).length 0
    rw [h4, List.length_append, List.length_singleton, List.replicate_succ']
  · show (it.names ++ [z]).all nameB = true
    rw [List.all_append, h5]
    simp [hz]
theorem names_of {c : CodeD} (h : codeB c = true) : ∀ y ∈ c.elems, nameB y.name = true := fun y hy => by
  obtain ⟨k, hk, rfl⟩ := List.getElem_of_mem hy
  have := codeB_elem h (List.getElem?_eq_getElem hk)
  unfold elemB at this
  simp only [Bool.and_eq_true] at this
  exact this.1.1.1
theorem ItSt.lenN' {p bb B m : Nat} {w1 wr : World} {it : ItemD} {nv mv : Value} (H : ItSt p bb B m w1 wr it nv mv) : lenV ((wr.cell? ⟨bb, 0, none⟩).getD (.bool false)) = it.names.length := by
  rw [H.box.cell 0]
  exact lenV_own H.names.1
set_option maxRecDepth 100000 in
set_option maxHeartbeats 16000000 in
theorem programme_any (p m : Nat) (w : World) (h : Cur w p m) (hm : m ≤ 10000000) :
    Calls Tryz.prog 51 #[.pointer (some ⟨p, 0, none⟩)] w fun e w' => PgPost w e w' 9 ∧ Cur w' p (m + 600) ∧ Only [p] w w' := by
  have hpl := h.lt
  have CW := Lib.hid h
  clear h
  go_enter Tryz.func51, Tryz.ntmps51
  go_wp2_with fail
  obtain ⟨w0, hw0⟩ : ∃ x : World, x = w.alloc (.cells #[.slice none 0 0, .slice none 0 0, .int .i64 0, .int .i64 0, .int .i64 0, .int .i64 0] 26) := ⟨_, rfl⟩
  rw [← hw0]
  have BR := Lib.hid (show Box w0 w.heap.size 26 #[.slice none 0 0, .slice none 0 0, .int .i64 0, .int .i64 0, .int .i64 0, .int .i64 0] from hw0 ▸ Box.new w _ _ _ rfl)
  have K0 : Hid (Kept w w0) := Lib.hid (hw0 ▸ (Kept.refl w).alloc _)
  have C0 := Lib.hid (CW.out.kept K0.out)
  have sz0 : w.heap.size < w0.heap.size := BR.out.lt
  have hpl0 : p < w0.heap.size := by omega
  have hrp : w.heap.size ≠ p := by omega
  have FIN : Hid (∀ (N : Nat) (w3 w9 : World) (cv lv : Value) (X : CodeD) (its : List ItemD) (cs : List (Value × Value)), OwnK w3 w0.heap.size cv X → OwnC w3 N lv its cs → w0.heap.size ≤ N → (∀ b ∈ fpA cv, b < N) → Only [p] w0 w3 → Cur w3 p (m + 600) → Only [w.heap.size] w3 w9 → (1 ≤ X.elems.length ∧ X.elems.length ≤ 24) → X.limits.length = 5 → its.all itemB = true → its.length ≤ 9 →
        PgPost w (.returned (.tuple #[cv, lv])) w9 9 ∧ Cur w9 p (m + 600) ∧ Only [p] w w9) := Lib.hid (fun N w3 w9 cv lv X its cs a b hN hc on cu q h1 h2 h3 h4 => by
      have hq : ∀ b ∈ [w.heap.size], b < w0.heap.size ∨ w3.heap.size ≤ b := fun b hb => by rw [List.mem_singleton] at hb; omega
      have hq2 : ∀ b ∈ [w.heap.size], b < N ∨ w3.heap.size ≤ b := fun b hb => by rw [List.mem_singleton] at hb; omega
      exact ⟨⟨cv, lv, X, its, cs, N, rfl, OwnK.base (a.off q hq) (by omega), b.off q hq2, by omega, hc, h1, h2, h3, h4⟩, cu.far q (fun x hx => by rw [List.mem_singleton] at hx; omega), ((K0.out.only _).trans on).overD q (fun x hx => by rw [List.mem_singleton] at hx; omega)⟩)
  clear hw0 CW
  with_reducible refine (pointsCode_good p m w0 C0.out (by omega)).mono ?_
  rintro e w1 ⟨⟨v1, x, rfl, o1, hcb⟩, c1, on1⟩
  obtain ⟨⟨h1, h24⟩, hl5⟩ := codeB_heads hcb
  have HNX := Lib.hid (names_of hcb)
  obtain ⟨ev, lv, rfl, p1, q1, nd⟩ := o1
  rcases ownE_cases p1 with ⟨_, hE⟩ | ⟨ge, ce, rfl, _⟩
  · rw [hE] at h1; simp at h1
  rcases ownI_cases q1 with ⟨_, hE⟩ | ⟨gl, cl, rfl, _⟩
  · rw [hE] at hl5; simp at hl5
  have HD := Lib.hid (OwnK.boxed p1 q1 nd c1 on1 hpl0 (Nat.le_refl _))
  have HL5 := Lib.hid hl5
  clear p1 q1 nd c1 on1 C0 hl5 hcb
  go_wp2_with fail
  obtain ⟨wb, hwb⟩ : ∃ y : World, y = w1.alloc (.cells #[.slice (some ⟨ge, 0, none⟩) x.elems.length ce, .slice (some ⟨gl, 0, none⟩) x.limits.length cl, .int .i64 x.repeats, .int .i64 x.bonus, .int .i64 x.keeps, .int .i64 x.fall] 26) := ⟨_, rfl⟩
  obtain ⟨bb, hbb⟩ : ∃ b : Nat, b = w1.heap.size := ⟨_, rfl⟩
  rw [← hwb, ← hbb] at HD ⊢
  clear hwb hbb
  with_reducible refine (one_any p _ 2 wb HD.out.cur (by omega) (by omega)).mono ?_
  rintro e w2 ⟨b2, rfl, c2, on2⟩
  have HS2 := Lib.hid (HD.out.drawn c2 on2)
  clear c2 on2 HD
  go_upto_if 14 with (fail)
  go_cut [14] (fun _ wx => ∃ y : CodeD, (1 ≤ y.elems.length ∧ y.elems.length ≤ 24) ∧ y.limits.length = 5 ∧ (∀ z ∈ y.elems, nameB z.name = true) ∧ DrSt p bb w0.heap.size (m + 402) w0 wx y (Value.slice (some ⟨ge, 0, none⟩) y.elems.length ce) (Value.slice (some ⟨gl, 0, none⟩) y.limits.length cl))
  case first =>
    as_aux_lemma =>
    cases b2 with
    | false =>
      go_wp2_with fail
      go_meet
      exact ⟨x, ⟨h1, h24⟩, HL5.out, HNX.out, HS2.out.le (by omega)⟩
    | true =>
      obtain ⟨xb, yb⟩ := HS2.out.box.six
      go_wp2_with fail
      clear xb yb
      go_loopw [18] (fun i wr => ∃ (k : Nat) (zs : List Int), i = .int .i64 k ∧ k ≤ 5 ∧ zs.length = x.limits.length ∧ DrSt p bb w0.heap.size (m + 402) w0 wr { x with limits := zs } (.slice (some ⟨ge, 0, none⟩) x.elems.length ce) (.slice (some ⟨gl, 0, none⟩) x.limits.length cl)) (fun i _ => 5 - (RowKit.intOf i).toNat)
      case atStart => exact ⟨0, x.limits, rfl, by omega, rfl, HS2.out.le (by omega)⟩
      case round =>
        obtain ⟨k, zs, rfl, hk, hz, hst⟩ := hrel
        have HST := Lib.hid hst
        have HZ := Lib.hid hz
        have hl := HL5.out
        clear hst HS2 hz
        by_cases hlt : k < 5
        · have hlt' : (k : Int) < (x.limits.length : Int) := by omega
          have ol := HST.out.lims
          dsimp only at ol
          rw [← HZ.out] at ol
          obtain ⟨z, q0, f0⟩ := ownI_at (k := k) ol (by have := HZ.out; omega)
          obtain ⟨xb, yb⟩ := HST.out.box.six
          have HC := Lib.hid (HST.out.cellL (k := k) (x := 9) rfl)
          clear ol hl
          go_wp2_with fail
          clear xb yb
          go_roundw
          case rel => exact ⟨k + 1, zs.set k 9, by go_num, by omega, by rw [List.length_set]; exact HZ.out, HC.out⟩
          case measure => simp [RowKit.intOf]; omega
        · have hlt' : ¬ (k : Int) < (x.limits.length : Int) := by omega
          clear hl
          go_wp2_with fail
          go_meet
          refine ⟨{ x with limits := zs }, ⟨h1, h24⟩, HZ.out.trans HL5.out, HNX.out, ?_⟩
          have := HST.out
          rw [show (Value.slice (some ⟨gl, 0, none⟩) x.limits.length cl) = Value.slice (some ⟨gl, 0, none⟩) ({ x with limits := zs } : CodeD).limits.length cl by show _ = Value.slice _ zs.length _; rw [HZ.out]] at this
          exact this
  case rest =>
    obtain ⟨y, ⟨hy1, hy24⟩, hy5, hyn, hst⟩ := hcut
    have HSL := Lib.hid hst
    have HY5 := Lib.hid hy5
    have HNM := Lib.hid hyn
    obtain ⟨wL, hwL⟩ : ∃ z : World, z = wc := ⟨_, rfl⟩
    rw [← hwL] at HSL ⊢
    clear hst hy5 hyn hwL HS2 HNX HL5
    have szL : w0.heap.size ≤ wL.heap.size := HSL.out.only.size
    have hpwL : p < wL.heap.size := by omega
    go_wp2_with fail
    with_reducible refine (pick_any p _ 9 wL HSL.out.cur (by omega) (by omega)).mono ?_
    rintro e w3 ⟨x3, rfl, ⟨lo3, hi3⟩, c3, on3⟩
    obtain ⟨n3, rfl⟩ : ∃ j : Nat, x3 = (j : Int) := ⟨x3.toNat, by omega⟩
    have hn3 : n3 < 9 := by have := hi3 (by omega); omega
    have C3 := Lib.hid c3
    have N3 := Lib.hid on3
    have hw3 : IntKind.i64.wrap (1 + (n3 : Int)) = ((n3 + 1 : Nat) : Int) := by rw [IntWalk.i64_in _ (by omega)]; omega
    clear c3 on3 hi3
    go_wp2_with fail
    go_loopw [6, 7] (fun s6 s7 wr => ∃ (n : Nat) (its : List ItemD) (cs : List (Value × Value)), s7 = .int .i64 n ∧ n ≤ 9 ∧ its.length + n ≤ 9 ∧ its.all itemB = true ∧ OwnC wr wL.heap.size s6 its cs ∧ Cur wr p (m + 405 + 10 * (9 - n)) ∧ Only [p] wL wr) (fun _ s7 _ => (RowKit.intOf s7).toNat)
    case atStart => exact ⟨n3 + 1, [], [], by (first | rfl | (congr 1; omega) | rw [hw3]), by omega, by show 0 + (n3 + 1) ≤ 9; omega, rfl, OwnC.nil0 _ _, C3.out.le (by omega), N3.out⟩
    case round =>
      clear C3 N3 hw3
      obtain ⟨n, its, cs, rfl, hn9, hin, hva, ho, hc, hon⟩ := hrel
      obtain ⟨wi, rfl⟩ : ∃ z : World, z = wr := ⟨_, rfl⟩
      have HO := Lib.hid ho
      have HC := Lib.hid hc
      have HN := Lib.hid hon
      have HVA := Lib.hid hva
      have szr : wL.heap.size ≤ wi.heap.size := hon.size
      obtain ⟨Aq, cq, rfl, hnq, hmq, _⟩ := own_form ho.2.1
      unfold maxLen at hmq
      clear ho hc hon hva
      by_cases hn : 0 < n
      · have hn' : (0 : Int) < (n : Int) := by omega
        have hpr : p < wi.heap.size := by omega
        go_wp2_with fail
        have HI := Lib.hid (OwnT.boxed (c := ⟨[], [], false⟩) (own_nilS wi wi.heap.size) (own_nil wi wi.heap.size) (by simp [fpA, fp, Value.ownBlock]) HC.out (Only.refl _ _) hpr (Nat.le_refl _))
        obtain ⟨wi0, hwi0⟩ : ∃ x : World, x = wi.alloc (.cells #[.slice none 0 0, .slice none 0 0, .bool false] 30) := ⟨_, rfl⟩
        obtain ⟨bi, hbi⟩ : ∃ b : Nat, b = wi.heap.size := ⟨_, rfl⟩
        dsimp only at HI
        have hsz : wi.heap.size + 1 = wi0.heap.size := by rw [hwi0]; simp
        rw [← hwi0, hsz, ← hbi]
        rw [← hwi0] at HI
        replace HI : Hid (ItSt p bi wi.heap.size (m + 405 + 10 * (9 - n)) wi wi0 ⟨[], [], false⟩ (.slice none 0 0) (.slice none 0 0)) := Lib.hid (by rw [hbi]; exact HI.out)
        clear hwi0 hbi hsz
        obtain ⟨wa, hwa⟩ : ∃ x : World, x = wi0.alloc (.cells #[.int .i64 1, .int .i64 1, .int .i64 1, .int .i64 1, .int .i64 2, .int .i64 2, .int .i64 3] 3) := ⟨_, rfl⟩
        rw [← hwa]
        have BL : Box wa wi0.heap.size 3 #[.int .i64 1, .int .i64 1, .int .i64 1, .int .i64 1, .int .i64 2, .int .i64 2, .int .i64 3] := hwa ▸ Box.new wi0 _ _ _ rfl
        have HIa := Lib.hid (HI.out.kept (hwa ▸ (Kept.refl wi0).alloc _))
        have hpi : wi0.heap.size ≠ p := Nat.ne_of_gt HI.out.cur.lt
        clear hwa
        with_reducible refine (among_lit p _ wi0.heap.size 7 [1, 1, 1, 1, 2, 2, 3] wa HIa.out.cur (by omega) BL hpi rfl (by omega) (by omega)).mono ?_
        rintro e w4 ⟨x4, rfl, hx4, c4, on4⟩
        obtain ⟨n2, rfl, hn1, hn3⟩ : ∃ k : Nat, x4 = (k : Int) ∧ 1 ≤ k ∧ k ≤ 3 := by
          simp only [List.mem_cons, List.not_mem_nil, or_false] at hx4
          exact ⟨x4.toNat, by omega, by omega, by omega⟩
        have HIT := Lib.hid (HIa.out.drawn c4 on4)
        have hbp : bb ≠ p := by have := HSL.out.hbb; omega
        have HXB : Hid (∀ w' : World, Only [p] wi w' → Box w' bb 26 #[Value.slice (some ⟨ge, 0, none⟩) y.elems.length ce, Value.slice (some ⟨gl, 0, none⟩) y.limits.length cl, .int .i64 y.repeats, .int .i64 y.bonus, .int .i64 y.keeps, .int .i64 y.fall]) := Lib.hid (fun w' on => HSL.out.box.only (HN.out.trans on) (not_one hbp))
        have HYE : Hid (∀ w' : World, Only [p] wi w' → OwnE w' w0.heap.size (Value.slice (some ⟨ge, 0, none⟩) y.elems.length ce) y.elems) := Lib.hid (fun w' on => HSL.out.elems.only (HN.out.trans on) (fun b hb => not_one (by have := (own_fp HSL.out.elems.1 b hb).1; omega)))
        have HNP : Hid (∀ b ∈ [p], b < wL.heap.size ∨ wi.heap.size ≤ b) := Lib.hid (fun b hb => by rw [List.mem_singleton] at hb; subst hb; exact .inl hpwL)
        clear hx4 c4 on4 BL HIa HI hpi
        go_wp2_with fail
        go_loopw [41] (fun _ wr => ∃ (it : ItemD) (nv mv : Value), PlainIt n2 it ∧ ItSt p bi wi.heap.size (m + 405 + 10 * (9 - n) + 2 + 2 * it.names.length) wi wr it nv mv) (fun _ wr => 4 - lenV ((wr.cell? ⟨bi, 0, none⟩).getD (.bool false)))
        case atStart => exact ⟨⟨[], [], false⟩, _, _, ⟨rfl, Nat.zero_le _, rfl, rfl⟩, HIT.out.le (by show _ ≤ m + 405 + 10 * (9 - n) + 2 + 2 * 0; omega)⟩
        case round =>
          clear HIT
          obtain ⟨it, nv, mv, hpl, hst⟩ := hrel
          have HPL := Lib.hid hpl
          have HLN := Lib.hid hst.lenN'
          have hnn : it.names.length ≤ n2 := hpl.2.1
          have hmm : it.marks.length = it.names.length := by rw [hpl.2.2.1, List.length_replicate]
          have HMM := Lib.hid hmm
          have hm3 : it.marks.length ≤ 3 := by omega
          obtain ⟨An, cn, rfl, _⟩ := own_form hst.names.1
          obtain ⟨Am, cm, rfl, _⟩ := own_form hst.marks
          have HST := Lib.hid hst
          have szq : wi.heap.size ≤ wr.heap.size := hst.only.size
          clear hst hpl hmm
          by_cases hlt : it.names.length < n2
          · have hlt' : (it.names.length : Int) < (n2 : Int) := by omega
            obtain ⟨xb, yb⟩ := HST.out.box.three
            have HSB : Hid (∀ (w' : World), Only [p] wi w' → ∀ {v l : Value}, Box w' bi 30 #[Value.slice An it.names.length cn, v, l] → (w'.cell? ⟨bi, 0, none⟩ = some (Value.slice An it.names.length cn) ∧ w'.cell? ⟨bb, 0, none⟩ = some (Value.slice (some ⟨ge, 0, none⟩) y.elems.length ce))) := Lib.hid (fun w' on v l b => ⟨b.cell 0, (HXB.out w' on).cell 0⟩)
            go_upto_region 15 with (fail)
            clear xb yb
            refine region_pop (S := fun w' => w'.cell? ⟨bi, 0, none⟩ = some (Value.slice An it.names.length cn) ∧ w'.cell? ⟨bb, 0, none⟩ = some (Value.slice (some ⟨ge, 0, none⟩) y.elems.length ce)) 15 (by kernel_rfl) (by kernel_rfl) ?_
            simp only [List.take_succ_cons, List.take_zero, List.drop_succ_cons, List.drop_zero]
            refine startL (HSB.out _ (HST.out.kept (Kept.refl wr).drew).only (HST.out.kept (Kept.refl wr).drew).box) (fun hS0 => ?_)
            obtain ⟨wd, hwd⟩ : ∃ x : World, x = wr.drew := ⟨_, rfl⟩
            rw [← hwd] at hS0 ⊢
            have D0 := Lib.hid (HST.out.kept (hwd ▸ (Kept.refl wr).drew))
            clear hwd
            refine takeL (i := 0) (v := ?_) rfl (by kernel_rfl) (by kernel_rfl) (by kernel_rfl) (fun _ _ _ h => h) (Or.inl ⟨by rfl, ?_⟩) hS0 ?_
            rotate_left 1
            · (intro w hSw; (try dsimp only at hSw); go_simp; try with_reducible rfl)
            try simp only [Act.put, List.setIfInBounds_toArray, List.set_cons_zero, List.set_cons_succ]
            refine takeL (i := 1) (v := ?_) rfl (by kernel_rfl) (by kernel_rfl) (by kernel_rfl) (fun _ _ _ h => h) (Or.inl ⟨by rfl, ?_⟩) hS0 ?_
            rotate_left 1
            · (intro w hSw; (try dsimp only at hSw); go_simp; try with_reducible rfl)
            try simp only [Act.put, List.setIfInBounds_toArray, List.set_cons_zero, List.set_cons_succ]
            refine takeL (i := 2) (v := ?_) rfl (by kernel_rfl) (by kernel_rfl) (by kernel_rfl) (fun _ _ _ h => h) (Or.inl ⟨by rfl, ?_⟩) hS0 ?_
            rotate_left 1
            · (intro w hSw; (try dsimp only at hSw); go_simp; try with_reducible rfl)
            try simp only [Act.put, List.setIfInBounds_toArray, List.set_cons_zero, List.set_cons_succ]
            refine takeL (i := 3) (v := ?_) rfl (by kernel_rfl) (by kernel_rfl) (by kernel_rfl) (fun _ _ _ h => h) (Or.inl ⟨by rfl, ?_⟩) hS0 ?_
            rotate_left 1
            · (intro w hSw; (try dsimp only at hSw); go_simp; try with_reducible rfl)
            try simp only [Act.put, List.setIfInBounds_toArray, List.set_cons_zero, List.set_cons_succ]
            refine takeL (i := 4) (v := ?_) rfl (by kernel_rfl) (by kernel_rfl) (by kernel_rfl) (fun _ _ _ h => h) (Or.inl ⟨by rfl, ?_⟩) hS0 ?_
            rotate_left 1
            · (intro w hSw; (try dsimp only at hSw); go_simp; try with_reducible rfl)
            try simp only [Act.put, List.setIfInBounds_toArray, List.set_cons_zero, List.set_cons_succ]
            refine takeL (i := 5) (v := ?_) rfl (by kernel_rfl) (by kernel_rfl) (by kernel_rfl) (fun _ _ _ h => h) (Or.inl ⟨by rfl, ?_⟩) hS0 ?_
            rotate_left 1
            · (intro w hSw; (try dsimp only at hSw); go_simp; try with_reducible rfl)
            try simp only [Act.put, List.setIfInBounds_toArray, List.set_cons_zero, List.set_cons_succ]
            refine takeL (i := 6) (v := ?_) rfl (by kernel_rfl) (by kernel_rfl) (by kernel_rfl) (fun _ _ _ h => h) (Or.inl ⟨by rfl, ?_⟩) hS0 ?_
            rotate_left 1
            · (intro w hSw; (try dsimp only at hSw); go_simp; try with_reducible rfl)
            try simp only [Act.put, List.setIfInBounds_toArray, List.set_cons_zero, List.set_cons_succ]
            refine takeL (i := 7) (v := ?_) rfl (by kernel_rfl) (by kernel_rfl) (by kernel_rfl) (fun _ _ _ h => h) (Or.inl ⟨by rfl, ?_⟩) hS0 ?_
            rotate_left 1
            · (intro w hSw; (try dsimp only at hSw); go_simp; try with_reducible rfl)
            try simp only [Act.put, List.setIfInBounds_toArray, List.set_cons_zero, List.set_cons_succ]
            refine onlyL (i := 8) rfl (by kernel_rfl) (fun K hK => ?_)
            go_simp
            with_reducible refine (pick_any p _ (y.elems.length : Int) wd D0.out.cur (by omega) (by omega)).mono ?_
            rintro e w6 ⟨x6, rfl, ⟨lo6, hi6⟩, c6, on6⟩
            obtain ⟨kx, rfl⟩ : ∃ j : Nat, x6 = (j : Int) := ⟨x6.toNat, by omega⟩
            have hkx : kx < y.elems.length := by have := hi6 (by omega); omega
            have hkx' : (kx : Int) < (y.elems.length : Int) := by omega
            have D6 := Lib.hid (D0.out.drawn c6 on6)
            obtain ⟨ye, hye, ⟨q0, _⟩, hzs, _⟩ := ownE_at (HYE.out _ D6.out.only) hkx
            have HZN := Lib.hid (HNM.out ye (List.mem_of_getElem? hye))
            have HZS := Lib.hid hzs
            clear c6 on6 hi6 hzs hye
            go_wp2_with fail
            refine hK.out _ _ (HSB.out _ D6.out.only D6.out.box) (fun hS1 => ?_)
            clear hK K hS0
            try simp only [Act.put, List.setIfInBounds_toArray, List.set_cons_zero, List.set_cons_succ]
            refine takeL (i := 9) (v := ?_) rfl (by kernel_rfl) (by kernel_rfl) (by kernel_rfl) (fun _ _ _ h => h) (Or.inl ⟨by rfl, ?_⟩) hS1 ?_
            rotate_left 1
            · (intro w hSw; (try dsimp only at hSw); go_simp; try with_reducible rfl)
            try simp only [Act.put, List.setIfInBounds_toArray, List.set_cons_zero, List.set_cons_succ]
            refine takeL (i := 10) (v := ?_) rfl (by kernel_rfl) (by kernel_rfl) (by kernel_rfl) (fun _ _ _ h => h) (Or.inl ⟨by rfl, ?_⟩) hS1 ?_
            rotate_left 1
            · (intro w hSw; (try dsimp only at hSw); go_simp; try with_reducible rfl)
            try simp only [Act.put, List.setIfInBounds_toArray, List.set_cons_zero, List.set_cons_succ]
            refine onlyL (i := 11) rfl (by kernel_rfl) (fun K hK => ?_)
            go_simp
            refine hK.out _ _ (HSB.out _ D6.out.only D6.out.box) (fun hS2 => ?_)
            clear hK K hS1
            try simp only [Act.put, List.setIfInBounds_toArray, List.set_cons_zero, List.set_cons_succ]
            refine onlyL (i := 12) rfl (by kernel_rfl) (fun K hK => ?_)
            clear q0
            go_simp
            obtain ⟨w7, hw7⟩ : ∃ x : World, x = w6.alloc (.cells #[.string ye.name] 9) := ⟨_, rfl⟩
            rw [← hw7]
            have B7 : Box w7 w6.heap.size 9 #[.string ye.name] := hw7 ▸ Box.new w6 _ _ _ rfl
            have kw7 : Kept w6 w7 := hw7 ▸ (Kept.refl w6).alloc _
            clear hw7
            have D7 := Lib.hid (D6.out.kept kw7)
            have sz7 : wi.heap.size ≤ w7.heap.size := D7.out.only.size
            refine hK.out _ _ (HSB.out _ D7.out.only D7.out.box) (fun hS3 => ?_)
            clear hK K hS2
            try simp only [Act.put, List.setIfInBounds_toArray, List.set_cons_zero, List.set_cons_succ]
            refine onlyL (i := 13) rfl (by kernel_rfl) (fun K hK => ?_)
            rw [if_pos (wanted_none rfl _)]
            refine wp_append_SX w7 _ _ rfl wi.heap.size (Value.slice An it.names.length cn) it.names rfl D7.out.names _ [ye.name] rfl (strs_box1 B7 HZS.out) (by simp only [List.length_cons, List.length_nil]; omega) sz7 ?_
            intro v8 w8 o8 on8 f8
            have hl8 : (it.names ++ [ye.name]).length = it.names.length + 1 := by simp
            obtain ⟨A8, c8, rfl, _⟩ := own_form o8.1
            have ST := Lib.hid (D7.out.setN on8 o8 f8)
            have B8 := (D7.out.midN on8).1
            have N8 := Lib.hid (D7.out.only.overD on8 (fun b hb => (own_fp D7.out.names.1 b hb).1))
            rw [hl8] at ST
            clear hl8 o8 on8 f8
            refine hK.out _ _ (HSB.out _ N8.out B8) (fun hS4 => ?_)
            clear hK K hS3
            try simp only [Act.put, List.setIfInBounds_toArray, List.set_cons_zero, List.set_cons_succ]
            refine takeL (i := 14) (v := ?_) rfl (by kernel_rfl) (by kernel_rfl) (by kernel_rfl) (fun _ _ _ h => h) (Or.inl ⟨by rfl, ?_⟩) hS4 ?_
            rotate_left 1
            · (intro w hSw; (try dsimp only at hSw); go_simp; try with_reducible rfl)
            try simp only [Act.put, List.setIfInBounds_toArray, List.set_cons_zero, List.set_cons_succ]
            refine doneL (by kernel_rfl) ?_
            clear hS4
            obtain ⟨x8, y8⟩ := B8.three
            go_upto_region 16 with (fail)
            clear x8 y8
            obtain ⟨w9, hw9⟩ : ∃ x : World, x = w8.setCell ⟨bi, 0, none⟩ (.slice A8 (it.names.length + 1) c8) := ⟨_, rfl⟩
            rw [← hw9] at ST ⊢
            clear hw9 B8
            have HS9 : Hid (ItSt p bi wi.heap.size _ wi w9 { it with names := it.names ++ [ye.name] } (.slice A8 (it.names.length + 1) c8) (Value.slice Am it.marks.length cm)) := ST
            have sz9 : wi.heap.size ≤ w9.heap.size := HS9.out.only.size
            clear ST N8
            obtain ⟨xb, yb⟩ := HS9.out.box.three
            go_wp2_with (at_builtin; refine wpList_append_JD _ rfl _ _ rfl wi.heap.size (Value.slice Am it.marks.length cm) it.marks rfl (HS9.out.marks.kept ((Kept.refl w9).alloc _)) _ [0] rfl (ints_box1 (Box.new _ _ _ _ rfl)) (by simp only [List.length_cons, List.length_nil]; omega) (Nat.le_trans sz9 ((Kept.refl w9).alloc _).size) ?_; intro v5 w5 o5 on5 f5; have D5 := HS9.out.kept ((Kept.refl w9).alloc (.cells #[.int .i64 0] 3)); have ST := Lib.hid (D5.setM on5 o5 f5); obtain ⟨x5, y5⟩ := (D5.midM on5).1.three; have hl5 : (it.marks ++ [0]).length = it.marks.length + 1 := (by simp); obtain ⟨A5, c5, rfl, _⟩ := own_form o5; rw [hl5] at ST ⊢; clear o5 on5 f5 D5 hl5)
            clear xb yb x5 y5
            go_roundw
            case rel => exact ⟨{ it with names := it.names ++ [ye.name], marks := it.marks ++ [0] }, _, _, HPL.out.push hlt HZN.out, ST.out.le (by simp; omega)⟩
            case measure => have h1 := ST.out.lenN'; have h2 := HLN.out; simp only [List.length_append, List.length_singleton] at h1; omega
          · have hlt' : ¬ (it.names.length : Int) < (n2 : Int) := by omega
            have HVI : Hid (itemB it = true) := Lib.hid (HPL.out.valid (by omega) (by omega))
            have HVX : Hid ((its ++ [it]).all itemB = true) := Lib.hid (by rw [List.all_append, HVA.out]; simp [HVI.out])
            have hnit : it.names.length ≤ 3 := by omega
            obtain ⟨xb, yb⟩ := HST.out.box.three
            go_upto_region 17 with (fail)
            clear xb yb
            refine region_pop (S := fun w' => w'.cell? ⟨bi, 0, none⟩ = some (Value.slice An it.names.length cn) ∧ w'.cell? ⟨bi, 1, none⟩ = some (Value.slice Am it.marks.length cm) ∧ w'.cell? ⟨bi, 2, none⟩ = some (.bool it.late)) 6 (by kernel_rfl) (by kernel_rfl) ?_
            simp only [List.take_succ_cons, List.take_zero, List.drop_succ_cons, List.drop_zero]
            refine startL ((HST.out.kept (Kept.refl wr).drew).box.three.1) (fun hS0 => ?_)
            obtain ⟨wd, hwd⟩ : ∃ x : World, x = wr.drew := ⟨_, rfl⟩
            rw [← hwd] at hS0 ⊢
            have D0 := Lib.hid (HST.out.kept (hwd ▸ (Kept.refl wr).drew))
            have O0 := Lib.hid (HO.out.off D0.out.only HNP.out)
            clear hwd
            refine takeL (i := 0) (v := ?_) rfl (by kernel_rfl) (by kernel_rfl) (by kernel_rfl) (fun _ _ _ h => h) (Or.inl ⟨by rfl, ?_⟩) hS0 ?_
            rotate_left 1
            · (intro w hSw; (try dsimp only at hSw); go_simp; try with_reducible rfl)
            try simp only [Act.put, List.setIfInBounds_toArray, List.set_cons_zero, List.set_cons_succ]
            refine takeL (i := 2) (v := ?_) rfl (by kernel_rfl) (by kernel_rfl) (by kernel_rfl) (fun _ _ _ h => h) (Or.inl ⟨by rfl, ?_⟩) hS0 ?_
            rotate_left 1
            · (intro w hSw; (try dsimp only at hSw); go_simp; try with_reducible rfl)
            try simp only [Act.put, List.setIfInBounds_toArray, List.set_cons_zero, List.set_cons_succ]
            refine readyL (rs := [1, 3]) (by kernel_rfl) (by simp) ?_
            refine consL (i := 1) rfl (fun K hK => ?_) (consL (i := 3) rfl (fun K hK => ?_) (allNil))
            ·
              go_simp
              refine (itOwn_any _ its wd (O0.out.items) HVA.out (by omega)).mono ?_
              rintro e wo ⟨vo, cso, rfl, oo, ko⟩
              obtain ⟨Ao, co, rfl, hno, hmo, _⟩ := own_form oo.2.1
              unfold maxLen at hmo
              have HVO := Lib.hid oo
              clear oo
              go_wp2_with fail
              refine hK.out _ _ ((D0.out.kept ko).box.three.1) (fun hS1 => ?_)
              clear hK K hS0
              try simp only [Act.put, List.setIfInBounds_toArray, List.set_cons_zero, List.set_cons_succ]
              have D1 := Lib.hid (D0.out.kept ko)
              refine onlyL (i := 3) rfl (by kernel_rfl) (fun K hK => ?_)
              go_simp
              obtain ⟨wx, hwx⟩ : ∃ x : World, x = wo.alloc (.cells #[Value.slice An it.names.length cn, Value.slice Am it.marks.length cm, .bool it.late] 30) := ⟨_, rfl⟩
              rw [← hwx]
              have BXX : Box wx wo.heap.size 30 #[Value.slice An it.names.length cn, Value.slice Am it.marks.length cm, .bool it.late] := hwx ▸ Box.new wo _ _ _ rfl
              have kwx : Kept wo wx := hwx ▸ (Kept.refl wo).alloc _
              clear hwx
              refine hK.out _ _ ((D1.out.kept kwx).box.three.1) (fun hS2 => ?_)
              clear hK K hS1
              try simp only [Act.put, List.setIfInBounds_toArray, List.set_cons_zero, List.set_cons_succ]
              have D2 := Lib.hid (D1.out.kept kwx)
              have HOW := Lib.hid (HVO.out.kept kwx)
              have BXW := BXX
              have KDW := Lib.hid (ko.trans kwx)
              refine onlyL (i := 4) rfl (by kernel_rfl) (fun K hK => ?_)
              rw [if_pos (wanted_none rfl _)]
              have HOB := OwnC.base HOW.out (show wi.heap.size ≤ wd.heap.size from D0.out.only.size)
              refine wp_append_T wx (.tmp 63) (.tmp 65) rfl wi.heap.size (.slice Ao its.length co) its.length _ rfl HOB.2.1 _ (Value.slice An it.names.length cn) (Value.slice Am it.marks.length cm) (.bool it.late) rfl BXW ⟨rfl, rfl, rfl⟩ (by omega) (Nat.le_trans D0.out.only.size KDW.out.size) ?_
              intro v9 w9 o9 g9 h9
              have k9 : Kept wd w9 := KDW.out.grew HOW.out.2.1 g9 (Nat.le_refl _)
              have OP := Lib.hid (OwnC.push (it := it) HOB D2.out.names D2.out.marks (List.nodup_append.2 ⟨nodup_one _, nodup_one _, fun a ha b hb e => D2.out.apart a ha (e ▸ hb)⟩) (fun b hb hb' => by have h1 := HOW.out.fps b hb'; rcases List.mem_append.1 hb with hb | hb <;> first | (have := (own_fp D0.out.names.1 b hb).2; omega) | (have := (own_fp D0.out.marks b hb).2; omega)) o9 g9 h9)
              have D9 := Lib.hid (D0.out.kept k9)
              have sz9 : wi.heap.size ≤ w9.heap.size := Nat.le_trans D0.out.only.size k9.size
              clear HOB o9 g9 h9 k9
              refine hK.out _ _ (D9.out.box.three.1) (fun hS3 => ?_)
              clear hK K hS2
              try simp only [Act.put, List.setIfInBounds_toArray, List.set_cons_zero, List.set_cons_succ]
              refine onlyL (i := 5) rfl (by kernel_rfl) (fun K hK => ?_)
              go_simp
              refine (pgLate_any _ (its ++ [it]) w9 OP.out.items HVX.out (by simp; omega)).mono ?_
              rintro e wt ⟨vt, ct, rfl, ot, kt⟩
              have OT := Lib.hid ot
              have DT := Lib.hid (D9.out.kept kt)
              clear ot kt
              go_wp2_with fail
              refine hK.out _ _ (DT.out.box.three.1) (fun hS4 => ?_)
              clear hK K hS3
              try simp only [Act.put, List.setIfInBounds_toArray, List.set_cons_zero, List.set_cons_succ]
              refine doneL (by kernel_rfl) ?_
              clear hS4
              have NT := Lib.hid (HN.out.trans DT.out.only)
              have szt : wL.heap.size ≤ w9.heap.size := by omega
              have OTL := Lib.hid (OwnC.base OT.out szt)
              have OLD := Lib.hid ((HO.out).off DT.out.only HNP.out)
              have HSX := Lib.hid (HSL.out.drawn DT.out.cur NT.out)
              clear D2 HOW BXW KDW OP D9 HVO OT
              obtain ⟨xb, yb⟩ := HSX.out.box.six
              go_wp2_with fail
              clear xb yb
              with_reducible refine (pgGood_any _ _ y (lated (its ++ [it])) wt HSX.out.own.code OTL.out.items).mono ?_
              rintro e wg ⟨rfl, kg⟩
              have OG := Lib.hid (OTL.out.kept kg)
              have OLG := Lib.hid (OLD.out.kept kg)
              have CG := Lib.hid (DT.out.cur.kept kg)
              have NG := Lib.hid (NT.out.trans (kg.only _))
              clear kg OTL OLD
              cases goodB y (lated (its ++ [it])) with
              | true =>
                go_wp2_with fail
                go_roundw
                case rel => exact ⟨n - 1, lated (its ++ [it]), ct, (by first | go_num | (congr 1; omega)), by omega, by rw [lated_length, List.length_append, List.length_singleton]; omega, lated_itemB HVX.out, OG.out, CG.out.le (by omega), NG.out⟩
                case measure => simp [RowKit.intOf]; omega
              | false =>
                go_wp2_with fail
                with_reducible refine (one_any p _ 30 wg CG.out (by omega) (by omega)).mono ?_
                rintro e wh ⟨bh, rfl, ch, onh⟩
                have hph : ∀ b ∈ [p], b < wL.heap.size ∨ wg.heap.size ≤ b := fun b hb => by rw [List.mem_singleton] at hb; subst hb; exact .inl hpwL
                have OGH := Lib.hid (OG.out.off onh hph)
                have OLH := Lib.hid (OLG.out.off onh hph)
                have CH := Lib.hid ch
                have NH := Lib.hid (NG.out.trans onh)
                clear ch onh hph
                cases bh with
                | true =>
                  go_wp2_with fail
                  go_roundw
                  case rel => exact ⟨n - 1, lated (its ++ [it]), ct, (by first | go_num | (congr 1; omega)), by omega, by rw [lated_length, List.length_append, List.length_singleton]; omega, lated_itemB HVX.out, OGH.out, CH.out.le (by omega), NH.out⟩
                  case measure => simp [RowKit.intOf]; omega
                | false =>
                  go_wp2_with fail
                  go_roundw
                  case rel => exact ⟨n - 1, its, cs, (by first | go_num | (congr 1; omega)), by omega, by omega, HVA.out, OLH.out, CH.out.le (by omega), NH.out⟩
                  case measure => simp [RowKit.intOf]; omega
            ·
              go_simp
              obtain ⟨wx, hwx⟩ : ∃ x : World, x = wd.alloc (.cells #[Value.slice An it.names.length cn, Value.slice Am it.marks.length cm, .bool it.late] 30) := ⟨_, rfl⟩
              rw [← hwx]
              have BXX : Box wx wd.heap.size 30 #[Value.slice An it.names.length cn, Value.slice Am it.marks.length cm, .bool it.late] := hwx ▸ Box.new wd _ _ _ rfl
              have kwx : Kept wd wx := hwx ▸ (Kept.refl wd).alloc _
              clear hwx
              refine hK.out _ _ ((D0.out.kept kwx).box.three.1) (fun hS5 => ?_)
              clear hK K hS0
              try simp only [Act.put, List.setIfInBounds_toArray, List.set_cons_zero, List.set_cons_succ]
              have D1 := Lib.hid (D0.out.kept kwx)
              have O1 := Lib.hid (O0.out.kept kwx)
              refine onlyL (i := 1) rfl (by kernel_rfl) (fun K hK => ?_)
              go_simp
              refine (itOwn_any _ its wx (O1.out.items) HVA.out (by omega)).mono ?_
              rintro e wo ⟨vo, cso, rfl, oo, ko⟩
              obtain ⟨Ao, co, rfl, hno, hmo, _⟩ := own_form oo.2.1
              unfold maxLen at hmo
              have HVO := Lib.hid oo
              clear oo
              go_wp2_with fail
              refine hK.out _ _ ((D1.out.kept ko).box.three.1) (fun hS6 => ?_)
              clear hK K hS5
              try simp only [Act.put, List.setIfInBounds_toArray, List.set_cons_zero, List.set_cons_succ]
              have D2 := Lib.hid (D1.out.kept ko)
              have HOW := Lib.hid (HVO.out.base kwx.size)
              have BXW := BXX.kept ko
              have KDW := Lib.hid (kwx.trans ko)
              refine onlyL (i := 4) rfl (by kernel_rfl) (fun K hK => ?_)
              rw [if_pos (wanted_none rfl _)]
              have HOB := OwnC.base HOW.out (show wi.heap.size ≤ wd.heap.size from D0.out.only.size)
              refine wp_append_T wo (.tmp 63) (.tmp 65) rfl wi.heap.size (.slice Ao its.length co) its.length _ rfl HOB.2.1 _ (Value.slice An it.names.length cn) (Value.slice Am it.marks.length cm) (.bool it.late) rfl BXW ⟨rfl, rfl, rfl⟩ (by omega) (Nat.le_trans D0.out.only.size KDW.out.size) ?_
              intro v9 w9 o9 g9 h9
              have k9 : Kept wd w9 := KDW.out.grew HOW.out.2.1 g9 (Nat.le_refl _)
              have OP := Lib.hid (OwnC.push (it := it) HOB D2.out.names D2.out.marks (List.nodup_append.2 ⟨nodup_one _, nodup_one _, fun a ha b hb e => D2.out.apart a ha (e ▸ hb)⟩) (fun b hb hb' => by have h1 := HOW.out.fps b hb'; rcases List.mem_append.1 hb with hb | hb <;> first | (have := (own_fp D0.out.names.1 b hb).2; omega) | (have := (own_fp D0.out.marks b hb).2; omega)) o9 g9 h9)
              have D9 := Lib.hid (D0.out.kept k9)
              have sz9 : wi.heap.size ≤ w9.heap.size := Nat.le_trans D0.out.only.size k9.size
              clear HOB o9 g9 h9 k9
              refine hK.out _ _ (D9.out.box.three.1) (fun hS7 => ?_)
              clear hK K hS6
              try simp only [Act.put, List.setIfInBounds_toArray, List.set_cons_zero, List.set_cons_succ]
              refine onlyL (i := 5) rfl (by kernel_rfl) (fun K hK => ?_)
              go_simp
              refine (pgLate_any _ (its ++ [it]) w9 OP.out.items HVX.out (by simp; omega)).mono ?_
              rintro e wt ⟨vt, ct, rfl, ot, kt⟩
              have OT := Lib.hid ot
              have DT := Lib.hid (D9.out.kept kt)
              clear ot kt
              go_wp2_with fail
              refine hK.out _ _ (DT.out.box.three.1) (fun hS8 => ?_)
              clear hK K hS7
              try simp only [Act.put, List.setIfInBounds_toArray, List.set_cons_zero, List.set_cons_succ]
              refine doneL (by kernel_rfl) ?_
              clear hS8
              have NT := Lib.hid (HN.out.trans DT.out.only)
              have szt : wL.heap.size ≤ w9.heap.size := by omega
              have OTL := Lib.hid (OwnC.base OT.out szt)
              have OLD := Lib.hid ((HO.out).off DT.out.only HNP.out)
              have HSX := Lib.hid (HSL.out.drawn DT.out.cur NT.out)
              clear D2 HOW BXW KDW OP D9 HVO OT
              obtain ⟨xb, yb⟩ := HSX.out.box.six
              go_wp2_with fail
              clear xb yb
              with_reducible refine (pgGood_any _ _ y (lated (its ++ [it])) wt HSX.out.own.code OTL.out.items).mono ?_
              rintro e wg ⟨rfl, kg⟩
              have OG := Lib.hid (OTL.out.kept kg)
              have OLG := Lib.hid (OLD.out.kept kg)
              have CG := Lib.hid (DT.out.cur.kept kg)
              have NG := Lib.hid (NT.out.trans (kg.only _))
              clear kg OTL OLD
              cases goodB y (lated (its ++ [it])) with
              | true =>
                go_wp2_with fail
                go_roundw
                case rel => exact ⟨n - 1, lated (its ++ [it]), ct, (by first | go_num | (congr 1; omega)), by omega, by rw [lated_length, List.length_append, List.length_singleton]; omega, lated_itemB HVX.out, OG.out, CG.out.le (by omega), NG.out⟩
                case measure => simp [RowKit.intOf]; omega
              | false =>
                go_wp2_with fail
                with_reducible refine (one_any p _ 30 wg CG.out (by omega) (by omega)).mono ?_
                rintro e wh ⟨bh, rfl, ch, onh⟩
                have hph : ∀ b ∈ [p], b < wL.heap.size ∨ wg.heap.size ≤ b := fun b hb => by rw [List.mem_singleton] at hb; subst hb; exact .inl hpwL
                have OGH := Lib.hid (OG.out.off onh hph)
                have OLH := Lib.hid (OLG.out.off onh hph)
                have CH := Lib.hid ch
                have NH := Lib.hid (NG.out.trans onh)
                clear ch onh hph
                cases bh with
                | true =>
                  go_wp2_with fail
                  go_roundw
                  case rel => exact ⟨n - 1, lated (its ++ [it]), ct, (by first | go_num | (congr 1; omega)), by omega, by rw [lated_length, List.length_append, List.length_singleton]; omega, lated_itemB HVX.out, OGH.out, CH.out.le (by omega), NH.out⟩
                  case measure => simp [RowKit.intOf]; omega
                | false =>
                  go_wp2_with fail
                  go_roundw
                  case rel => exact ⟨n - 1, its, cs, (by first | go_num | (congr 1; omega)), by omega, by omega, HVA.out, OLH.out, CH.out.le (by omega), NH.out⟩
                  case measure => simp [RowKit.intOf]; omega
      · obtain rfl : n = 0 := by omega
        clear hn
        have HS := Lib.hid (HSL.out.drawn HC.out HN.out)
        have B2 := BR.out.only HS.out.only (not_one hrp)
        obtain ⟨xb, yb⟩ := HS.out.box.six
        obtain ⟨x2, y2⟩ := B2.six
        go_wp2_with fail
        clear xb yb x2 y2
        obtain ⟨w9, hw9, B9, Q9⟩ := set6 B2 (Value.slice (some ⟨ge, 0, none⟩) y.elems.length ce) (Value.slice (some ⟨gl, 0, none⟩) y.limits.length cl) (.int .i64 y.repeats) (.int .i64 y.bonus) (.int .i64 y.keeps) (.int .i64 y.fall)
        rw [← hw9]
        clear hw9
        obtain ⟨cc, ff⟩ := B9.six
        refine bodyPost_ret (v := .tuple #[.agg #[Value.slice (some ⟨ge, 0, none⟩) y.elems.length ce, Value.slice (some ⟨gl, 0, none⟩) y.limits.length cl, .int .i64 y.repeats, .int .i64 y.bonus, .int .i64 y.keeps, .int .i64 y.fall], .slice Aq its.length cq]) (by simp [results, Tryz.results51, go_sem, cc, ff]) rfl ?_
        exact FIN.out wL.heap.size _ w9 _ _ y _ _ HS.out.own HO.out szL (fun b hb => by rw [fpA_code] at hb; rcases List.mem_append.1 hb with hb | hb <;> first | exact (own_fp HSL.out.elems.1 b hb).2 | exact (own_fp HSL.out.lims b hb).2) HS.out.only (HS.out.cur.le (by omega)) Q9 ⟨hy1, hy24⟩ HY5.out HVA.out (by omega)
end Go.Proofs.YtkekpolfdmmgeaaGreat
