/- Items over a code: families, which items are known. -/
import Derived.Test.YtpkmngkepmoikaaWa
import Derived.Test.YtpkmngkepmoikaaZ
namespace Go.Proofs.Ytpkmngkepmoikaa
set_option linter.unusedVariables false
set_option linter.unusedSimpArgs false
open Go.RowKit

theorem ItemAt.parts {w : World} {a b : Value} {l : Bool} {it : ItemD} (h : ItemAt w (.agg #[a, b, .bool l]) it) : Strs w a it.names ∧ Ints w b it.marks := by
  obtain ⟨nv, mv, e, h1, h2⟩ := h
  simp only [Value.agg.injEq] at e
  simp at e
  obtain ⟨rfl, rfl, _⟩ := e
  exact ⟨h1, h2⟩
/-- a row of one item -/
theorem items_one {w : World} {g : Nat} {A D : Option Addr} {c d : Nat} {it : ItemD} (hB : Box w g 75 #[.slice A it.names.length c, .slice D it.marks.length d, .bool it.late])
    (hi : ItemAt w (.agg #[.slice A it.names.length c, .slice D it.marks.length d, .bool it.late]) it) : ItemsAt w (.slice (some ⟨g, 0, none⟩) 1 1) [it] := by
  refine ⟨[(.slice A it.names.length c, .slice D it.marks.length d)], rfl, ⟨_, 1, rfl, Nat.le_refl _, by decide, (fun h => by cases h), fun _ => ⟨g, 0, rfl, hB.lt, fun j u hu => ?_⟩⟩, fun k nv mv it' q1 q2 => ?_⟩
  · rw [Nat.zero_add, hB.cell j]
    have e : (List.zip [((.slice A it.names.length c, .slice D it.marks.length d) : Value × Value)] [it]).flatMap row3 = [.slice A it.names.length c, .slice D it.marks.length d, .bool it.late] := rfl
    rw [e] at hu
    rw [← hu]
    exact (List.getElem?_toArray (xs := [Value.slice A it.names.length c, Value.slice D it.marks.length d, Value.bool it.late]) (i := j))
  · cases k with
    | zero =>
      simp only [List.getElem?_cons_zero, Option.some.injEq, Prod.mk.injEq] at q1 q2
      obtain ⟨rfl, rfl⟩ := q1
      subst q2
      exact hi.parts
    | succ k => simp at q2
theorem cdFind_is (n : Int) (v : Value) (x : CodeD) (s : ByteArray) (w : World) (hn : findV x.elems s = n) (h : CodeAt w v x) :
    Calls Try.prog 109 #[v, .string s] w fun e w' => e = .returned (.int .i64 n) ∧ Kept w w' := by rw [← hn]; exact cdFind_any v x s w h
theorem findElement_is (n : Int) (v : Value) (x : CodeD) (s : ByteArray) (w : World) (hn : findV x.elems s = n) (h : CodeAt w v x) :
    Calls Try.prog 111 #[v, .string s] w fun e w' => e = .returned (.int .i64 n) ∧ Kept w w' := by rw [← hn]; exact findElement_any v x s w h
theorem items_some {its : List ItemD} (h : itemsB its = true) {k : Nat} {it : ItemD} (hi : its[k]? = some it) : 1 ≤ it.names.length ∧ it.names.length ≤ 3 ∧ it.marks.length = it.names.length := by
  have := itemB_true ((itemsB_true h).2 it (List.mem_of_getElem? hi))
  omega
theorem item_some {it : ItemD} (h : itemB it = true) : 1 ≤ it.names.length ∧ it.names.length ≤ 3 ∧ it.marks.length = it.names.length := by
  have := itemB_true h
  omega
theorem OwnT.only {w w' : World} {base : Nat} {v : Value} {it : ItemD} {S : List Nat} (h : OwnT w base v it) (ho : Only S w w') (hd : ∀ b ∈ fpA v, b ∉ S) : OwnT w' base v it := by
  obtain ⟨nv, mv, rfl, h1, h2, h3⟩ := h
  rw [fpA_item] at hd
  exact ⟨nv, mv, rfl, h1.only ho (fun b hb => hd b (List.mem_append_left _ hb)), h2.only ho (fun b hb => hd b (List.mem_append_right _ hb)), h3⟩
theorem OwnT.kept {w w' : World} {base : Nat} {v : Value} {it : ItemD} (h : OwnT w base v it) (hk : Kept w w') : OwnT w' base v it := h.only (hk.only []) (fun _ _ => List.not_mem_nil)
theorem OwnT.fps {w : World} {base : Nat} {v : Value} {it : ItemD} (h : OwnT w base v it) : ∀ b ∈ fpA v, base ≤ b ∧ b < w.heap.size := by
  obtain ⟨nv, mv, rfl, h1, h2, h3⟩ := h
  rw [fpA_item]
  intro b hb
  rcases List.mem_append.1 hb with hb | hb
  · exact own_fp h1.1 b hb
  · exact own_fp h2 b hb
/-- a value that counts only if b holds -/
def onI (b : Bool) (v : Int) : Int := cond b v 0
def onL (b : Bool) (v : List Int) : List Int := cond b v []
def fmOk (x : CodeD) (it : ItemD) : Bool := codeB x && itemB it && decide (0 ≤ famV x it)
def ifOk (x : CodeD) (it : ItemD) : Bool := gdB x [it]
def kwOk (x : CodeD) (its : List ItemD) : Bool := codeB x && itemsB its
set_option maxHeartbeats 1000000 in
theorem bsKnows_any (v0 v1 : Value) (x : CodeD) (its : List ItemD) (w : World) (h0 : CodeAt w v0 x) (h1 : ItemsAt w v1 its)  :
    Calls Try.prog 88 #[v0, v1] w fun e w' => e = .returned (.bool (knB x its)) ∧ Kept w w' := by
  have H0 := Lib.hid h0
  obtain ⟨n0, m0, rfl, p0, q0⟩ := h0
  have HE0 := Lib.hid p0; have HI0 := Lib.hid q0
  obtain ⟨A0, c0, rfl, hnc0, hcm0, _⟩ := p0.1.out; obtain ⟨D0, d0, rfl, hnd0, hdm0, _⟩ := q0.out; clear p0 q0; unfold maxLen at hcm0 hdm0
  have H1 := Lib.hid h1
  obtain ⟨A1, c1, cs1, rfl, hnc1, hcm1, hA1⟩ := h1.out; have HA1 := Lib.hid hA1; clear hA1 h1; unfold maxLen at hcm1
  go_enter Try.func88, Try.ntmps88
  have K0 := Kept.refl w
  go_wp2_with fail
  obtain ⟨wb1, hwb1⟩ : ∃ w' : World, w' = w.alloc (.cells #[.slice A0 x.elems.length c0, .slice D0 x.limits.length d0, .int .i64 x.repeats, .int .i64 x.bonus, .int .i64 x.keeps, .int .i64 x.fall] 32) := ⟨_, rfl⟩
  rw [← hwb1]
  have KB0 : Kept w wb1 := hwb1 ▸ (Kept.refl w).alloc _
  have B0 : Box wb1 (w.heap.size) 32 #[.slice A0 x.elems.length c0, .slice D0 x.limits.length d0, .int .i64 x.repeats, .int .i64 x.bonus, .int .i64 x.keeps, .int .i64 x.fall] := hwb1 ▸ Box.new w (w.heap.size) 32 #[.slice A0 x.elems.length c0, .slice D0 x.limits.length d0, .int .i64 x.repeats, .int .i64 x.bonus, .int .i64 x.keeps, .int .i64 x.fall] rfl
  have swb1 : wb1.heap.size = w.heap.size + 1 := by rw [hwb1]; simp
  clear hwb1
  have Kwb1 := K0.trans KB0
  go_loopw [11] (fun i wr => ∃ k : Nat, k ≤ its.length ∧ i = .int .i64 k ∧ (its.take k).all (knI x) = true ∧ Kept wb1 wr) (fun i _ => its.length - (intOf i).toNat)
  case atStart => exact ⟨0, Nat.zero_le _, rfl, rfl, Kept.refl _⟩
  case round =>
    obtain ⟨wo, rfl⟩ : ∃ wo : World, wo = wr := ⟨_, rfl⟩
    obtain ⟨k, hk, rfl, ha, hkept⟩ := hrel
    have HB := Lib.hid ha
    clear ha
    replace B0 := B0.kept hkept
    have szo := hkept.size
    have Ko := Kwb1.trans hkept
    by_cases hlt : k < its.length
    · obtain ⟨b, o, Aa, ca, Ab, cb, it, rfl, hbb, h2, h3, hit, q0, q1, q2⟩ := items_at (HA1.out.kept Ko) hlt
      have HS := Lib.hid hit.parts.1
      have HZ := Lib.hid h2
      clear h2 h3 hit
      have hle : it.names.length ≤ ca ∧ ca ≤ maxLen := by obtain ⟨_, _, e, h1, h2, _⟩ := HS.out.1.out; injection e with _ _ e; subst e; exact ⟨h1, h2⟩
      obtain ⟨hle1, hle2⟩ := hle
      unfold maxLen at hle2
      obtain ⟨x0, y0⟩ := B0.six
      go_wp2_with fail
      clear x0 y0
      go_loopw [18] (fun i wi => ∃ j : Nat, j ≤ it.names.length ∧ i = .int .i64 j ∧ (it.names.take j).all (knS x) = true ∧ Kept wo wi) (fun i _ => it.names.length - (intOf i).toNat)
      case atStart => exact ⟨0, Nat.zero_le _, rfl, rfl, (Kept.refl _).alloc _⟩
      case round =>
        obtain ⟨j, hj, rfl, ha, hki⟩ := hrel
        have HJ := Lib.hid ha
        clear ha
        replace B0 := B0.kept hki
        have szr := hki.size
        have Kr := Ko.trans hki
        by_cases hltj : j < it.names.length
        · obtain ⟨b1, o1, z, rfl, hb1, hz, hc⟩ := strs_at (HS.out.kept hki).1.addr hltj
          have HY := Lib.hid hz
          clear hz
          by_cases hf : findV x.elems z < 0
          · have HF := Lib.hid (knS_none hf)
            obtain ⟨x0, y0⟩ := B0.six
            go_wp2_with fail
            clear x0 y0
            refine (cdFind_any _ x z _ (H0.out.kept Kr)).mono ?_
            rintro e w1 ⟨rfl, k1⟩
            replace B0 := B0.kept k1
            have sz1 := k1.size
            have K1 := Kr.trans k1
            obtain ⟨x0, y0⟩ := B0.six
            go_wp2_with fail
            clear x0 y0
            go_ret
            exact ⟨ret_bool (all_not HZ.out (all_not (p := knS x) HY.out HF.out)).symm, K1⟩
          · have HF := Lib.hid (knS_hit hf)
            obtain ⟨x0, y0⟩ := B0.six
            go_wp2_with fail
            clear x0 y0
            refine (cdFind_any _ x z _ (H0.out.kept Kr)).mono ?_
            rintro e w2 ⟨rfl, k2⟩
            replace B0 := B0.kept k2
            have sz2 := k2.size
            have K2 := Kr.trans k2
            obtain ⟨x0, y0⟩ := B0.six
            go_wp2_with fail
            clear x0 y0
            go_roundw
            case rel => exact ⟨j + 1, by omega, by go_num, all_snoc HY.out HJ.out HF.out, hki.trans k2⟩
            case measure => simp [intOf]; omega
        · have HI := Lib.hid (all_full (p := knS x) (by omega) HJ.out)
          obtain ⟨x0, y0⟩ := B0.six
          go_wp2_with fail
          clear x0 y0
          go_roundw
          case rel => exact ⟨k + 1, by omega, by go_num, all_snoc (p := knI x) HZ.out HB.out HI.out, hkept.trans hki⟩
          case measure => simp [intOf]; omega
    · have HI := Lib.hid (all_full (p := knI x) (by omega) HB.out)
      obtain ⟨x0, y0⟩ := B0.six
      go_wp2_with fail
      clear x0 y0
      go_ret
      exact ⟨ret_bool HI.out.symm, Ko⟩
set_option maxHeartbeats 1000000 in
theorem isKnown_any (v0 v1 : Value) (x : CodeD) (its : List ItemD) (w : World) (h0 : CodeAt w v0 x) (h1 : ItemsAt w v1 its)  :
    Calls Try.prog 90 #[v0, v1] w fun e w' => e = .returned (.bool (knB x its)) ∧ Kept w w' := by
  have H0 := Lib.hid h0
  obtain ⟨n0, m0, rfl, p0, q0⟩ := h0
  have HE0 := Lib.hid p0; have HI0 := Lib.hid q0
  obtain ⟨A0, c0, rfl, hnc0, hcm0, _⟩ := p0.1.out; obtain ⟨D0, d0, rfl, hnd0, hdm0, _⟩ := q0.out; clear p0 q0; unfold maxLen at hcm0 hdm0
  have H1 := Lib.hid h1
  obtain ⟨A1, c1, cs1, rfl, hnc1, hcm1, hA1⟩ := h1.out; have HA1 := Lib.hid hA1; clear hA1 h1; unfold maxLen at hcm1
  go_enter Try.func90, Try.ntmps90
  have K0 := Kept.refl w
  go_wp2_with fail
  obtain ⟨wb1, hwb1⟩ : ∃ w' : World, w' = w.alloc (.cells #[.slice A0 x.elems.length c0, .slice D0 x.limits.length d0, .int .i64 x.repeats, .int .i64 x.bonus, .int .i64 x.keeps, .int .i64 x.fall] 32) := ⟨_, rfl⟩
  rw [← hwb1]
  have KB0 : Kept w wb1 := hwb1 ▸ (Kept.refl w).alloc _
  have B0 : Box wb1 (w.heap.size) 32 #[.slice A0 x.elems.length c0, .slice D0 x.limits.length d0, .int .i64 x.repeats, .int .i64 x.bonus, .int .i64 x.keeps, .int .i64 x.fall] := hwb1 ▸ Box.new w (w.heap.size) 32 #[.slice A0 x.elems.length c0, .slice D0 x.limits.length d0, .int .i64 x.repeats, .int .i64 x.bonus, .int .i64 x.keeps, .int .i64 x.fall] rfl
  have swb1 : wb1.heap.size = w.heap.size + 1 := by rw [hwb1]; simp
  clear hwb1
  have Kwb1 := K0.trans KB0
  go_loopw [11] (fun i wr => ∃ k : Nat, k ≤ its.length ∧ i = .int .i64 k ∧ (its.take k).all (knI x) = true ∧ Kept wb1 wr) (fun i _ => its.length - (intOf i).toNat)
  case atStart => exact ⟨0, Nat.zero_le _, rfl, rfl, Kept.refl _⟩
  case round =>
    obtain ⟨wo, rfl⟩ : ∃ wo : World, wo = wr := ⟨_, rfl⟩
    obtain ⟨k, hk, rfl, ha, hkept⟩ := hrel
    have HB := Lib.hid ha
    clear ha
    replace B0 := B0.kept hkept
    have szo := hkept.size
    have Ko := Kwb1.trans hkept
    by_cases hlt : k < its.length
    · obtain ⟨b, o, Aa, ca, Ab, cb, it, rfl, hbb, h2, h3, hit, q0, q1, q2⟩ := items_at (HA1.out.kept Ko) hlt
      have HS := Lib.hid hit.parts.1
      have HZ := Lib.hid h2
      clear h2 h3 hit
      have hle : it.names.length ≤ ca ∧ ca ≤ maxLen := by obtain ⟨_, _, e, h1, h2, _⟩ := HS.out.1.out; injection e with _ _ e; subst e; exact ⟨h1, h2⟩
      obtain ⟨hle1, hle2⟩ := hle
      unfold maxLen at hle2
      obtain ⟨x0, y0⟩ := B0.six
      go_wp2_with fail
      clear x0 y0
      go_loopw [18] (fun i wi => ∃ j : Nat, j ≤ it.names.length ∧ i = .int .i64 j ∧ (it.names.take j).all (knS x) = true ∧ Kept wo wi) (fun i _ => it.names.length - (intOf i).toNat)
      case atStart => exact ⟨0, Nat.zero_le _, rfl, rfl, (Kept.refl _).alloc _⟩
      case round =>
        obtain ⟨j, hj, rfl, ha, hki⟩ := hrel
        have HJ := Lib.hid ha
        clear ha
        replace B0 := B0.kept hki
        have szr := hki.size
        have Kr := Ko.trans hki
        by_cases hltj : j < it.names.length
        · obtain ⟨b1, o1, z, rfl, hb1, hz, hc⟩ := strs_at (HS.out.kept hki).1.addr hltj
          have HY := Lib.hid hz
          clear hz
          by_cases hf : findV x.elems z < 0
          · have HF := Lib.hid (knS_none hf)
            obtain ⟨x0, y0⟩ := B0.six
            go_wp2_with fail
            clear x0 y0
            refine (findElement_any _ x z _ (H0.out.kept Kr)).mono ?_
            rintro e w1 ⟨rfl, k1⟩
            replace B0 := B0.kept k1
            have sz1 := k1.size
            have K1 := Kr.trans k1
            obtain ⟨x0, y0⟩ := B0.six
            go_wp2_with fail
            clear x0 y0
            go_ret
            exact ⟨ret_bool (all_not HZ.out (all_not (p := knS x) HY.out HF.out)).symm, K1⟩
          · have HF := Lib.hid (knS_hit hf)
            obtain ⟨x0, y0⟩ := B0.six
            go_wp2_with fail
            clear x0 y0
            refine (findElement_any _ x z _ (H0.out.kept Kr)).mono ?_
            rintro e w2 ⟨rfl, k2⟩
            replace B0 := B0.kept k2
            have sz2 := k2.size
            have K2 := Kr.trans k2
            obtain ⟨x0, y0⟩ := B0.six
            go_wp2_with fail
            clear x0 y0
            go_roundw
            case rel => exact ⟨j + 1, by omega, by go_num, all_snoc HY.out HJ.out HF.out, hki.trans k2⟩
            case measure => simp [intOf]; omega
        · have HI := Lib.hid (all_full (p := knS x) (by omega) HJ.out)
          obtain ⟨x0, y0⟩ := B0.six
          go_wp2_with fail
          clear x0 y0
          go_roundw
          case rel => exact ⟨k + 1, by omega, by go_num, all_snoc (p := knI x) HZ.out HB.out HI.out, hkept.trans hki⟩
          case measure => simp [intOf]; omega
    · have HI := Lib.hid (all_full (p := knI x) (by omega) HB.out)
      obtain ⟨x0, y0⟩ := B0.six
      go_wp2_with fail
      clear x0 y0
      go_ret
      exact ⟨ret_bool HI.out.symm, Ko⟩
set_option maxHeartbeats 1000000 in
theorem bsGood_any (v0 v1 : Value) (x : CodeD) (its : List ItemD) (w : World) (h0 : CodeAt w v0 x) (h1 : ItemsAt w v1 its)  :
    Calls Try.prog 58 #[v0, v1] w fun e w' => e = .returned (.bool (gdB x its)) ∧ Kept w w' := by
  have H0 := Lib.hid h0
  obtain ⟨n0, m0, rfl, p0, q0⟩ := h0
  have HE0 := Lib.hid p0; have HI0 := Lib.hid q0
  obtain ⟨A0, c0, rfl, hnc0, hcm0, _⟩ := p0.1.out; obtain ⟨D0, d0, rfl, hnd0, hdm0, _⟩ := q0.out; clear p0 q0; unfold maxLen at hcm0 hdm0
  have H1 := Lib.hid h1
  obtain ⟨A1, c1, cs1, rfl, hnc1, hcm1, hA1⟩ := h1.out; have HA1 := Lib.hid hA1; clear hA1 h1; unfold maxLen at hcm1
  go_enter Try.func58, Try.ntmps58
  have K0 := Kept.refl w
  go_wp2_with fail
  obtain ⟨wb1, hwb1⟩ : ∃ w' : World, w' = w.alloc (.cells #[.slice A0 x.elems.length c0, .slice D0 x.limits.length d0, .int .i64 x.repeats, .int .i64 x.bonus, .int .i64 x.keeps, .int .i64 x.fall] 32) := ⟨_, rfl⟩
  rw [← hwb1]
  have KB0 : Kept w wb1 := hwb1 ▸ (Kept.refl w).alloc _
  have B0 : Box wb1 (w.heap.size) 32 #[.slice A0 x.elems.length c0, .slice D0 x.limits.length d0, .int .i64 x.repeats, .int .i64 x.bonus, .int .i64 x.keeps, .int .i64 x.fall] := hwb1 ▸ Box.new w (w.heap.size) 32 #[.slice A0 x.elems.length c0, .slice D0 x.limits.length d0, .int .i64 x.repeats, .int .i64 x.bonus, .int .i64 x.keeps, .int .i64 x.fall] rfl
  have swb1 : wb1.heap.size = w.heap.size + 1 := by rw [hwb1]; simp
  clear hwb1
  have Kwb1 := K0.trans KB0
  refine (cdGood_any _ x _ (H0.out.kept Kwb1)).mono ?_
  rintro e w1 ⟨rfl, k1⟩
  replace B0 := B0.kept k1
  have sz1 := k1.size
  have K1 := Kwb1.trans k1
  by_cases hc : codeB x = true
  case neg =>
    simp only [Bool.not_eq_true] at hc
    rw [hc]
    have HO : Hid (gdB x its = false) := Lib.hid (by unfold gdB; simp [hc])
    obtain ⟨x0, y0⟩ := B0.six
    go_wp2_with fail
    clear x0 y0
    go_ret
    exact ⟨by rw [HO.out]; rfl, K1⟩
  rw [hc]
  obtain ⟨x0, y0⟩ := B0.six
  go_wp2_with fail
  clear x0 y0
  refine (itList_any _ its _ (H1.out.kept K1)).mono ?_
  rintro e w2 ⟨rfl, k2⟩
  replace B0 := B0.kept k2
  have sz2 := k2.size
  have K2 := K1.trans k2
  by_cases hi : itemsB its = true
  case neg =>
    simp only [Bool.not_eq_true] at hi
    rw [hi]
    have HO : Hid (gdB x its = false) := Lib.hid (by unfold gdB; simp [hc, hi])
    obtain ⟨x0, y0⟩ := B0.six
    go_wp2_with fail
    clear x0 y0
    go_ret
    exact ⟨by rw [HO.out]; rfl, K2⟩
  rw [hi]
  obtain ⟨x0, y0⟩ := B0.six
  go_wp2_with fail
  clear x0 y0
  refine (bsKnows_any _ _ x its _ (H0.out.kept K2) (H1.out.kept K2)).mono ?_
  rintro e w3 ⟨rfl, k3⟩
  replace B0 := B0.kept k3
  have sz3 := k3.size
  have K3 := K2.trans k3
  obtain ⟨x0, y0⟩ := B0.six
  go_wp2_with fail
  clear x0 y0
  go_ret
  exact ⟨ret_bool (by unfold gdB; rw [hc, hi]; rfl), K3⟩
set_option maxHeartbeats 1000000 in
theorem areKnown_any (v0 v1 : Value) (x : CodeD) (its : List ItemD) (w : World) (h0 : CodeAt w v0 x) (h1 : ItemsAt w v1 its)  :
    Calls Try.prog 61 #[v0, v1] w fun e w' => e = .returned (.bool (gdB x its)) ∧ Kept w w' := by
  have H0 := Lib.hid h0
  obtain ⟨n0, m0, rfl, p0, q0⟩ := h0
  have HE0 := Lib.hid p0; have HI0 := Lib.hid q0
  obtain ⟨A0, c0, rfl, hnc0, hcm0, _⟩ := p0.1.out; obtain ⟨D0, d0, rfl, hnd0, hdm0, _⟩ := q0.out; clear p0 q0; unfold maxLen at hcm0 hdm0
  have H1 := Lib.hid h1
  obtain ⟨A1, c1, cs1, rfl, hnc1, hcm1, hA1⟩ := h1.out; have HA1 := Lib.hid hA1; clear hA1 h1; unfold maxLen at hcm1
  go_enter Try.func61, Try.ntmps61
  have K0 := Kept.refl w
  go_wp2_with fail
  obtain ⟨wb1, hwb1⟩ : ∃ w' : World, w' = w.alloc (.cells #[.slice A0 x.elems.length c0, .slice D0 x.limits.length d0, .int .i64 x.repeats, .int .i64 x.bonus, .int .i64 x.keeps, .int .i64 x.fall] 32) := ⟨_, rfl⟩
  rw [← hwb1]
  have KB0 : Kept w wb1 := hwb1 ▸ (Kept.refl w).alloc _
  have B0 : Box wb1 (w.heap.size) 32 #[.slice A0 x.elems.length c0, .slice D0 x.limits.length d0, .int .i64 x.repeats, .int .i64 x.bonus, .int .i64 x.keeps, .int .i64 x.fall] := hwb1 ▸ Box.new w (w.heap.size) 32 #[.slice A0 x.elems.length c0, .slice D0 x.limits.length d0, .int .i64 x.repeats, .int .i64 x.bonus, .int .i64 x.keeps, .int .i64 x.fall] rfl
  have swb1 : wb1.heap.size = w.heap.size + 1 := by rw [hwb1]; simp
  clear hwb1
  have Kwb1 := K0.trans KB0
  refine (isCode_any _ x _ (H0.out.kept Kwb1)).mono ?_
  rintro e w1 ⟨rfl, k1⟩
  replace B0 := B0.kept k1
  have sz1 := k1.size
  have K1 := Kwb1.trans k1
  by_cases hc : codeB x = true
  case neg =>
    simp only [Bool.not_eq_true] at hc
    rw [hc]
    have HO : Hid (gdB x its = false) := Lib.hid (by unfold gdB; simp [hc])
    obtain ⟨x0, y0⟩ := B0.six
    go_wp2_with fail
    clear x0 y0
    go_ret
    exact ⟨by rw [HO.out]; rfl, K1⟩
  rw [hc]
  obtain ⟨x0, y0⟩ := B0.six
  go_wp2_with fail
  clear x0 y0
  refine (areItems_any _ its _ (H1.out.kept K1)).mono ?_
  rintro e w2 ⟨rfl, k2⟩
  replace B0 := B0.kept k2
  have sz2 := k2.size
  have K2 := K1.trans k2
  by_cases hi : itemsB its = true
  case neg =>
    simp only [Bool.not_eq_true] at hi
    rw [hi]
    have HO : Hid (gdB x its = false) := Lib.hid (by unfold gdB; simp [hc, hi])
    obtain ⟨x0, y0⟩ := B0.six
    go_wp2_with fail
    clear x0 y0
    go_ret
    exact ⟨by rw [HO.out]; rfl, K2⟩
  rw [hi]
  obtain ⟨x0, y0⟩ := B0.six
  go_wp2_with fail
  clear x0 y0
  refine (isKnown_any _ _ x its _ (H0.out.kept K2) (H1.out.kept K2)).mono ?_
  rintro e w3 ⟨rfl, k3⟩
  replace B0 := B0.kept k3
  have sz3 := k3.size
  have K3 := K2.trans k3
  obtain ⟨x0, y0⟩ := B0.six
  go_wp2_with fail
  clear x0 y0
  go_ret
  exact ⟨ret_bool (by unfold gdB; rw [hc, hi]; rfl), K3⟩
end Go.Proofs.Ytpkmngkepmoikaa
