/- Contracts of functions that the proof leans on. No condition. -/
import Derived.Test.YtkekpolfdmmgeaaGreatDoorMc2bb090f0b
import Derived.Deep.DeepBigQuietO
import Derived.Deep.DeepCutAuto
/- Draws: lists of items and items for the notation. -/
namespace Go.Proofs.YtkekpolfdmmgeaaGreatDoor
set_option linter.unusedVariables false
set_option linter.unusedSimpArgs false
set_option linter.unnecessarySimpa false
open Go.RowKit Go.Lib

theorem OwnT.offU {w w' : World} {base : Nat} {v : Value} {it : ItemD} {S : List Nat} (h : OwnT w base v it) (on : Only S w w') (hd : ∀ b ∈ S, b < base ∨ w.heap.size ≤ b) : OwnT w' base v it := by
  have hf := ownT_fps h
  obtain ⟨nv, mv, rfl, h1, h2, h3⟩ := h
  rw [fpA_item] at hf
  exact ⟨nv, mv, rfl, h1.only on (fun b hb hs => by have := hf b (List.mem_append_left _ hb); have := hd b hs; omega), own_only h2 on (fun b hb hs => by have := hf b (List.mem_append_right _ hb); have := hd b hs; omega), h3⟩
set_option maxRecDepth 100000 in
set_option maxHeartbeats 8000000 in
theorem drawAreItems_any (v : Value) (w : World) (h : Byts w v) :
    Calls Tryz.prog 77 #[v] w fun e w' => LsPost w e w' 15 ∧ Kept w w' := by
  obtain ⟨A, n, c, rfl, hnc, hcm, hb⟩ := h
  go_enter Tryz.func77, Tryz.ntmps77
  go_wp2_with fail
  obtain ⟨w0, hw0⟩ : ∃ x : World, x = w.alloc (.cells #[.slice A n c, .int .i64 0, .int .u64 0] 86) := ⟨_, rfl⟩
  rw [← hw0]
  have C0 : Hid (Cur w0 w.heap.size 0) := Lib.hid (hw0 ▸ Cur.init hnc hcm hb)
  have K0 : Hid (Kept w w0) := Lib.hid (hw0 ▸ (Kept.refl w).alloc _)
  clear hw0 hb
  obtain ⟨p, hp⟩ : ∃ p, p = w.heap.size := ⟨_, rfl⟩
  rw [← hp] at C0 ⊢
  have hpw : w.heap.size ≤ p := Nat.le_of_eq hp.symm
  clear hp
  have N0 : Hid (Only [p] w0 w0) := Lib.hid (Only.refl _ _)
  go_wp2_with fail
  with_reducible refine (anyItems_any p _ w0 C0.out (by omega)).mono ?_
  rintro e w1 ⟨⟨v1, its, cs, rfl, o1, hl⟩, c1, on1⟩
  have C2 := Lib.hid c1
  have N2 := Lib.hid (N0.out.trans on1)
  clear c1 on1
  go_wp2_with fail
  go_ret
  exact ⟨⟨v1, its, cs, rfl, o1.base K0.out.size, hl⟩, N2.out.above K0.out (fun x hx => by rw [List.mem_singleton] at hx; subst hx; exact hpw)⟩
set_option maxHeartbeats 4000000 in
theorem drawItemsText_any (v : Value) (w : World) (h : Byts w v) :
    Calls Tryz.prog 22 #[v] w fun e w' => LsPost w e w' 15 ∧ Kept w w' := by
  have HB := Lib.hid h
  obtain ⟨A, n, c, rfl, _, _, _⟩ := h
  go_enter Tryz.func22, Tryz.ntmps22
  go_wp2_with fail
  with_reducible refine (drawAreItems_any _ w HB.out).mono ?_
  rintro e w1 ⟨⟨v1, its, cs, rfl, o1, hl⟩, k1⟩
  go_wp2_with fail
  go_ret
  exact ⟨⟨v1, its, cs, rfl, o1, hl⟩, k1⟩
set_option maxRecDepth 100000 in
set_option maxHeartbeats 8000000 in
theorem drawIsItem_any (v : Value) (w : World) (h : Byts w v) :
    Calls Tryz.prog 86 #[v] w fun e w' => ItPost w e w' 0 4 False ∧ Kept w w' := by
  have HB := Lib.hid h
  obtain ⟨A, n, c, rfl, _, _, _⟩ := h
  go_enter Tryz.func86, Tryz.ntmps86
  go_wp2_with fail
  obtain ⟨wr, hwr⟩ : ∃ x : World, x = w.alloc (.cells #[.slice none 0 0, .slice none 0 0, .bool false] 64) := ⟨_, rfl⟩
  rw [← hwr]
  have BR := Lib.hid (show Box wr w.heap.size 64 #[.slice none 0 0, .slice none 0 0, .bool false] from hwr ▸ Box.new w _ _ _ rfl)
  have KR : Kept w wr := hwr ▸ (Kept.refl w).alloc _
  have szr : w.heap.size < wr.heap.size := BR.out.lt
  have hsz : wr.heap.size = w.heap.size + 1 := by rw [hwr]; simp
  clear hwr
  obtain ⟨A', n', c', e', hnc, hcm, hb⟩ := HB.out.kept KR
  cases e'
  obtain ⟨w0, hw0⟩ : ∃ x : World, x = wr.alloc (.cells #[.slice A n c, .int .i64 0, .int .u64 0] 86) := ⟨_, rfl⟩
  rw [← hw0]
  have C0 : Hid (Cur w0 wr.heap.size 0) := Lib.hid (hw0 ▸ Cur.init hnc hcm hb)
  have K0 : Hid (Kept wr w0) := Lib.hid (hw0 ▸ (Kept.refl wr).alloc _)
  have sz0 : wr.heap.size < w0.heap.size := C0.out.lt
  clear hw0 hb hnc hcm
  obtain ⟨p, hp⟩ : ∃ p, p = w.heap.size + 1 := ⟨_, rfl⟩
  rw [hsz, ← hp] at C0 sz0
  rw [← hp]
  have FIN : Hid (∀ (w3 w9 : World) (tv : Value) (it : ItemD), OwnT w3 w0.heap.size tv it → Only [p] w0 w3 → Only [w.heap.size] w3 w9 → (it.names.length ≤ 4 ∧ it.marks.length ≤ 4) → ItPost w (.returned tv) w9 0 4 False ∧ Kept w w9) := Lib.hid (fun w3 w9 tv it a on q h1 => by
    have hq : ∀ b ∈ [w.heap.size], b < w0.heap.size ∨ w3.heap.size ≤ b := fun b hb => by rw [List.mem_singleton] at hb; omega
    exact ⟨⟨tv, it, rfl, OwnT.low (a.offU q hq) (by omega), ⟨Nat.zero_le _, h1.1, h1.2⟩, fun f => f.elim⟩, q.above (on.above (KR.trans K0.out) (fun x hx => by rw [List.mem_singleton] at hx; omega)) (fun x hx => by rw [List.mem_singleton] at hx; omega)⟩)
  have hrp : w.heap.size ≠ p := by omega
  replace BR := Lib.hid (BR.out.kept K0.out)
  have hpl0 : p < w0.heap.size := sz0
  have hrw0 : w.heap.size < w0.heap.size := by omega
  clear hp KR K0 hsz
  with_reducible refine (anyItem_any p 0 w0 C0.out (by omega)).mono ?_
  rintro e w1 ⟨⟨v1, it, rfl, o1, ⟨_, hin, him⟩, _⟩, c1, on1⟩
  obtain ⟨nv, mv, rfl, p1, q1, nd⟩ := o1
  obtain ⟨An, cn, rfl, _⟩ := own_form p1.1
  obtain ⟨Am, cm, rfl, _⟩ := own_form q1
  have O1 : Hid (OwnT w1 w0.heap.size (.agg #[.slice An it.names.length cn, .slice Am it.marks.length cm, .bool it.late]) it) := Lib.hid ⟨_, _, rfl, p1, q1, nd⟩
  have B2 := BR.out.only on1 (not_one hrp)
  clear p1 q1 nd
  obtain ⟨x2, y2⟩ := B2.three
  go_wp2_with fail
  clear x2 y2
  obtain ⟨wz, hwz, Bz, Qz⟩ := set3 B2 (.slice An it.names.length cn) (.slice Am it.marks.length cm) (.bool it.late)
  rw [← hwz]
  clear hwz
  obtain ⟨cc, ff⟩ := Bz.three
  refine bodyPost_ret (v := .agg #[.slice An it.names.length cn, .slice Am it.marks.length cm, .bool it.late]) (by simp [results, Tryz.results86, go_sem, cc, ff]) rfl ?_
  exact FIN.out w1 wz _ it O1.out on1 Qz ⟨hin, him⟩
set_option maxRecDepth 100000 in
set_option maxHeartbeats 8000000 in
theorem drawItemText_any (v : Value) (w : World) (h : Byts w v) :
    Calls Tryz.prog 37 #[v] w fun e w' => ItPost w e w' 0 4 False ∧ Kept w w' := by
  have HB := Lib.hid h
  obtain ⟨A, n, c, rfl, _, _, _⟩ := h
  go_enter Tryz.func37, Tryz.ntmps37
  go_wp2_with fail
  obtain ⟨wr, hwr⟩ : ∃ x : World, x = w.alloc (.cells #[.slice none 0 0, .slice none 0 0, .bool false] 64) := ⟨_, rfl⟩
  rw [← hwr]
  have BR := Lib.hid (show Box wr w.heap.size 64 #[.slice none 0 0, .slice none 0 0, .bool false] from hwr ▸ Box.new w _ _ _ rfl)
  have KR : Kept w wr := hwr ▸ (Kept.refl w).alloc _
  have szr : w.heap.size < wr.heap.size := BR.out.lt
  have hsz : wr.heap.size = w.heap.size + 1 := by rw [hwr]; simp
  clear hwr
  with_reducible refine (drawIsItem_any _ wr (HB.out.kept KR)).mono ?_
  rintro e w1 ⟨⟨v1, it, rfl, o1, ⟨_, hin, him⟩, _⟩, k1⟩
  obtain ⟨nv, mv, rfl, p1, q1, nd⟩ := o1
  obtain ⟨An, cn, rfl, _⟩ := own_form p1.1
  obtain ⟨Am, cm, rfl, _⟩ := own_form q1
  have O1 : Hid (OwnT w1 wr.heap.size (.agg #[.slice An it.names.length cn, .slice Am it.marks.length cm, .bool it.late]) it) := Lib.hid ⟨_, _, rfl, p1, q1, nd⟩
  have B2 := BR.out.kept k1
  have K1 := KR.trans k1
  clear p1 q1 nd k1
  obtain ⟨x2, y2⟩ := B2.three
  go_wp2_with fail
  clear x2 y2
  obtain ⟨wz, hwz, Bz, Qz⟩ := set3 B2 (.slice An it.names.length cn) (.slice Am it.marks.length cm) (.bool it.late)
  rw [← hwz]
  clear hwz
  obtain ⟨cc, ff⟩ := Bz.three
  refine bodyPost_ret (v := .agg #[.slice An it.names.length cn, .slice Am it.marks.length cm, .bool it.late]) (by simp [results, Tryz.results37, go_sem, cc, ff]) rfl ?_
  have hq : ∀ b ∈ [w.heap.size], b < wr.heap.size ∨ w1.heap.size ≤ b := fun b hb => by rw [List.mem_singleton] at hb; omega
  exact ⟨⟨_, it, rfl, OwnT.low (O1.out.offU Qz hq) (by omega), ⟨Nat.zero_le _, hin, him⟩, fun f => f.elim⟩, Qz.above K1 (fun y hy => by rw [List.mem_singleton] at hy; omega)⟩
set_option maxRecDepth 100000 in
set_option maxHeartbeats 8000000 in
theorem drawIsName_any (v : Value) (w : World) (h : Byts w v) :
    Calls Tryz.prog 44 #[v] w fun e w' => (∃ s : ByteArray, s.size ≤ 100 ∧ e = .returned (.string s)) ∧ Kept w w' := by
  obtain ⟨A, n, c, rfl, hnc, hcm, hb⟩ := h
  go_enter Tryz.func44, Tryz.ntmps44
  go_wp2_with fail
  obtain ⟨w0, hw0⟩ : ∃ x : World, x = w.alloc (.cells #[.slice A n c, .int .i64 0, .int .u64 0] 86) := ⟨_, rfl⟩
  rw [← hw0]
  have C0 : Hid (Cur w0 w.heap.size 0) := Lib.hid (hw0 ▸ Cur.init hnc hcm hb)
  have K0 : Hid (Kept w w0) := Lib.hid (hw0 ▸ (Kept.refl w).alloc _)
  have HS0 : Hid (w0.heap.size = w.heap.size + 1) := Lib.hid (by rw [hw0]; simp)
  clear hw0 hb
  obtain ⟨p, hp⟩ : ∃ p, p = w.heap.size := ⟨_, rfl⟩
  rw [← hp] at C0 HS0 ⊢
  have hpw : w.heap.size ≤ p := Nat.le_of_eq hp.symm
  clear hp
  have N0 : Hid (Only [p] w0 w0) := Lib.hid (Only.refl _ _)
  go_wp2_with fail
  obtain ⟨wb1, hwb1⟩ : ∃ x : World, x = w0.alloc (.cells #[.string ⟨#[51, 65]⟩, .string ⟨#[65]⟩, .string ⟨#[48]⟩, .string ⟨#[65, 66, 67, 68, 69]⟩, .string ⟨#[65, 66, 67, 68, 69, 70]⟩, .string ⟨#[]⟩, .string ⟨#[97]⟩, .string ⟨#[51, 65, 60]⟩, .string ⟨#[65, 32, 66]⟩, .string ⟨#[67, 67, 79, 83, 80]⟩] 9) := ⟨_, rfl⟩
  rw [← hwb1]
  have kb1 : Kept w0 wb1 := hwb1 ▸ (Kept.refl w0).alloc _
  have B1 : Box wb1 w0.heap.size 9 #[.string ⟨#[51, 65]⟩, .string ⟨#[65]⟩, .string ⟨#[48]⟩, .string ⟨#[65, 66, 67, 68, 69]⟩, .string ⟨#[65, 66, 67, 68, 69, 70]⟩, .string ⟨#[]⟩, .string ⟨#[97]⟩, .string ⟨#[51, 65, 60]⟩, .string ⟨#[65, 32, 66]⟩, .string ⟨#[67, 67, 79, 83, 80]⟩] := hwb1 ▸ Box.new w0 _ _ _ rfl
  have C1 := Lib.hid (C0.out.kept kb1)
  have N1 := Lib.hid (N0.out.trans (kb1.only _))
  have hp1 : w0.heap.size ≠ p := Nat.ne_of_gt C0.out.lt
  clear hwb1 kb1
  rw [← HS0.out]
  with_reducible refine (of_lit p _ w0.heap.size 10 [⟨#[51, 65]⟩, ⟨#[65]⟩, ⟨#[48]⟩, ⟨#[65, 66, 67, 68, 69]⟩, ⟨#[65, 66, 67, 68, 69, 70]⟩, ⟨#[]⟩, ⟨#[97]⟩, ⟨#[51, 65, 60]⟩, ⟨#[65, 32, 66]⟩, ⟨#[67, 67, 79, 83, 80]⟩] wb1 C1.out (by omega) B1 hp1 rfl (by omega) (by omega) (by decide)).mono ?_
  rintro e w2 ⟨x2, rfl, hx2, c2, on2⟩
  have C3 := Lib.hid c2
  have N3 := Lib.hid (N1.out.trans on2)
  clear c2 on2
  have hsz : x2.size ≤ 100 := by
    have : ∀ z ∈ [(⟨#[51, 65]⟩ : ByteArray), (⟨#[65]⟩ : ByteArray), (⟨#[48]⟩ : ByteArray), (⟨#[65, 66, 67, 68, 69]⟩ : ByteArray), (⟨#[65, 66, 67, 68, 69, 70]⟩ : ByteArray), (⟨#[]⟩ : ByteArray), (⟨#[97]⟩ : ByteArray), (⟨#[51, 65, 60]⟩ : ByteArray), (⟨#[65, 32, 66]⟩ : ByteArray), (⟨#[67, 67, 79, 83, 80]⟩ : ByteArray)], z.size ≤ 100 := by decide
    exact this _ hx2
  go_wp2_with fail
  go_ret
  exact ⟨⟨_, hsz, rfl⟩, N3.out.above K0.out (fun x hx => by rw [List.mem_singleton] at hx; subst hx; exact hpw)⟩
end Go.Proofs.YtkekpolfdmmgeaaGreatDoor

/- Draws: two lists of items, often with the same calls. -/
namespace Go.Proofs.YtkekpolfdmmgeaaGreatDoor
set_option linter.unusedVariables false
set_option linter.unusedSimpArgs false
set_option linter.unnecessarySimpa false
open Go.RowKit Go.Lib

/-- what a draw of two lists leaves -/
def L2Post (w : World) (e : Ending) (w' : World) : Prop := ∃ u v xs ys, e = .returned (.tuple #[u, v]) ∧ ItemsAt w' u xs ∧ ItemsAt w' v ys ∧ xs.length ≤ 15 ∧ ys.length ≤ 15
/-- an item of a list of valid items of one's own, its cells and its slices -/
theorem OwnC.seat {w : World} {base g cap k : Nat} {its : List ItemD} {cs : List (Value × Value)} (h : OwnC w base (.slice (some ⟨g, 0, none⟩) its.length cap) its cs) (hk : k < its.length) (hv : its.all itemB = true) :
    ∃ it gn nc gm mc, its[k]? = some it ∧ cs[k]? = some (.slice (some ⟨gn, 0, none⟩) it.names.length nc, .slice (some ⟨gm, 0, none⟩) it.marks.length mc) ∧ 0 < it.names.length ∧ 0 < it.marks.length ∧ base ≤ gn ∧ base ≤ gm ∧ base ≤ g ∧
      gn < w.heap.size ∧ gm < w.heap.size ∧ g < w.heap.size ∧
      w.cell? ⟨g, k * 3, none⟩ = some (.slice (some ⟨gn, 0, none⟩) it.names.length nc) ∧ w.cell? ⟨g, k * 3 + 1, none⟩ = some (.slice (some ⟨gm, 0, none⟩) it.marks.length mc) ∧ w.cell? ⟨g, k * 3 + 2, none⟩ = some (.bool it.late) := by
  obtain ⟨b, o, A1, c1, A2, c2, it, hA, hb, hi, hc, _, q0, q1, q2⟩ := items_at (h.toA rfl) hk
  injection hA with hA
  injection hA with e1 e2
  subst e1 e2
  obtain ⟨_, n1, n3, nm⟩ := all_some hv hi
  obtain ⟨r1, r2⟩ := h.2.2.1 k _ _ it hc hi
  obtain ⟨B1, d1, f1, _, _, a1⟩ := own_form r1.1
  obtain ⟨B2, d2, f2, _, _, a2⟩ := own_form r2
  injection f1 with f1
  injection f2 with f2
  obtain ⟨gn, rfl⟩ := a1 (by omega)
  obtain ⟨gm, rfl⟩ := a2 (by omega)
  subst f1 f2
  have k1 := own_fp r1.1 gn (by simp [fp_some])
  have k2 := own_fp r2 gm (by simp [fp_some])
  have k3 := own_fp h.2.1 g (by simp [fp_some])
  rw [Nat.zero_add] at q0 q1 q2
  exact ⟨it, gn, c1, gm, c2, hi, hc, by omega, by omega, k1.1, k2.1, k3.1, k1.2, k2.2, k3.2, q0, q1, q2⟩
theorem OwnC.slotM {w : World} {base g cap k : Nat} {its : List ItemD} {cs : List (Value × Value)} (h : OwnC w base (.slice (some ⟨g, 0, none⟩) its.length cap) its cs) (hk : k < its.length) {it : ItemD} {nv mv : Value} (hi : its[k]? = some it) (hc : cs[k]? = some (nv, mv)) : w.cell? ⟨g, k * 3 + 1, none⟩ = some mv := by
  obtain ⟨b, o, A1, c1, A2, c2, it', hA, hb, hi', hc', _, q0, q1, q2⟩ := items_at (h.toA rfl) hk
  injection hA with hA
  injection hA with e1 e2
  subst e1 e2
  rw [hc] at hc'
  simp only [Option.some.injEq, Prod.mk.injEq] at hc'
  rw [Nat.zero_add] at q1
  rw [q1, hc'.2]
set_option maxRecDepth 100000 in
set_option maxHeartbeats 16000000 in
theorem drawSameCalls_any (v : Value) (w : World) (h : Byts w v) :
    Calls Tryz.prog 42 #[v] w fun e w' => L2Post w e w' ∧ Kept w w' := by
  obtain ⟨A, n, c, rfl, hnc, hcm, hb⟩ := h
  go_enter Tryz.func42, Tryz.ntmps42
  go_wp2_with fail
  obtain ⟨w0, hw0⟩ : ∃ x : World, x = w.alloc (.cells #[.slice A n c, .int .i64 0, .int .u64 0] 86) := ⟨_, rfl⟩
  rw [← hw0]
  have C0 : Hid (Cur w0 w.heap.size 0) := Lib.hid (hw0 ▸ Cur.init hnc hcm hb)
  have K0 : Hid (Kept w w0) := Lib.hid (hw0 ▸ (Kept.refl w).alloc _)
  clear hw0 hb
  have sz0 : w.heap.size < w0.heap.size := C0.out.lt
  obtain ⟨p, hp⟩ : ∃ p, p = w.heap.size := ⟨_, rfl⟩
  rw [← hp] at C0 sz0 ⊢
  have hpw : w.heap.size ≤ p := Nat.le_of_eq hp.symm
  clear hp
  have FIN2 : Hid (∀ (w3 : World) (u v : Value) (xs ys : List ItemD), ItemsAt w3 u xs → ItemsAt w3 v ys → Only [p] w0 w3 → xs.length ≤ 15 → ys.length ≤ 15 → L2Post w (.returned (.tuple #[u, v])) w3 ∧ Kept w w3) := Lib.hid (fun w3 u v xs ys a b on h1 h2 =>
    ⟨⟨u, v, xs, ys, rfl, a, b, h1, h2⟩, on.above K0.out (fun x hx => by rw [List.mem_singleton] at hx; omega)⟩)
  with_reducible refine (anyItems_any p _ w0 C0.out (by omega)).mono ?_
  rintro e w1 ⟨⟨v1, its, cs, rfl, o1, hl⟩, c1, on1⟩
  obtain ⟨A1, cap1, rfl, _⟩ := own_form o1.2.1
  have O1 := Lib.hid o1
  have C1 := Lib.hid c1
  have N1 := Lib.hid on1
  have HL := Lib.hid hl
  clear o1 c1 on1 hl C0
  go_wp2_with fail
  refine (itList_any _ its _ O1.out.items).mono ?_
  rintro e w2 ⟨rfl, k2⟩
  replace O1 := Lib.hid (O1.out.kept k2)
  have C2 := Lib.hid (C1.out.kept k2)
  have N2 := Lib.hid (N1.out.trans (k2.only _))
  clear k2 C1 N1
  cases hg : itemsB its with
  | false =>
    clear hg
    go_wp2_with fail
    with_reducible refine (anyItems_any p _ w2 C2.out (by omega)).mono ?_
    rintro e wz ⟨⟨vz, jts, js, rfl, oz, hlz⟩, cz, onz⟩
    have HZ := Lib.hid (O1.out.off onz (fun b hb => by rw [List.mem_singleton] at hb; subst hb; exact .inl sz0))
    have NZ := Lib.hid (N2.out.trans onz)
    have OZ := Lib.hid oz.items
    have HLZ := Lib.hid hlz
    clear cz onz oz hlz
    go_wp2_with fail
    go_ret2
    exact FIN2.out wz _ _ _ _ HZ.out.items OZ.out NZ.out HL.out HLZ.out
  | true =>
    have HG := Lib.hid hg
    clear hg
    go_wp2_with fail
    with_reducible refine (one_any p _ 4 w2 C2.out (by omega) (by omega)).mono ?_
    rintro e w3 ⟨b3, rfl, c3, on3⟩
    have HPO : Hid (∀ b ∈ [p], b < w0.heap.size ∨ w2.heap.size ≤ b) := Lib.hid (fun b hb => by rw [List.mem_singleton] at hb; subst hb; exact .inl sz0)
    have O3 := Lib.hid (O1.out.off on3 HPO.out)
    have C3 := Lib.hid c3
    have N3 := Lib.hid (N2.out.trans on3)
    clear c3 on3 HPO O1 C2 N2
    cases b3 with
    | true =>
      go_wp2_with fail
      with_reducible refine (anyItems_any p _ w3 C3.out (by omega)).mono ?_
      rintro e wz ⟨⟨vz, jts, js, rfl, oz, hlz⟩, cz, onz⟩
      have HZ := Lib.hid (O3.out.off onz (fun b hb => by rw [List.mem_singleton] at hb; subst hb; exact .inl sz0))
      have NZ := Lib.hid (N3.out.trans onz)
      have OZ := Lib.hid oz.items
      have HLZ := Lib.hid hlz
      clear cz onz oz hlz
      go_wp2_with fail
      go_ret2
      exact FIN2.out wz _ _ _ _ HZ.out.items OZ.out NZ.out HL.out HLZ.out
    | false =>
      go_wp2_with fail
      have HV : Hid (its.all itemB = true) := Lib.hid (by have := HG.out; unfold itemsB at this; rw [Bool.and_eq_true] at this; exact this.1)
      refine (itOwn_any _ its _ O3.out.items HV.out (by have := HL.out; omega)).mono ?_
      rintro e w4 ⟨v4, cs4, rfl, o4, k4⟩
      have hlow : Hid (∀ b ∈ fp (.slice A1 its.length cap1) ++ fpL cs, b < w3.heap.size) := Lib.hid (fun b hb => (O3.out.fps b hb).2)
      have HA4 := Lib.hid (O3.out.kept k4)
      have C4 := Lib.hid (C3.out.kept k4)
      have N4 := Lib.hid (N3.out.trans (k4.only _))
      have sz3 : p < w3.heap.size := C3.out.lt
      have sz03 : w0.heap.size ≤ w3.heap.size := N3.out.size
      obtain ⟨A4, cap4, rfl, _, hm4, hA4⟩ := own_form o4.2.1
      unfold maxLen at hm4
      have O4 := Lib.hid o4
      clear o4 k4 O3 C3 N3
      by_cases hne : 0 < its.length
      · obtain ⟨g, rfl⟩ := hA4 hne
        have hne' : (0 : Int) < (its.length : Int) := by omega
        go_wp2_with fail
        have HPA : Hid (∀ {w : World}, ∀ b ∈ [p], b < w0.heap.size ∨ w.heap.size ≤ b) := Lib.hid (fun b hb => by rw [List.mem_singleton] at hb; subst hb; exact .inl sz0)
        have HPB : Hid (∀ {w : World}, ∀ b ∈ [p], b < w3.heap.size ∨ w.heap.size ≤ b) := Lib.hid (fun b hb => by rw [List.mem_singleton] at hb; subst hb; exact .inl sz3)
        with_reducible refine (pick_any p _ its.length w4 C4.out (by omega) (by have := HL.out; omega)).mono ?_
        rintro e w5 ⟨x5, rfl, ⟨lo5, hi5⟩, c5, on5⟩
        obtain ⟨k, rfl⟩ : ∃ k : Nat, x5 = (k : Int) := ⟨x5.toNat, by omega⟩
        have hk : k < its.length := by have := hi5 (by omega); omega
        have hk' : (k : Int) < (its.length : Int) := by omega
        have HB5 := Lib.hid (O4.out.off on5 HPB.out)
        have HA5 := Lib.hid (HA4.out.off on5 HPA.out)
        have C5 := Lib.hid c5
        have N5 := Lib.hid (N4.out.trans on5)
        clear c5 on5 hi5 O4 HA4 C4 N4
        go_wp2_with fail
        with_reducible refine (pick_any p _ 4 w5 C5.out (by omega) (by omega)).mono ?_
        rintro e w6 ⟨x6, rfl, ⟨lo6, hi6'⟩, c6, on6⟩
        have HB := Lib.hid (HB5.out.off on6 HPB.out)
        have HA := Lib.hid (HA5.out.off on6 HPA.out)
        have C6 := Lib.hid c6
        have N6 := Lib.hid (N5.out.trans on6)
        clear c6 on6 hi6' HB5 HA5 C5 N5
        obtain ⟨it, gn, nc, gm, mc, hi6, hc6, n0, m0, b1, b2, b3, l1, l2, l3, q0, q1, q2⟩ := HB.out.seat hk HV.out
        have hn0 : (0 : Int) < (it.names.length : Int) := by omega
        have hm0 : (0 : Int) < (it.marks.length : Int) := by omega
        have FIN : Hid (∀ (g1 : Nat) (w8 w9 : World) (ys : List ItemD), OwnC w8 w0.heap.size (.slice A1 its.length cap1) its cs → ItemsAt w9 (.slice (some ⟨g, 0, none⟩) its.length cap4) ys → Only [p] w0 w8 → Only [g1] w8 w9 → w3.heap.size ≤ g1 → ys.length ≤ 15 → L2Post w (.returned (.tuple #[.slice A1 its.length cap1, .slice (some ⟨g, 0, none⟩) its.length cap4])) w9 ∧ Kept w w9) := Lib.hid (fun g1 w8 w9 ys a b on q hg h2 =>
          ⟨⟨_, _, its, ys, rfl, (a.only q (fun x hx => not_one (by have := hlow.out x hx; omega))).items, b, HL.out, h2⟩, q.above (on.above K0.out (fun x hx => by rw [List.mem_singleton] at hx; omega)) (fun x hx => by rw [List.mem_singleton] at hx; omega)⟩)
        obtain ⟨_, _, _, f2⟩ := ownC_cells HB.out hi6 hc6
        obtain ⟨zN, _, cN, fN⟩ := ownS_at (HB.out.2.2.1 k _ _ _ hc6 hi6).1 n0
        by_cases h0 : x6 = 0
        · subst h0
          clear q0 q2 f2 cN fN
          go_upto_region 11 with (fail)
          clear q1
          refine region_pop (S := fun w' => w'.cell? ⟨g, k * 3 + 1, none⟩ = some (.slice (some ⟨gm, 0, none⟩) it.marks.length mc)) 7 (by kernel_rfl) (by kernel_rfl) ?_
          simp only [List.take_succ_cons, List.take_zero, List.drop_succ_cons, List.drop_zero]
          refine startL ((HB.out.kept (Kept.refl w6).drew).slotM hk hi6 hc6) (fun hS0 => ?_)
          obtain ⟨wd, hwd⟩ : ∃ y : World, y = w6.drew := ⟨_, rfl⟩
          rw [← hwd] at hS0 ⊢
          have kd : Kept w6 wd := hwd ▸ (Kept.refl w6).drew
          have HBd := Lib.hid (HB.out.kept kd)
          have HAd := Lib.hid (HA.out.kept kd)
          have Cd := Lib.hid (C6.out.kept kd)
          have Nd := Lib.hid (N6.out.trans (kd.only _))
          clear hwd kd
          refine takeL (i := 0) (v := ?_) rfl (by kernel_rfl) (by kernel_rfl) (by kernel_rfl) (fun _ _ _ h => h) (Or.inl ⟨by rfl, ?_⟩) hS0 ?_
          rotate_left 1
          · (intro w hSw; (try dsimp only at hSw); go_simp; try with_reducible rfl)
          try simp only [Act.put, List.setIfInBounds_toArray, List.set_cons_zero, List.set_cons_succ]
          refine takeL (i := 1) (v := ?_) rfl (by kernel_rfl) (by kernel_rfl) (by kernel_rfl) (fun _ _ _ h => h) (Or.inl ⟨by rfl, ?_⟩) hS0 ?_
          rotate_left 1
          · (intro w hSw; (try dsimp only at hSw); go_simp; try with_reducible rfl)
          try simp only [Act.put, List.setIfInBounds_toArray, List.set_cons_zero, List.set_cons_succ]
          refine takeL (i := 2) (v := ?_) rfl (by kernel_rfl) (by kernel_rfl) (by kernel_rfl) (fun _ _ _ h => h) (Or.inl ⟨by rfl, ?_⟩) hS0 ?_
          rotate_left 1
          · (intro w hSw; (try dsimp only at hSw); go_simp; try with_reducible rfl)
          try simp only [Act.put, List.setIfInBounds_toArray, List.set_cons_zero, List.set_cons_succ]
          refine takeL (i := 3) (v := ?_) rfl (by kernel_rfl) (by kernel_rfl) (by kernel_rfl) (fun _ _ _ h => h) (Or.inl ⟨by rfl, ?_⟩) hS0 ?_
          rotate_left 1
          · (intro w hSw; (try dsimp only at hSw); go_simp; try with_reducible rfl)
          try simp only [Act.put, List.setIfInBounds_toArray, List.set_cons_zero, List.set_cons_succ]
          refine takeL (i := 4) (v := ?_) rfl (by kernel_rfl) (by kernel_rfl) (by kernel_rfl) (fun _ _ _ h => h) (Or.inl ⟨by rfl, ?_⟩) hS0 ?_
          rotate_left 1
          · (intro w hSw; (try dsimp only at hSw); go_simp; try with_reducible rfl)
          try simp only [Act.put, List.setIfInBounds_toArray, List.set_cons_zero, List.set_cons_succ]
          refine onlyL (i := 5) rfl (by kernel_rfl) (fun K hK => ?_)
          go_simp
          with_reducible refine (pick_any p _ 4 wd Cd.out (by omega) (by omega)).mono ?_
          rintro e w7 ⟨x7, rfl, ⟨_, _⟩, c7, on7⟩
          have HB7 := Lib.hid (HBd.out.off on7 HPB.out)
          have HA7 := Lib.hid (HAd.out.off on7 HPA.out)
          have N7 := Lib.hid (Nd.out.trans on7)
          clear c7 on7
          go_wp2_with fail
          refine hK.out _ _ (HB7.out.slotM hk hi6 hc6) (fun hS1 => ?_)
          clear hK K hS0
          try simp only [Act.put, List.setIfInBounds_toArray, List.set_cons_zero, List.set_cons_succ]
          refine takeL (i := 6) (v := ?_) rfl (by kernel_rfl) (by kernel_rfl) (by kernel_rfl) (fun _ _ _ h => h) (Or.inl ⟨by rfl, ?_⟩) hS1 ?_
          rotate_left 1
          · (intro w hSw; (try dsimp only at hSw); go_simp; try with_reducible rfl)
          try simp only [Act.put, List.setIfInBounds_toArray, List.set_cons_zero, List.set_cons_succ]
          refine doneL (by kernel_rfl) ?_
          clear hS1
          obtain ⟨zM, cM, fM⟩ := ownI_at (HB7.out.2.2.1 k _ _ _ hc6 hi6).2 m0
          go_wp2_with fail
          go_ret2
          exact FIN.out gm w7 _ _ HA7.out (HB7.out.mark0 hi6 hc6 x7).items N7.out (only_set _ _ _ _) b2 (by rw [List.length_set]; exact HL.out)
        · by_cases h1 : x6 = 1
          · subst h1
            go_wp2_with fail
            go_ret2
            exact FIN.out g w6 _ _ HA.out (HB.out.late2 hi6 _).items N6.out (only_set _ _ _ _) b3 (by rw [List.length_set]; exact HL.out)
          · by_cases h2 : x6 = 2
            · subst h2
              go_wp2_with fail
              go_ret2
              exact FIN.out gn w6 _ _ HA.out (HB.out.name0 hi6 hc6 (z := ⟨#[57, 90]⟩) (by decide)).items N6.out (only_set _ _ _ _) b1 (by rw [List.length_set]; exact HL.out)
            · clear q0 q1 q2
              go_wp2_with fail
              go_ret2
              exact FIN2.out w6 _ _ _ _ HA.out.items HB.out.items N6.out HL.out HL.out
      · have hne' : ¬ (0 : Int) < (its.length : Int) := by omega
        go_wp2_with fail
        go_ret2
        exact FIN2.out w4 _ _ _ _ HA4.out.items O4.out.items N4.out HL.out HL.out
end Go.Proofs.YtkekpolfdmmgeaaGreatDoor

/- Equal lists of names, of numbers and of items are told equal. -/
namespace Go.Proofs.YtkekpolfdmmgeaaGreatDoor
set_option linter.unusedVariables false
set_option linter.unusedSimpArgs false
open Go.RowKit Go.Lib

theorem items_one1 {w : World} {g : Nat} {A D : Option Addr} {c d : Nat} {it : ItemD} (hB : Box w g 64 #[.slice A it.names.length c, .slice D it.marks.length d, .bool it.late])
    (hi : ItemAt w (.agg #[.slice A it.names.length c, .slice D it.marks.length d, .bool it.late]) it) : ItemsAt w (.slice (some ⟨g, 0, none⟩) 1 1) [it] := by
  obtain ⟨nv, mv, e, h1, h2⟩ := hi
  injection e with e
  have e1 := congrArg Array.toList e
  simp only [List.cons.injEq] at e1
  obtain ⟨rfl, rfl, _⟩ := e1
  have ho : w.ownsRow g 64 3 (.slice (some ⟨g, 0, none⟩) 1 1) 1 [.slice A it.names.length c, .slice D it.marks.length d, .bool it.late] := own_of_box hB (Nat.le_refl _) (Nat.le_refl _) (by decide) rfl rfl
  refine ⟨[(.slice A it.names.length c, .slice D it.marks.length d)], rfl, Seq.of_own ho, fun k nv mv x q1 q2 => ?_⟩
  cases k with
  | zero =>
    simp only [List.getElem?_cons_zero, Option.some.injEq, Prod.mk.injEq] at q1 q2
    obtain ⟨rfl, rfl⟩ := q1
    subst q2
    exact ⟨h1, h2⟩
  | succ k => simp at q1
set_option maxHeartbeats 1000000 in
theorem pSameNames_any (v1 v2 : Value) (zs : List ByteArray) (w : World) (h1 : Strs w v1 zs) (h2 : Strs w v2 zs) :
    Calls Tryz.prog 36 #[v1, v2] w fun e w' => e = .returned (.bool true) ∧ Kept w w' := by
  obtain ⟨A, c, rfl, hnc, hcm, hl⟩ := h1.1.out
  obtain ⟨A2, c2, rfl, hnc2, hcm2, hl2⟩ := h2.1.out
  unfold maxLen at hcm hcm2
  have HL := Lib.hid hl
  have HL2 := Lib.hid hl2
  clear hl h1 hl2 h2
  have hne : ((zs.length : Int) != (zs.length : Int)) = false := by simp
  go_enter Tryz.func36, Tryz.ntmps36
  go_wp2_with fail
  go_loopw [13] (fun i wr => ∃ k : Nat, k ≤ zs.length ∧ i = .int .i64 k ∧ Kept w wr) (fun i _ => zs.length - (intOf i).toNat)
  case atStart => exact ⟨0, Nat.zero_le _, rfl, Kept.refl _⟩
  case round =>
    obtain ⟨k, hk, rfl, hkept⟩ := hrel
    by_cases hlt : k < zs.length
    · obtain ⟨b, o, z, rfl, hb, hz, hc⟩ := strs_at (HL.out.kept hkept) hlt
      obtain ⟨b2, o2, z2, rfl, hb2, hz2, hc2⟩ := strs_at (HL2.out.kept hkept) hlt
      rw [hz] at hz2
      injection hz2 with hz2
      subst hz2
      have hlt' : (k : Int) < (zs.length : Int) := by omega
      clear hz
      go_wp2_with fail
      go_quiet (fail)
      go_wp2_with fail
      go_roundw
      case rel => exact ⟨k + 1, by omega, by go_num, hkept.drewN _⟩
      case measure => simp [intOf]; omega
    · go_wp2_with fail
      go_ret
      exact ⟨rfl, hkept⟩
set_option maxHeartbeats 1000000 in
theorem sameIntsT_any (v1 v2 : Value) (zs : List Int) (w : World) (h1 : Ints w v1 zs) (h2 : Ints w v2 zs) :
    Calls Tryz.prog 35 #[v1, v2] w fun e w' => e = .returned (.bool true) ∧ Kept w w' := by
  obtain ⟨A, c, rfl, hnc, hcm, hl⟩ := h1.out
  obtain ⟨A2, c2, rfl, hnc2, hcm2, hl2⟩ := h2.out
  unfold maxLen at hcm hcm2
  have HL := Lib.hid hl
  have HL2 := Lib.hid hl2
  clear hl h1 hl2 h2
  have hne : ((zs.length : Int) != (zs.length : Int)) = false := by simp
  go_enter Tryz.func35, Tryz.ntmps35
  go_wp2_with fail
  go_loopw [13] (fun i wr => ∃ k : Nat, k ≤ zs.length ∧ i = .int .i64 k ∧ Kept w wr) (fun i _ => zs.length - (intOf i).toNat)
  case atStart => exact ⟨0, Nat.zero_le _, rfl, Kept.refl _⟩
  case round =>
    obtain ⟨k, hk, rfl, hkept⟩ := hrel
    by_cases hlt : k < zs.length
    · obtain ⟨b, o, z, rfl, hb, hz, hc⟩ := ints_at (HL.out.kept hkept) hlt
      obtain ⟨b2, o2, z2, rfl, hb2, hz2, hc2⟩ := ints_at (HL2.out.kept hkept) hlt
      rw [hz] at hz2
      injection hz2 with hz2
      subst hz2
      have hlt' : (k : Int) < (zs.length : Int) := by omega
      clear hz
      go_wp2_with fail
      go_quiet (fail)
      go_wp2_with fail
      go_roundw
      case rel => exact ⟨k + 1, by omega, by go_num, hkept.drewN _⟩
      case measure => simp [intOf]; omega
    · go_wp2_with fail
      go_ret
      exact ⟨rfl, hkept⟩
set_option maxRecDepth 100000 in
set_option maxHeartbeats 4000000 in
theorem pSameItems_any (v1 v2 : Value) (its : List ItemD) (w : World) (h1 : ItemsAt w v1 its) (h2 : ItemsAt w v2 its) :
    Calls Tryz.prog 34 #[v1, v2] w fun e w' => e = .returned (.bool true) ∧ Kept w w' := by
  obtain ⟨A, c, cs, rfl, hnc, hcm, hA⟩ := h1.out
  obtain ⟨A', c', cs', rfl, hnc', hcm', hA'⟩ := h2.out
  unfold maxLen at hcm hcm'
  have HA := Lib.hid hA
  have HA' := Lib.hid hA'
  clear hA h1 hA' h2
  have hne : ((its.length : Int) != (its.length : Int)) = false := by simp
  go_enter Tryz.func34, Tryz.ntmps34
  go_wp2_with fail
  go_loopw [13] (fun i wr => ∃ k : Nat, k ≤ its.length ∧ i = .int .i64 k ∧ Kept w wr) (fun i _ => its.length - (intOf i).toNat)
  case atStart => exact ⟨0, Nat.zero_le _, rfl, Kept.refl _⟩
  case round =>
    obtain ⟨k, hk, rfl, hkept⟩ := hrel
    by_cases hlt : k < its.length
    · obtain ⟨b, o, A1, c1, A2, c2, it, rfl, hb, h2, h3, hit, q0, q1, q2⟩ := items_at (HA.out.kept hkept) hlt
      obtain ⟨b', o', A1', c1', A2', c2', it', rfl, hb', h2', h3', hit', q0', q1', q2'⟩ := items_at (HA'.out.kept hkept) hlt
      rw [h2] at h2'
      injection h2' with h2'
      subst h2'
      have S1 := Lib.hid ((HA.out.kept hkept).2.2 k _ _ _ h3 h2)
      have S2 := Lib.hid ((HA'.out.kept hkept).2.2 k _ _ _ h3' h2)
      have hlt' : (k : Int) < (its.length : Int) := by omega
      have hlate : (it.late != it.late) = false := by simp
      clear h2 h3 h3' hit hit'
      have Kd1 : Kept wr wr.drew := (Kept.refl _).drew
      have y0 := After.cell (W := wr.drew) ((Kd1.cell (p := ⟨b, o + k * 3, none⟩) hb).trans q0) hb
      have y1 := After.cell (W := wr.drew) ((Kd1.cell (p := ⟨b, o + k * 3 + 1, none⟩) hb).trans q1) hb
      have y2 := After.cell (W := wr.drew) ((Kd1.cell (p := ⟨b, o + k * 3 + 2, none⟩) hb).trans q2) hb
      have z0 := After.cell (W := wr.drew) ((Kd1.cell (p := ⟨b', o' + k * 3, none⟩) hb').trans q0') hb'
      have z1 := After.cell (W := wr.drew) ((Kd1.cell (p := ⟨b', o' + k * 3 + 1, none⟩) hb').trans q1') hb'
      have z2 := After.cell (W := wr.drew) ((Kd1.cell (p := ⟨b', o' + k * 3 + 2, none⟩) hb').trans q2') hb'
      have N1 := Lib.hid (S1.out.1.kept Kd1)
      have N2 := Lib.hid (S2.out.1.kept Kd1)
      have M1 := Lib.hid (S1.out.2.kept Kd1)
      have M2 := Lib.hid (S2.out.2.kept Kd1)
      clear q0 q1 q2 q0' q1' q2' S1 S2
      go_upto_region 6 with (fail)
      refine region_after (by kernel_rfl) (by kernel_rfl) ?_
      repeat (go_big_quiet_step ((first | (go_at_call 36; exact after_of (pSameNames_any _ _ it.names _ (N1.out.kept (After.kept _)) (N2.out.kept (After.kept _)))) | (go_at_call 35; exact after_of (sameIntsT_any _ _ it.marks _ (M1.out.kept (After.kept _)) (M2.out.kept (After.kept _)))))))
      refine wpQuiet_nil ?_
      intro wq hw'
      obtain ⟨⟨_, kq⟩, hw''⟩ := hw'
      subst hw''
      try dsimp only
      clear y0 y1 y2 z0 z1 z2
      go_wp2_with fail
      go_roundw
      case rel => exact ⟨k + 1, by omega, by go_num, (hkept.trans Kd1).trans kq⟩
      case measure => simp [intOf]; omega
    · go_wp2_with fail
      go_ret
      exact ⟨rfl, hkept⟩
end Go.Proofs.YtkekpolfdmmgeaaGreatDoor

/- A helper of the laws: big. -/
namespace Go.Proofs.YtkekpolfdmmgeaaGreatDoor
set_option linter.unusedVariables false
set_option linter.unusedSimpArgs false
open Go.RowKit

def BoolPost (e : Ending) : Prop := ∃ b : Bool, e = .returned (.bool b)
theorem big_any (v0 v1 : Value) (w : World) (h0 : Byts w v0) (h1 : Byts w v1) :
    Calls Tryz.prog 21 #[v0, v1] w fun e w' => BoolPost e ∧ Kept w w' := by
  obtain ⟨A, n, c, rfl, hnc, hcm, _⟩ := h0
  obtain ⟨A1, n1, c1, rfl, hnc1, hcm1, _⟩ := h1
  unfold maxLen at hcm hcm1
  go_enter Tryz.func21, Tryz.ntmps21
  go_wp2_with fail
  all_goals
    go_ret
    exact ⟨⟨_, rfl⟩, Kept.refl _⟩
end Go.Proofs.YtkekpolfdmmgeaaGreatDoor

/- Items: NamesIn, the program's side. -/
namespace Go.Proofs.YtkekpolfdmmgeaaGreatDoor
set_option linter.unusedVariables false
set_option linter.unusedSimpArgs false
open Go.RowKit Go.Lib

set_option maxRecDepth 100000 in
set_option maxHeartbeats 16000000 in
theorem implNamesIn_any (v0 : Value) (its : List ItemD) (w : World) (h0 : ItemsAt w v0 its)  :
    Calls Tryz.prog 32 #[v0] w fun e w' => ∃ v', e = .returned (.tuple #[v', .bool (itemsB its)]) ∧ OwnS w' w.heap.size v' (niV its) ∧ Kept w w' := by
  have H0 := Lib.hid h0
  obtain ⟨A0, c0, cs0, rfl, hnc0, hcm0, hA0⟩ := h0.out; have HA0 := Lib.hid hA0; clear hA0 h0; unfold maxLen at hcm0
  go_enter Tryz.func32, Tryz.ntmps32
  have K0 := Kept.refl w
  go_wp2_with fail
  refine (areItems_any _ its _ (H0.out.kept K0)).mono ?_
  rintro e w1 ⟨rfl, k1⟩
  have sz1 := k1.size
  have K1 := K0.trans k1
  by_cases hq : itemsB its = true
  case neg =>
    simp only [Bool.not_eq_true] at hq
    rw [hq]
    have HO : Hid (itemsB its = false) := Lib.hid hq
    clear hq
    go_wp2_with fail
    go_ret2
    exact ⟨_, ret_vbN HO.out.symm, by rw [niV_no HO.out]; exact nilS _ _, K1⟩
  rw [hq]
  have HQ := Lib.hid hq
  have hl14 := (itemsB_true hq).1
  have HAL : Hid ((allN its).length ≤ 3 * its.length) := Lib.hid (allN_len (itemsB_true hq).2)
  clear hq
  go_wp2_with fail
  go_loopw [4, 13] (fun s4 s13 wr => ∃ k : Nat, k ≤ its.length ∧ s13 = .int .i64 k ∧ OwnS wr w1.heap.size s4 (allN (its.take k)) ∧ s4.ownBlock ≠ none ∧ Kept w1 wr) (fun _ i _ => its.length - (intOf i).toNat)
  case atStart => exact ⟨0, Nat.zero_le _, rfl, ⟨own_made _ _ 1 (Nat.le_refl _) (Box.new _ _ _ _ rfl), fun _ h => by cases h⟩, (fun h => by cases h), (Kept.refl _).alloc _⟩
  case round =>
    obtain ⟨k, hk, rfl, ho, hnn, hkept⟩ := hrel
    by_cases hlt : k < its.length
    · obtain ⟨b, o, A1, c1, A2, c2, it, rfl, hbb, h2, h3, hit, q0, q1, q2⟩ := items_at (HA0.out.kept (K1.trans hkept)) hlt
      have hib := (itemsB_true HQ.out).2 it (List.mem_of_getElem? h2)
      obtain ⟨-, hn1, hn3, -, -⟩ := itemB_true hib
      obtain ⟨nv, mv, ee, r1, r2⟩ := hit
      simp only [Value.agg.injEq] at ee
      simp at ee
      obtain ⟨rfl, rfl⟩ := ee
      have HS := Lib.hid r1
      have HAN := Lib.hid (allN_snoc h2)
      have HO := Lib.hid ho
      have HNN := Lib.hid hnn
      have hlen : (allN (its.take k)).length ≤ 3 * k := by
        have q := allN_len (its := its.take k) (fun x hx => (itemsB_true HQ.out).2 x (List.mem_of_mem_take hx))
        rw [List.length_take] at q
        omega
      clear h2 h3 r1 r2 ho hib hnn
      go_wp2_with (at_builtin; refine wpList_append_SL _ rfl _ _ rfl w1.heap.size _ (allN (its.take k)) rfl (HO.out.kept ((Kept.refl _).alloc _)) _ it.names rfl (HS.out.kept ((Kept.refl _).alloc _)) (by omega) (by have := hkept.size; simp; omega) ?_; intro v3 w3 o3 g3 n3)
      have k3 := (hkept.alloc (.cells #[.slice A1 it.names.length c1, .slice A2 it.marks.length c2, .bool it.late] 64)).grew (HO.out.kept ((Kept.refl _).alloc _)).1 g3 (Nat.le_refl _)
      have N3 : Hid (v3.ownBlock ≠ none) := Lib.hid (n3 HNN.out)
      rw [← HAN.out] at o3
      have O3 := Lib.hid o3
      clear o3 n3 g3
      go_wp2_with fail
      go_roundw
      case rel => exact ⟨k + 1, by omega, by go_num, O3.out, N3.out, k3⟩
      case measure => simp [intOf]; omega
    · obtain rfl : k = its.length := by omega
      rw [List.take_length] at ho
      rcases ownS_cases ho with ⟨rfl, _⟩ | ⟨g, cap, rfl, hcap1, hcap2⟩
      · exact absurd rfl hnn
      have hal := HAL.out
      have HO := Lib.hid ho
      have hg1 : w1.heap.size ≤ g := (own_fp ho.1 g (by simp [fp_some])).1
      clear ho hnn
      go_wp2_with fail
      refine (sortS_any g cap (allN its) wr _ HO.out (by omega)).mono ?_
      rintro e w2 ⟨rfl, o2, on2⟩
      have k2 := on2.above' hkept hg1
      have O2 := Lib.hid o2
      clear o2 on2
      go_wp2_with fail
      refine (compactS_any g cap (allN its) w2 _ O2.out (by omega) hcap1 HO.out.2).mono ?_
      rintro e w3 ⟨v3, rfl, o3, on3⟩
      have k3 := on3.above' k2 hg1
      have O3 := Lib.hid o3
      clear o3 on3
      go_wp2_with fail
      go_ret2
      exact ⟨_, ret_vbN HQ.out.symm, by rw [niV_yes HQ.out]; exact OwnS.base O3.out K1.size, K1.trans k3⟩
end Go.Proofs.YtkekpolfdmmgeaaGreatDoor
