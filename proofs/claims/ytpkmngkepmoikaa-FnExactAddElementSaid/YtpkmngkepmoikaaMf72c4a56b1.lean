/- Contracts of functions that the proof leans on. No condition. -/
import Derived.Test.YtpkmngkepmoikaaMb5e2d10cde
import Derived.Deep.DeepCutAuto
import Derived.ProofKit
import Derived.OpenShut
import Derived.ChangeOld
import Derived.SliceStrings
import Derived.Lib.SmallJoins
import Derived.Deep.Slices
import Derived.Deep.Fields
/- Codes: AddElement, the law. -/
namespace Go.Proofs.Ytpkmngkepmoikaa
set_option linter.unusedVariables false
set_option linter.unusedSimpArgs false
open Go.RowKit

set_option maxRecDepth 100000 in
set_option maxHeartbeats 64000000 in
theorem lawAddElement_any {w : World} {v0 : Value} {v1 : Value} (z0 : CodeD) (z1 : ElemD) (h0 : CodeAt w v0 z0) (h1 : ElemAt w v1 z1) :
    Calls Try.prog 3 #[v0, v1] w fun e w' => e = .returned (.bool true) ∧ Kept w w' := by
  have H0 := Lib.hid h0
  obtain ⟨n0, m0, rfl, p0, q0⟩ := h0
  obtain ⟨A0, c0, rfl, _⟩ := p0.1.out
  obtain ⟨D0, d0, rfl, _⟩ := q0.out
  clear p0 q0
  have H1 := Lib.hid h1
  obtain ⟨rfl, e1⟩ := h1
  go_enter Try.func3, Try.ntmps3
  have K0 := Kept.refl w
  go_wp2_with fail
  obtain ⟨wb1, hwb1⟩ : ∃ w' : World, w' = w.alloc (.cells #[.slice A0 z0.elems.length c0, .slice D0 z0.limits.length d0, .int .i64 z0.repeats, .int .i64 z0.bonus, .int .i64 z0.keeps, .int .i64 z0.fall] 25) := ⟨_, rfl⟩
  rw [← hwb1]
  have KB0 : Kept w wb1 := hwb1 ▸ (Kept.refl w).alloc _
  have B0 : Box wb1 (w.heap.size) 25 #[.slice A0 z0.elems.length c0, .slice D0 z0.limits.length d0, .int .i64 z0.repeats, .int .i64 z0.bonus, .int .i64 z0.keeps, .int .i64 z0.fall] := hwb1 ▸ Box.new w (w.heap.size) 25 #[.slice A0 z0.elems.length c0, .slice D0 z0.limits.length d0, .int .i64 z0.repeats, .int .i64 z0.bonus, .int .i64 z0.keeps, .int .i64 z0.fall] rfl
  have szwb1 : wb1.heap.size = w.heap.size + 1 := by rw [hwb1]; simp
  clear hwb1
  have Kwb1 := K0.trans KB0
  obtain ⟨wb2, hwb2⟩ : ∃ w' : World, w' = wb1.alloc (.cells #[.string z1.name, .int .i64 z1.family, .int .i64 z1.level, .int .i64 z1.base] 27) := ⟨_, rfl⟩
  rw [← hwb2]
  have KB1 : Kept wb1 wb2 := hwb2 ▸ (Kept.refl wb1).alloc _
  have B1 : Box wb2 (w.heap.size + 1) 27 #[.string z1.name, .int .i64 z1.family, .int .i64 z1.level, .int .i64 z1.base] := hwb2 ▸ Box.new wb1 (w.heap.size + 1) 27 #[.string z1.name, .int .i64 z1.family, .int .i64 z1.level, .int .i64 z1.base] (by omega)
  have szwb2 : wb2.heap.size = wb1.heap.size + 1 := by rw [hwb2]; simp
  clear hwb2
  replace B0 := B0.kept KB1
  have Kwb2 := Kwb1.trans KB1
  refine (szCode_any _ z0 _ _ (H0.out.kept Kwb2) (by omega) (by omega)).mono ?_
  rintro e w1 ⟨rfl, k1⟩
  replace B0 := B0.kept k1
  replace B1 := B1.kept k1
  have sz1 := k1.size
  have K1 := Kwb2.trans k1
  by_cases hbig0 : ((z0.size : Nat) : Int) ≤ 1048576
  case neg =>
    have e1 : lessOr 1048576 (z0.size) = -1 := by unfold lessOr; exact if_neg (by omega)
    rw [e1]
    go_wp2_with fail
    go_ret
    exact ⟨rfl, K1⟩
  have e1 : lessOr 1048576 (z0.size) = 1048576 - (z0.size : Int) := by unfold lessOr; exact if_pos (by omega)
  rw [e1]
  clear e1
  have hparts0 := code_parts z0
  obtain ⟨x0, y0⟩ := B0.six
  obtain ⟨x1, y1⟩ := B1.four
  go_wp2_with fail
  clear x0 y0 x1 y1
  refine (szElement_any _ z1 _ _ (H1.out.kept K1) (by omega) (by omega)).mono ?_
  rintro e w2 ⟨rfl, k2⟩
  replace B0 := B0.kept k2
  replace B1 := B1.kept k2
  have sz2 := k2.size
  have K2 := K1.trans k2
  by_cases hbig1 : ((z1.size : Nat) : Int) ≤ (1048576 - (z0.size : Int))
  case neg =>
    have e1 : lessOr (1048576 - (z0.size : Int)) (z1.size) = -1 := by unfold lessOr; exact if_neg (by omega)
    rw [e1]
    go_wp2_with fail
    go_ret
    exact ⟨rfl, K2⟩
  have e1 : lessOr (1048576 - (z0.size : Int)) (z1.size) = (1048576 - (z0.size : Int)) - (z1.size : Int) := by unfold lessOr; exact if_pos (by omega)
  rw [e1]
  clear e1
  have hX := adV_len z0 z1
  obtain ⟨x0, y0⟩ := B0.six
  obtain ⟨x1, y1⟩ := B1.four
  go_upto_region 8 with (fail)
  clear x0 y0 x1 y1
  have HSK : Hid (∀ w' : World, Kept w2 w' → (w'.cell? ⟨w.heap.size, 0, none⟩ = some (.slice A0 z0.elems.length c0) ∧ w'.cell? ⟨w.heap.size, 1, none⟩ = some (.slice D0 z0.limits.length d0) ∧ w'.cell? ⟨w.heap.size, 2, none⟩ = some (.int .i64 z0.repeats) ∧ w'.cell? ⟨w.heap.size, 3, none⟩ = some (.int .i64 z0.bonus) ∧ w'.cell? ⟨w.heap.size, 4, none⟩ = some (.int .i64 z0.keeps) ∧ w'.cell? ⟨w.heap.size, 5, none⟩ = some (.int .i64 z0.fall)) ∧ (w'.cell? ⟨w.heap.size + 1, 0, none⟩ = some (.string z1.name) ∧ w'.cell? ⟨w.heap.size + 1, 1, none⟩ = some (.int .i64 z1.family) ∧ w'.cell? ⟨w.heap.size + 1, 2, none⟩ = some (.int .i64 z1.level) ∧ w'.cell? ⟨w.heap.size + 1, 3, none⟩ = some (.int .i64 z1.base))) := Lib.hid (fun w' hk => ⟨(B0.kept hk).six.1, (B1.kept hk).four.1⟩)
  have HSK6 : Hid (∀ V : World, Kept w2 V → ∀ gg, w2.heap.size ≤ gg → ∀ u0 u1 u2 u3 u4 u5, (((((((V.setCell ⟨gg, 0, none⟩ u0).setCell ⟨gg, 1, none⟩ u1).setCell ⟨gg, 2, none⟩ u2).setCell ⟨gg, 3, none⟩ u3).setCell ⟨gg, 4, none⟩ u4).setCell ⟨gg, 5, none⟩ u5).cell? ⟨w.heap.size, 0, none⟩ = some (.slice A0 z0.elems.length c0) ∧ ((((((V.setCell ⟨gg, 0, none⟩ u0).setCell ⟨gg, 1, none⟩ u1).setCell ⟨gg, 2, none⟩ u2).setCell ⟨gg, 3, none⟩ u3).setCell ⟨gg, 4, none⟩ u4).setCell ⟨gg, 5, none⟩ u5).cell? ⟨w.heap.size, 1, none⟩ = some (.slice D0 z0.limits.length d0) ∧ ((((((V.setCell ⟨gg, 0, none⟩ u0).setCell ⟨gg, 1, none⟩ u1).setCell ⟨gg, 2, none⟩ u2).setCell ⟨gg, 3, none⟩ u3).setCell ⟨gg, 4, none⟩ u4).setCell ⟨gg, 5, none⟩ u5).cell? ⟨w.heap.size, 2, none⟩ = some (.int .i64 z0.repeats) ∧ ((((((V.setCell ⟨gg, 0, none⟩ u0).setCell ⟨gg, 1, none⟩ u1).setCell ⟨gg, 2, none⟩ u2).setCell ⟨gg, 3, none⟩ u3).setCell ⟨gg, 4, none⟩ u4).setCell ⟨gg, 5, none⟩ u5).cell? ⟨w.heap.size, 3, none⟩ = some (.int .i64 z0.bonus) ∧ ((((((V.setCell ⟨gg, 0, none⟩ u0).setCell ⟨gg, 1, none⟩ u1).setCell ⟨gg, 2, none⟩ u2).setCell ⟨gg, 3, none⟩ u3).setCell ⟨gg, 4, none⟩ u4).setCell ⟨gg, 5, none⟩ u5).cell? ⟨w.heap.size, 4, none⟩ = some (.int .i64 z0.keeps) ∧ ((((((V.setCell ⟨gg, 0, none⟩ u0).setCell ⟨gg, 1, none⟩ u1).setCell ⟨gg, 2, none⟩ u2).setCell ⟨gg, 3, none⟩ u3).setCell ⟨gg, 4, none⟩ u4).setCell ⟨gg, 5, none⟩ u5).cell? ⟨w.heap.size, 5, none⟩ = some (.int .i64 z0.fall)) ∧ (((((((V.setCell ⟨gg, 0, none⟩ u0).setCell ⟨gg, 1, none⟩ u1).setCell ⟨gg, 2, none⟩ u2).setCell ⟨gg, 3, none⟩ u3).setCell ⟨gg, 4, none⟩ u4).setCell ⟨gg, 5, none⟩ u5).cell? ⟨w.heap.size + 1, 0, none⟩ = some (.string z1.name) ∧ ((((((V.setCell ⟨gg, 0, none⟩ u0).setCell ⟨gg, 1, none⟩ u1).setCell ⟨gg, 2, none⟩ u2).setCell ⟨gg, 3, none⟩ u3).setCell ⟨gg, 4, none⟩ u4).setCell ⟨gg, 5, none⟩ u5).cell? ⟨w.heap.size + 1, 1, none⟩ = some (.int .i64 z1.family) ∧ ((((((V.setCell ⟨gg, 0, none⟩ u0).setCell ⟨gg, 1, none⟩ u1).setCell ⟨gg, 2, none⟩ u2).setCell ⟨gg, 3, none⟩ u3).setCell ⟨gg, 4, none⟩ u4).setCell ⟨gg, 5, none⟩ u5).cell? ⟨w.heap.size + 1, 2, none⟩ = some (.int .i64 z1.level) ∧ ((((((V.setCell ⟨gg, 0, none⟩ u0).setCell ⟨gg, 1, none⟩ u1).setCell ⟨gg, 2, none⟩ u2).setCell ⟨gg, 3, none⟩ u3).setCell ⟨gg, 4, none⟩ u4).setCell ⟨gg, 5, none⟩ u5).cell? ⟨w.heap.size + 1, 3, none⟩ = some (.int .i64 z1.base))) := Lib.hid (fun V hk gg hgg u0 u1 u2 u3 u4 u5 => ⟨(Box.far6 (B0.kept hk) (by have := B0.lt; omega) u0 u1 u2 u3 u4 u5).six.1, (Box.far6 (B1.kept hk) (by have := B1.lt; omega) u0 u1 u2 u3 u4 u5).four.1⟩)
  have bx0 : Box (w2.alloc (.cells #[.slice none 0 0, .slice none 0 0, .int .i64 0, .int .i64 0, .int .i64 0, .int .i64 0] 32)).drew w2.heap.size 32 #[.slice none 0 0, .slice none 0 0, .int .i64 0, .int .i64 0, .int .i64 0, .int .i64 0] := Box.new w2 _ _ _ rfl
  go_cut [6, 7] (fun s1 s2 wx => ∃ (gg : Nat) (Ar : Option Addr) (cr : Nat) (Dr : Option Addr) (dr : Nat), s1 = .pointer (some ⟨gg, 0, none⟩) ∧ s2 = .bool (adB z0 z1) ∧ w2.heap.size ≤ gg ∧ Box wx gg 32 #[.slice Ar (adV z0 z1).elems.length cr, .slice Dr (adV z0 z1).limits.length dr, .int .i64 (adV z0 z1).repeats, .int .i64 (adV z0 z1).bonus, .int .i64 (adV z0 z1).keeps, .int .i64 (adV z0 z1).fall] ∧ OwnK wx w2.heap.size (.agg #[.slice Ar (adV z0 z1).elems.length cr, .slice Dr (adV z0 z1).limits.length dr, .int .i64 (adV z0 z1).repeats, .int .i64 (adV z0 z1).bonus, .int .i64 (adV z0 z1).keeps, .int .i64 (adV z0 z1).fall]) (adV z0 z1) ∧ (∀ b ∈ fpA (.agg #[.slice Ar (adV z0 z1).elems.length cr, .slice Dr (adV z0 z1).limits.length dr, .int .i64 (adV z0 z1).repeats, .int .i64 (adV z0 z1).bonus, .int .i64 (adV z0 z1).keeps, .int .i64 (adV z0 z1).fall]), w2.heap.size ≤ b ∧ b < wx.heap.size ∧ b ≠ gg) ∧ Kept w2 wx)
  case first =>
    go_region_held3 (fun w' => (w'.cell? ⟨w.heap.size, 0, none⟩ = some (.slice A0 z0.elems.length c0) ∧ w'.cell? ⟨w.heap.size, 1, none⟩ = some (.slice D0 z0.limits.length d0) ∧ w'.cell? ⟨w.heap.size, 2, none⟩ = some (.int .i64 z0.repeats) ∧ w'.cell? ⟨w.heap.size, 3, none⟩ = some (.int .i64 z0.bonus) ∧ w'.cell? ⟨w.heap.size, 4, none⟩ = some (.int .i64 z0.keeps) ∧ w'.cell? ⟨w.heap.size, 5, none⟩ = some (.int .i64 z0.fall)) ∧ (w'.cell? ⟨w.heap.size + 1, 0, none⟩ = some (.string z1.name) ∧ w'.cell? ⟨w.heap.size + 1, 1, none⟩ = some (.int .i64 z1.family) ∧ w'.cell? ⟨w.heap.size + 1, 2, none⟩ = some (.int .i64 z1.level) ∧ w'.cell? ⟨w.heap.size + 1, 3, none⟩ = some (.int .i64 z1.base))) (first | (with_reducible exact HSK6.out _ cq2 _ (by omega) _ _ _ _ _ _) | (with_reducible exact HSK.out _ (Kept.refl w2).drew) | (with_reducible exact HSK.out _ ((Kept.refl w2).alloc _).drew) | (with_reducible exact HSK.out _ (by assumption)) | (with_reducible exact HSK.out _ (Kept.alloc (by assumption) _))) (first | (go_at_call 11; (with_reducible refine (toCode_any _ z0 _ (H0.out.kept (K2.trans (Kept.refl w2).drew)) (by omega) (by omega)).mono ?_); rintro e wq0 ⟨uq0, rfl, oq0, kq0⟩; have cq0 : Kept w2 wq0 := Kept.trans (Kept.refl w2).drew kq0; have zq0 := cq0.size; have yq0 := kq0.size; have rq0 := Lib.hid oq0.code; clear oq0) | (go_at_call 11; (with_reducible refine (toCode_any _ z0 _ (H0.out.kept (K2.trans ((Kept.refl w2).alloc _).drew)) (by omega) (by omega)).mono ?_); rintro e wq0 ⟨uq0, rfl, oq0, kq0⟩; have cq0 : Kept w2 wq0 := Kept.trans ((Kept.refl w2).alloc _).drew kq0; have zq0 := cq0.size; have yq0 := kq0.size; have za0 : (w2.alloc (.cells #[.slice none 0 0, .slice none 0 0, .int .i64 0, .int .i64 0, .int .i64 0, .int .i64 0] 32)).drew.heap.size = w2.heap.size + 1 := (by simp [World.drew]); have bx1 := bx0.kept kq0; have rq0 := Lib.hid oq0.code; clear oq0) | (go_at_call 12; (with_reducible refine (toElement_any _ z1 _ (H1.out.kept (K2.trans cq0))).mono ?_); rintro e wq1 ⟨rfl, kq1⟩; have cq1 : Kept w2 wq1 := Kept.trans cq0 kq1; have zq1 := cq1.size; have yq1 := kq1.size; replace rq0 := Lib.hid (rq0.out.kept (Kept.trans (Kept.refl _) kq1)); (try (have bx2 := bx1.kept kq1))) | (go_at_call 12; (with_reducible refine (toElement_any _ z1 _ (H1.out.kept (K2.trans (cq0.alloc _)))).mono ?_); rintro e wq1 ⟨rfl, kq1⟩; have cq1 : Kept w2 wq1 := Kept.trans (cq0.alloc _) kq1; have zq1 := cq1.size; have yq1 := kq1.size; have za1 : (wq0.alloc (.cells #[.slice none 0 0, .slice none 0 0, .int .i64 0, .int .i64 0, .int .i64 0, .int .i64 0] 32)).heap.size = wq0.heap.size + 1 := (by simp); replace rq0 := Lib.hid (rq0.out.kept (Kept.trans ((Kept.refl _).alloc _) kq1)); have bx2 := (Box.new wq0 wq0.heap.size 32 #[.slice none 0 0, .slice none 0 0, .int .i64 0, .int .i64 0, .int .i64 0, .int .i64 0] rfl).kept kq1) | (go_at_call 10; (with_reducible refine (specAddElement_any _ _ z0 z1 _ (rq0.out.kept (Kept.refl _)) (ElemAt.mk z1 _ e1)).mono ?_); rintro e wq2 ⟨uq2, rfl, oq2, kq2⟩; have cq2 : Kept w2 wq2 := Kept.trans cq1 kq2; have zq2 := cq2.size; have yq2 := kq2.size; replace rq0 := Lib.hid (rq0.out.kept (Kept.trans (Kept.refl _) kq2)); (try (have bx3 := bx2.kept kq2)); have fq := oq2.fps; have sq := kq2.size; have tq := cq2.size; obtain ⟨nr, mr, rfl, pr, qr, ndr⟩ := oq2; obtain ⟨Ar, cr, rfl, _⟩ := own_form pr.1; obtain ⟨Dr, dr, rfl, _⟩ := own_form qr; have OR := Lib.hid (⟨_, _, rfl, pr, qr, ndr⟩ : OwnK wq2 _ (.agg #[.slice Ar (adV z0 z1).elems.length cr, .slice Dr (adV z0 z1).limits.length dr, .int .i64 (adV z0 z1).repeats, .int .i64 (adV z0 z1).bonus, .int .i64 (adV z0 z1).keeps, .int .i64 (adV z0 z1).fall]) (adV z0 z1)); clear pr qr ndr; have FR := Lib.hid fq; clear fq; (try (obtain ⟨cx, fx⟩ := bx3.six))) | (go_at_call 10; (with_reducible refine (specAddElement_any _ _ z0 z1 _ (rq0.out.kept ((Kept.refl _).alloc _)) (ElemAt.mk z1 _ e1)).mono ?_); rintro e wq2 ⟨uq2, rfl, oq2, kq2⟩; have cq2 : Kept w2 wq2 := Kept.trans (cq1.alloc _) kq2; have zq2 := cq2.size; have yq2 := kq2.size; have za2 : (wq1.alloc (.cells #[.slice none 0 0, .slice none 0 0, .int .i64 0, .int .i64 0, .int .i64 0, .int .i64 0] 32)).heap.size = wq1.heap.size + 1 := (by simp); replace rq0 := Lib.hid (rq0.out.kept (Kept.trans ((Kept.refl _).alloc _) kq2)); have bx3 := (Box.new wq1 wq1.heap.size 32 #[.slice none 0 0, .slice none 0 0, .int .i64 0, .int .i64 0, .int .i64 0, .int .i64 0] rfl).kept kq2; have fq := oq2.fps; have sq := kq2.size; have tq := cq2.size; obtain ⟨nr, mr, rfl, pr, qr, ndr⟩ := oq2; obtain ⟨Ar, cr, rfl, _⟩ := own_form pr.1; obtain ⟨Dr, dr, rfl, _⟩ := own_form qr; have OR := Lib.hid (⟨_, _, rfl, pr, qr, ndr⟩ : OwnK wq2 _ (.agg #[.slice Ar (adV z0 z1).elems.length cr, .slice Dr (adV z0 z1).limits.length dr, .int .i64 (adV z0 z1).repeats, .int .i64 (adV z0 z1).bonus, .int .i64 (adV z0 z1).keeps, .int .i64 (adV z0 z1).fall]) (adV z0 z1)); clear pr qr ndr; have FR := Lib.hid fq; clear fq; (try (obtain ⟨cx, fx⟩ := bx3.six))))
    all_goals
      go_wp2_with fail
      go_meet
      first
        | (obtain ⟨w9, hw9, B9, Q9⟩ := set6 bx3 (.slice Ar (adV z0 z1).elems.length cr) (.slice Dr (adV z0 z1).limits.length dr) (.int .i64 (adV z0 z1).repeats) (.int .i64 (adV z0 z1).bonus) (.int .i64 (adV z0 z1).keeps) (.int .i64 (adV z0 z1).fall)
           rw [← hw9]
           exact ⟨_, Ar, cr, Dr, dr, rfl, rfl, by omega, B9, OwnK.far OR.out Q9 (fun b hb => by simp at hb; omega) (by omega), fun b hb => by have := FR.out b hb; have := Q9.size; omega, Q9.above cq2 (fun b hb => by simp at hb; omega)⟩)
        | exact ⟨_, Ar, cr, Dr, dr, rfl, rfl, by omega, Box.new wq2 _ _ _ rfl, OwnK.far OR.out (((Kept.refl _).alloc _).only []) (fun b hb => by cases hb) (by omega), fun b hb => by have := FR.out b hb; simp; omega, cq2.alloc _⟩
  case rest =>
    obtain ⟨gg3, A3, c3, D3, d3, rfl, rfl, hg3, B3, o3, F3, k3⟩ := hcut
    obtain ⟨w3, ew3⟩ : ∃ x : World, x = wc := ⟨_, rfl⟩
    subst ew3
    clear HSK HSK6 bx0
    replace B0 := B0.kept k3
    replace B1 := B1.kept k3
    have sz3 := k3.size
    have K3 := K2.trans k3
    have l3 := B3.lt
    have RS := Lib.hid o3.code
    clear o3 F3
    have KS := Kept.refl w3
    obtain ⟨x0, y0⟩ := B0.six
    obtain ⟨x1, y1⟩ := B1.four
    obtain ⟨x3, y3⟩ := B3.six
    go_wp2_with fail
    clear x0 y0 x1 y1 x3 y3
    refine (toCode_any _ z0 _ (H0.out.kept K3) (by omega) (by omega)).mono ?_
    rintro e w4 ⟨u4, rfl, o4, k4⟩
    replace B0 := B0.kept k4
    replace B1 := B1.kept k4
    replace B3 := B3.kept k4
    replace KS := KS.trans k4
    have sz4 := k4.size
    have K4 := K3.trans k4
    obtain ⟨n4, m4, rfl, p4, q4, nd4⟩ := o4
    obtain ⟨A4, c4, rfl, _⟩ := own_form p4.1
    obtain ⟨D4, d4, rfl, _⟩ := own_form q4
    have o4 : OwnK w4 _ (.agg #[.slice A4 z0.elems.length c4, .slice D4 z0.limits.length d4, .int .i64 z0.repeats, .int .i64 z0.bonus, .int .i64 z0.keeps, .int .i64 z0.fall]) z0 := ⟨_, _, rfl, p4, q4, nd4⟩
    clear p4 q4 nd4
    have F4 := Lib.hid o4.fps
    have O4 := Lib.hid o4
    clear o4
    obtain ⟨x0, y0⟩ := B0.six
    have l0 := B0.lt
    obtain ⟨x1, y1⟩ := B1.four
    have l1 := B1.lt
    obtain ⟨x3, y3⟩ := B3.six
    have l3 := B3.lt
    go_upto_region 10 with (fail)
    clear x0 y0 l0 x1 y1 l1 x3 y3 l3
    obtain ⟨wb3, hwb3⟩ : ∃ w' : World, w' = w4.alloc (.cells #[.slice A4 z0.elems.length c4, .slice D4 z0.limits.length d4, .int .i64 z0.repeats, .int .i64 z0.bonus, .int .i64 z0.keeps, .int .i64 z0.fall] 32) := ⟨_, rfl⟩
    rw [← hwb3]
    have KB4 : Kept w4 wb3 := hwb3 ▸ (Kept.refl w4).alloc _
    have B4 : Box wb3 (w4.heap.size) 32 #[.slice A4 z0.elems.length c4, .slice D4 z0.limits.length d4, .int .i64 z0.repeats, .int .i64 z0.bonus, .int .i64 z0.keeps, .int .i64 z0.fall] := hwb3 ▸ Box.new w4 (w4.heap.size) 32 #[.slice A4 z0.elems.length c4, .slice D4 z0.limits.length d4, .int .i64 z0.repeats, .int .i64 z0.bonus, .int .i64 z0.keeps, .int .i64 z0.fall] rfl
    have szwb3 : wb3.heap.size = w4.heap.size + 1 := by rw [hwb3]; simp
    clear hwb3
    replace szwb3 := Nat.le_of_eq szwb3.symm
    replace B0 := B0.kept KB4
    replace B1 := B1.kept KB4
    replace B3 := B3.kept KB4
    replace O4 := Lib.hid (O4.out.kept KB4)
    replace KS := KS.trans KB4
    have Kwb3 := K4.trans KB4
    have HSK : Hid (∀ w' : World, Kept wb3 w' → (w'.cell? ⟨w4.heap.size, 0, none⟩ = some (.slice A4 z0.elems.length c4) ∧ w'.cell? ⟨w4.heap.size, 1, none⟩ = some (.slice D4 z0.limits.length d4) ∧ w'.cell? ⟨w4.heap.size, 2, none⟩ = some (.int .i64 z0.repeats) ∧ w'.cell? ⟨w4.heap.size, 3, none⟩ = some (.int .i64 z0.bonus) ∧ w'.cell? ⟨w4.heap.size, 4, none⟩ = some (.int .i64 z0.keeps) ∧ w'.cell? ⟨w4.heap.size, 5, none⟩ = some (.int .i64 z0.fall)) ∧ (w'.cell? ⟨w.heap.size + 1, 0, none⟩ = some (.string z1.name) ∧ w'.cell? ⟨w.heap.size + 1, 1, none⟩ = some (.int .i64 z1.family) ∧ w'.cell? ⟨w.heap.size + 1, 2, none⟩ = some (.int .i64 z1.level) ∧ w'.cell? ⟨w.heap.size + 1, 3, none⟩ = some (.int .i64 z1.base))) := Lib.hid (fun w' hk => ⟨(B4.kept hk).six.1, (B1.kept hk).four.1⟩)
    have HSK6 : Hid (∀ V : World, Kept wb3 V → ∀ gg, wb3.heap.size ≤ gg → ∀ u0 u1 u2 u3 u4 u5, (((((((V.setCell ⟨gg, 0, none⟩ u0).setCell ⟨gg, 1, none⟩ u1).setCell ⟨gg, 2, none⟩ u2).setCell ⟨gg, 3, none⟩ u3).setCell ⟨gg, 4, none⟩ u4).setCell ⟨gg, 5, none⟩ u5).cell? ⟨w4.heap.size, 0, none⟩ = some (.slice A4 z0.elems.length c4) ∧ ((((((V.setCell ⟨gg, 0, none⟩ u0).setCell ⟨gg, 1, none⟩ u1).setCell ⟨gg, 2, none⟩ u2).setCell ⟨gg, 3, none⟩ u3).setCell ⟨gg, 4, none⟩ u4).setCell ⟨gg, 5, none⟩ u5).cell? ⟨w4.heap.size, 1, none⟩ = some (.slice D4 z0.limits.length d4) ∧ ((((((V.setCell ⟨gg, 0, none⟩ u0).setCell ⟨gg, 1, none⟩ u1).setCell ⟨gg, 2, none⟩ u2).setCell ⟨gg, 3, none⟩ u3).setCell ⟨gg, 4, none⟩ u4).setCell ⟨gg, 5, none⟩ u5).cell? ⟨w4.heap.size, 2, none⟩ = some (.int .i64 z0.repeats) ∧ ((((((V.setCell ⟨gg, 0, none⟩ u0).setCell ⟨gg, 1, none⟩ u1).setCell ⟨gg, 2, none⟩ u2).setCell ⟨gg, 3, none⟩ u3).setCell ⟨gg, 4, none⟩ u4).setCell ⟨gg, 5, none⟩ u5).cell? ⟨w4.heap.size, 3, none⟩ = some (.int .i64 z0.bonus) ∧ ((((((V.setCell ⟨gg, 0, none⟩ u0).setCell ⟨gg, 1, none⟩ u1).setCell ⟨gg, 2, none⟩ u2).setCell ⟨gg, 3, none⟩ u3).setCell ⟨gg, 4, none⟩ u4).setCell ⟨gg, 5, none⟩ u5).cell? ⟨w4.heap.size, 4, none⟩ = some (.int .i64 z0.keeps) ∧ ((((((V.setCell ⟨gg, 0, none⟩ u0).setCell ⟨gg, 1, none⟩ u1).setCell ⟨gg, 2, none⟩ u2).setCell ⟨gg, 3, none⟩ u3).setCell ⟨gg, 4, none⟩ u4).setCell ⟨gg, 5, none⟩ u5).cell? ⟨w4.heap.size, 5, none⟩ = some (.int .i64 z0.fall)) ∧ (((((((V.setCell ⟨gg, 0, none⟩ u0).setCell ⟨gg, 1, none⟩ u1).setCell ⟨gg, 2, none⟩ u2).setCell ⟨gg, 3, none⟩ u3).setCell ⟨gg, 4, none⟩ u4).setCell ⟨gg, 5, none⟩ u5).cell? ⟨w.heap.size + 1, 0, none⟩ = some (.string z1.name) ∧ ((((((V.setCell ⟨gg, 0, none⟩ u0).setCell ⟨gg, 1, none⟩ u1).setCell ⟨gg, 2, none⟩ u2).setCell ⟨gg, 3, none⟩ u3).setCell ⟨gg, 4, none⟩ u4).setCell ⟨gg, 5, none⟩ u5).cell? ⟨w.heap.size + 1, 1, none⟩ = some (.int .i64 z1.family) ∧ ((((((V.setCell ⟨gg, 0, none⟩ u0).setCell ⟨gg, 1, none⟩ u1).setCell ⟨gg, 2, none⟩ u2).setCell ⟨gg, 3, none⟩ u3).setCell ⟨gg, 4, none⟩ u4).setCell ⟨gg, 5, none⟩ u5).cell? ⟨w.heap.size + 1, 2, none⟩ = some (.int .i64 z1.level) ∧ ((((((V.setCell ⟨gg, 0, none⟩ u0).setCell ⟨gg, 1, none⟩ u1).setCell ⟨gg, 2, none⟩ u2).setCell ⟨gg, 3, none⟩ u3).setCell ⟨gg, 4, none⟩ u4).setCell ⟨gg, 5, none⟩ u5).cell? ⟨w.heap.size + 1, 3, none⟩ = some (.int .i64 z1.base))) := Lib.hid (fun V hk gg hgg u0 u1 u2 u3 u4 u5 => ⟨(Box.far6 (B4.kept hk) (by have := B4.lt; omega) u0 u1 u2 u3 u4 u5).six.1, (Box.far6 (B1.kept hk) (by have := B1.lt; omega) u0 u1 u2 u3 u4 u5).four.1⟩)
    have bx0 : Box (wb3.alloc (.cells #[.slice none 0 0, .slice none 0 0, .int .i64 0, .int .i64 0, .int .i64 0, .int .i64 0] 32)).drew wb3.heap.size 32 #[.slice none 0 0, .slice none 0 0, .int .i64 0, .int .i64 0, .int .i64 0, .int .i64 0] := Box.new wb3 _ _ _ rfl
    go_cut [9, 10] (fun s1 s2 wx => ∃ (gg : Nat) (Ar : Option Addr) (cr : Nat) (Dr : Option Addr) (dr : Nat), s1 = .pointer (some ⟨gg, 0, none⟩) ∧ s2 = .bool (adB z0 z1) ∧ wb3.heap.size ≤ gg ∧ Box wx gg 32 #[.slice Ar (adV z0 z1).elems.length cr, .slice Dr (adV z0 z1).limits.length dr, .int .i64 (adV z0 z1).repeats, .int .i64 (adV z0 z1).bonus, .int .i64 (adV z0 z1).keeps, .int .i64 (adV z0 z1).fall] ∧ OwnK wx wb3.heap.size (.agg #[.slice Ar (adV z0 z1).elems.length cr, .slice Dr (adV z0 z1).limits.length dr, .int .i64 (adV z0 z1).repeats, .int .i64 (adV z0 z1).bonus, .int .i64 (adV z0 z1).keeps, .int .i64 (adV z0 z1).fall]) (adV z0 z1) ∧ (∀ b ∈ fpA (.agg #[.slice Ar (adV z0 z1).elems.length cr, .slice Dr (adV z0 z1).limits.length dr, .int .i64 (adV z0 z1).repeats, .int .i64 (adV z0 z1).bonus, .int .i64 (adV z0 z1).keeps, .int .i64 (adV z0 z1).fall]), wb3.heap.size ≤ b ∧ b < wx.heap.size ∧ b ≠ gg) ∧ Kept wb3 wx)
    case first =>
      go_region_held3 (fun w' => (w'.cell? ⟨w4.heap.size, 0, none⟩ = some (.slice A4 z0.elems.length c4) ∧ w'.cell? ⟨w4.heap.size, 1, none⟩ = some (.slice D4 z0.limits.length d4) ∧ w'.cell? ⟨w4.heap.size, 2, none⟩ = some (.int .i64 z0.repeats) ∧ w'.cell? ⟨w4.heap.size, 3, none⟩ = some (.int .i64 z0.bonus) ∧ w'.cell? ⟨w4.heap.size, 4, none⟩ = some (.int .i64 z0.keeps) ∧ w'.cell? ⟨w4.heap.size, 5, none⟩ = some (.int .i64 z0.fall)) ∧ (w'.cell? ⟨w.heap.size + 1, 0, none⟩ = some (.string z1.name) ∧ w'.cell? ⟨w.heap.size + 1, 1, none⟩ = some (.int .i64 z1.family) ∧ w'.cell? ⟨w.heap.size + 1, 2, none⟩ = some (.int .i64 z1.level) ∧ w'.cell? ⟨w.heap.size + 1, 3, none⟩ = some (.int .i64 z1.base))) (first | (with_reducible exact HSK6.out _ cq1 _ (by omega) _ _ _ _ _ _) | (with_reducible exact HSK.out _ (Kept.refl wb3).drew) | (with_reducible exact HSK.out _ ((Kept.refl wb3).alloc _).drew) | (with_reducible exact HSK.out _ (by assumption)) | (with_reducible exact HSK.out _ (Kept.alloc (by assumption) _))) (first | (go_at_call 12; (with_reducible refine (toElement_any _ z1 _ (H1.out.kept (Kwb3.trans (Kept.refl wb3).drew))).mono ?_); rintro e wq0 ⟨rfl, kq0⟩; have cq0 : Kept wb3 wq0 := Kept.trans (Kept.refl wb3).drew kq0; have zq0 := cq0.size; have yq0 := kq0.size) | (go_at_call 12; (with_reducible refine (toElement_any _ z1 _ (H1.out.kept (Kwb3.trans ((Kept.refl wb3).alloc _).drew))).mono ?_); rintro e wq0 ⟨rfl, kq0⟩; have cq0 : Kept wb3 wq0 := Kept.trans ((Kept.refl wb3).alloc _).drew kq0; have zq0 := cq0.size; have yq0 := kq0.size; have za0 : (wb3.alloc (.cells #[.slice none 0 0, .slice none 0 0, .int .i64 0, .int .i64 0, .int .i64 0, .int .i64 0] 32)).drew.heap.size = wb3.heap.size + 1 := (by simp [World.drew]); have bx1 := bx0.kept kq0) | (go_at_call 13; (with_reducible refine (addElement_any _ _ z0 z1 _ (O4.out.code.kept (Kept.trans cq0 (Kept.refl _))) (ElemAt.mk z1 _ e1)).mono ?_); rintro e wq1 ⟨uq1, rfl, oq1, kq1⟩; have cq1 : Kept wb3 wq1 := Kept.trans cq0 kq1; have zq1 := cq1.size; have yq1 := kq1.size; (try (have bx2 := bx1.kept kq1)); have fq := oq1.fps; have sq := kq1.size; have tq := cq1.size; obtain ⟨nr, mr, rfl, pr, qr, ndr⟩ := oq1; obtain ⟨Ar, cr, rfl, _⟩ := own_form pr.1; obtain ⟨Dr, dr, rfl, _⟩ := own_form qr; have OR := Lib.hid (⟨_, _, rfl, pr, qr, ndr⟩ : OwnK wq1 _ (.agg #[.slice Ar (adV z0 z1).elems.length cr, .slice Dr (adV z0 z1).limits.length dr, .int .i64 (adV z0 z1).repeats, .int .i64 (adV z0 z1).bonus, .int .i64 (adV z0 z1).keeps, .int .i64 (adV z0 z1).fall]) (adV z0 z1)); clear pr qr ndr; have FR := Lib.hid fq; clear fq; (try (obtain ⟨cx, fx⟩ := bx2.six))) | (go_at_call 13; (with_reducible refine (addElement_any _ _ z0 z1 _ (O4.out.code.kept (Kept.trans cq0 ((Kept.refl _).alloc _))) (ElemAt.mk z1 _ e1)).mono ?_); rintro e wq1 ⟨uq1, rfl, oq1, kq1⟩; have cq1 : Kept wb3 wq1 := Kept.trans (cq0.alloc _) kq1; have zq1 := cq1.size; have yq1 := kq1.size; have za1 : (wq0.alloc (.cells #[.slice none 0 0, .slice none 0 0, .int .i64 0, .int .i64 0, .int .i64 0, .int .i64 0] 32)).heap.size = wq0.heap.size + 1 := (by simp); have bx2 := (Box.new wq0 wq0.heap.size 32 #[.slice none 0 0, .slice none 0 0, .int .i64 0, .int .i64 0, .int .i64 0, .int .i64 0] rfl).kept kq1; have fq := oq1.fps; have sq := kq1.size; have tq := cq1.size; obtain ⟨nr, mr, rfl, pr, qr, ndr⟩ := oq1; obtain ⟨Ar, cr, rfl, _⟩ := own_form pr.1; obtain ⟨Dr, dr, rfl, _⟩ := own_form qr; have OR := Lib.hid (⟨_, _, rfl, pr, qr, ndr⟩ : OwnK wq1 _ (.agg #[.slice Ar (adV z0 z1).elems.length cr, .slice Dr (adV z0 z1).limits.length dr, .int .i64 (adV z0 z1).repeats, .int .i64 (adV z0 z1).bonus, .int .i64 (adV z0 z1).keeps, .int .i64 (adV z0 z1).fall]) (adV z0 z1)); clear pr qr ndr; have FR := Lib.hid fq; clear fq; (try (obtain ⟨cx, fx⟩ := bx2.six))))
      all_goals
        go_wp2_with fail
        go_meet
        first
          | (obtain ⟨w9, hw9, B9, Q9⟩ := set6 bx2 (.slice Ar (adV z0 z1).elems.length cr) (.slice Dr (adV z0 z1).limits.length dr) (.int .i64 (adV z0 z1).repeats) (.int .i64 (adV z0 z1).bonus) (.int .i64 (adV z0 z1).keeps) (.int .i64 (adV z0 z1).fall)
             rw [← hw9]
             exact ⟨_, Ar, cr, Dr, dr, rfl, rfl, by omega, B9, OwnK.far OR.out Q9 (fun b hb => by simp at hb; omega) (by omega), fun b hb => by have := FR.out b hb; have := Q9.size; omega, Q9.above cq1 (fun b hb => by simp at hb; omega)⟩)
          | exact ⟨_, Ar, cr, Dr, dr, rfl, rfl, by omega, Box.new wq1 _ _ _ rfl, OwnK.far OR.out (((Kept.refl _).alloc _).only []) (fun b hb => by cases hb) (by omega), fun b hb => by have := FR.out b hb; simp; omega, cq1.alloc _⟩
    case rest =>
      obtain ⟨gg5, A5, c5, D5, d5, rfl, rfl, hg5, B5, o5, F5, k5⟩ := hcut
      obtain ⟨w5, ew5⟩ : ∃ x : World, x = wc := ⟨_, rfl⟩
      subst ew5
      clear HSK HSK6 bx0
      replace B0 := B0.kept k5
      replace B1 := B1.kept k5
      replace B3 := B3.kept k5
      replace B4 := B4.kept k5
      replace O4 := Lib.hid (O4.out.kept k5)
      replace KS := KS.trans k5
      have sz5 := k5.size
      have K5 := Kwb3.trans k5
      have l5 := B5.lt
      replace F5 := Lib.hid F5
      have O5 := Lib.hid o5
      clear o5
      obtain ⟨x0, y0⟩ := B0.six
      obtain ⟨x1, y1⟩ := B1.four
      obtain ⟨x3, y3⟩ := B3.six
      obtain ⟨x4, y4⟩ := B4.six
      obtain ⟨x5, y5⟩ := B5.six
      go_wp2_with fail
      clear x0 y0 x1 y1 x3 y3 x4 y4 x5 y5
      refine (eqCode_any _ _ (adV z0 z1) _ O5.out.code (RS.out.kept KS)).mono ?_
      rintro e w6 ⟨rfl, k6⟩
      replace B0 := B0.kept k6
      replace B1 := B1.kept k6
      replace B3 := B3.kept k6
      replace B4 := B4.kept k6
      replace B5 := B5.kept k6
      replace O4 := Lib.hid (O4.out.kept k6)
      replace O5 := Lib.hid (O5.out.kept k6)
      replace KS := KS.trans k6
      have sz6 := k6.size
      have K6 := K5.trans k6
      obtain ⟨x0, y0⟩ := B0.six
      obtain ⟨x1, y1⟩ := B1.four
      obtain ⟨x3, y3⟩ := B3.six
      obtain ⟨x4, y4⟩ := B4.six
      obtain ⟨x5, y5⟩ := B5.six
      go_wp2_with fail
      clear x0 y0 x1 y1 x3 y3 x4 y4 x5 y5
      have KDw6 : Kept w6 w6.drew := (Kept.refl _).drew
      replace B0 := B0.kept KDw6
      replace B1 := B1.kept KDw6
      replace B3 := B3.kept KDw6
      replace B4 := B4.kept KDw6
      replace B5 := B5.kept KDw6
      replace O4 := Lib.hid (O4.out.kept KDw6)
      replace O5 := Lib.hid (O5.out.kept KDw6)
      replace KS := KS.trans KDw6
      have KKw6 := K6.trans KDw6
      have szdw6 : w6.heap.size ≤ w6.drew.heap.size := KDw6.size
      go_region_held3 (fun w' => (w'.cell? ⟨w.heap.size, 0, none⟩ = some (.slice A0 z0.elems.length c0) ∧ w'.cell? ⟨w.heap.size, 1, none⟩ = some (.slice D0 z0.limits.length d0) ∧ w'.cell? ⟨w.heap.size, 2, none⟩ = some (.int .i64 z0.repeats) ∧ w'.cell? ⟨w.heap.size, 3, none⟩ = some (.int .i64 z0.bonus) ∧ w'.cell? ⟨w.heap.size, 4, none⟩ = some (.int .i64 z0.keeps) ∧ w'.cell? ⟨w.heap.size, 5, none⟩ = some (.int .i64 z0.fall)) ∧ (w'.cell? ⟨w4.heap.size, 0, none⟩ = some (.slice A4 z0.elems.length c4) ∧ w'.cell? ⟨w4.heap.size, 1, none⟩ = some (.slice D4 z0.limits.length d4) ∧ w'.cell? ⟨w4.heap.size, 2, none⟩ = some (.int .i64 z0.repeats) ∧ w'.cell? ⟨w4.heap.size, 3, none⟩ = some (.int .i64 z0.bonus) ∧ w'.cell? ⟨w4.heap.size, 4, none⟩ = some (.int .i64 z0.keeps) ∧ w'.cell? ⟨w4.heap.size, 5, none⟩ = some (.int .i64 z0.fall))) (first | exact ⟨B0.six.1, B4.six.1⟩ | exact ⟨(B0.kept (by assumption)).six.1, (B4.kept (by assumption)).six.1⟩)
        (first | (go_at_call 11; refine (toCode_any _ z0 _ (H0.out.kept KKw6) (by omega) (by omega)).mono ?_; rintro e w7 ⟨u7, rfl, o7, k7⟩) | (go_at_call 14; refine (eqCode_any _ _ z0 _ (O4.out.code.kept k7) o7.code).mono ?_; rintro e w8 ⟨rfl, k8⟩; have kk8 := k7.trans k8))
      clear o7
      replace B0 := B0.kept kk8
      replace B1 := B1.kept kk8
      replace B3 := B3.kept kk8
      replace B4 := B4.kept kk8
      replace B5 := B5.kept kk8
      replace O4 := Lib.hid (O4.out.kept kk8)
      replace O5 := Lib.hid (O5.out.kept kk8)
      replace KS := KS.trans kk8
      have sz8 := kk8.size
      have K8 := KKw6.trans kk8
      have nb4 : (1) ≤ nextC (1) z0 ∧ nextC (1) z0 ≤ (1) + 5242880 := ⟨by unfold nextC; omega, by unfold nextC; omega⟩
      obtain ⟨x0, y0⟩ := B0.six
      obtain ⟨x1, y1⟩ := B1.four
      obtain ⟨x3, y3⟩ := B3.six
      obtain ⟨x4, y4⟩ := B4.six
      obtain ⟨x5, y5⟩ := B5.six
      go_wp2_with fail
      clear x0 y0 x1 y1 x3 y3 x4 y4 x5 y5
      refine (markCode_any _ z0 _ _ _ O4.out (by omega) (by omega) (by omega) (by omega)).mono ?_
      rintro e w9 ⟨rfl, o9, on9⟩
      have sz9 := on9.size
      replace B0 := B0.only on9 (fun hb => by have := F4.out _ hb; omega)
      replace B1 := B1.only on9 (fun hb => by have := F4.out _ hb; omega)
      replace B3 := B3.only on9 (fun hb => by have := F4.out _ hb; omega)
      replace B4 := B4.only on9 (fun hb => by have := F4.out _ hb; omega)
      replace B5 := B5.only on9 (fun hb => by have := F4.out _ hb; omega)
      replace O5 := Lib.hid (O5.out.only on9 (fun b hb hb' => by have := F5.out b hb; have := F4.out b hb'; omega))
      replace KS := on9.above KS (fun b hb => by have := F4.out b hb; omega)
      have K9 := on9.above K8 (fun b hb => by have := F4.out b hb; omega)
      replace O4 := Lib.hid o9
      clear o9 on9
      obtain ⟨x0, y0⟩ := B0.six
      obtain ⟨x1, y1⟩ := B1.four
      obtain ⟨x3, y3⟩ := B3.six
      obtain ⟨x4, y4⟩ := B4.six
      obtain ⟨x5, y5⟩ := B5.six
      go_wp2_with fail
      clear x0 y0 x1 y1 x3 y3 x4 y4 x5 y5
      refine (eqCode_any _ _ (adV z0 z1) _ O5.out.code (RS.out.kept KS)).mono ?_
      rintro e w10 ⟨rfl, k10⟩
      replace B0 := B0.kept k10
      replace B1 := B1.kept k10
      replace B3 := B3.kept k10
      replace B4 := B4.kept k10
      replace B5 := B5.kept k10
      replace O4 := Lib.hid (O4.out.kept k10)
      replace O5 := Lib.hid (O5.out.kept k10)
      replace KS := KS.trans k10
      have sz10 := k10.size
      have K10 := K9.trans k10
      have nbR : 1 ≤ nextC 1 (adV z0 z1) ∧ nextC 1 (adV z0 z1) ≤ 5242881 := ⟨by unfold nextC; omega, by unfold nextC; omega⟩
      obtain ⟨x0, y0⟩ := B0.six
      obtain ⟨x1, y1⟩ := B1.four
      obtain ⟨x3, y3⟩ := B3.six
      obtain ⟨x4, y4⟩ := B4.six
      obtain ⟨x5, y5⟩ := B5.six
      go_wp2_with fail
      clear x0 y0 x1 y1 x3 y3 x4 y4 x5 y5
      refine (markCode_any _ (adV z0 z1) _ _ _ O5.out (by omega) (by omega) (by omega) (by omega)).mono ?_
      rintro e w11 ⟨rfl, o11, on11⟩
      have sz11 := on11.size
      replace B0 := B0.only on11 (fun hb => by have := F5.out _ hb; omega)
      replace B1 := B1.only on11 (fun hb => by have := F5.out _ hb; omega)
      replace B3 := B3.only on11 (fun hb => by have := F5.out _ hb; omega)
      replace B4 := B4.only on11 (fun hb => by have := F5.out _ hb; omega)
      replace B5 := B5.only on11 (fun hb => by have := F5.out _ hb; omega)
      replace O4 := Lib.hid (O4.out.only on11 (fun b hb hb' => by have := F4.out b hb; have := F5.out b hb'; omega))
      replace KS := on11.above KS (fun b hb => by have := F5.out b hb; omega)
      have K11 := on11.above K10 (fun b hb => by have := F5.out b hb; omega)
      replace O5 := Lib.hid o11
      clear o11 on11
      obtain ⟨x0, y0⟩ := B0.six
      obtain ⟨x1, y1⟩ := B1.four
      obtain ⟨x3, y3⟩ := B3.six
      obtain ⟨x4, y4⟩ := B4.six
      obtain ⟨x5, y5⟩ := B5.six
      go_wp2_with fail
      clear x0 y0 x1 y1 x3 y3 x4 y4 x5 y5
      refine (heldCode_any _ (adV z0 z1) _ _ O5.out.code (by omega) (by omega) (by omega) (by omega)).mono ?_
      rintro e w12 ⟨rfl, k12⟩
      replace B0 := B0.kept k12
      replace B1 := B1.kept k12
      replace B3 := B3.kept k12
      replace B4 := B4.kept k12
      replace B5 := B5.kept k12
      replace O4 := Lib.hid (O4.out.kept k12)
      replace O5 := Lib.hid (O5.out.kept k12)
      replace KS := KS.trans k12
      have sz12 := k12.size
      have K12 := K11.trans k12
      obtain ⟨x0, y0⟩ := B0.six
      obtain ⟨x1, y1⟩ := B1.four
      obtain ⟨x3, y3⟩ := B3.six
      obtain ⟨x4, y4⟩ := B4.six
      obtain ⟨x5, y5⟩ := B5.six
      go_upto_region 27 with (fail)
      clear x0 y0 x1 y1 x3 y3 x4 y4 x5 y5
      have HSK : Hid (∀ w' : World, Kept w12 w' → (w'.cell? ⟨w.heap.size, 0, none⟩ = some (.slice A0 z0.elems.length c0) ∧ w'.cell? ⟨w.heap.size, 1, none⟩ = some (.slice D0 z0.limits.length d0) ∧ w'.cell? ⟨w.heap.size, 2, none⟩ = some (.int .i64 z0.repeats) ∧ w'.cell? ⟨w.heap.size, 3, none⟩ = some (.int .i64 z0.bonus) ∧ w'.cell? ⟨w.heap.size, 4, none⟩ = some (.int .i64 z0.keeps) ∧ w'.cell? ⟨w.heap.size, 5, none⟩ = some (.int .i64 z0.fall)) ∧ (w'.cell? ⟨w.heap.size + 1, 0, none⟩ = some (.string z1.name) ∧ w'.cell? ⟨w.heap.size + 1, 1, none⟩ = some (.int .i64 z1.family) ∧ w'.cell? ⟨w.heap.size + 1, 2, none⟩ = some (.int .i64 z1.level) ∧ w'.cell? ⟨w.heap.size + 1, 3, none⟩ = some (.int .i64 z1.base))) := Lib.hid (fun w' hk => ⟨(B0.kept hk).six.1, (B1.kept hk).four.1⟩)
      have HSK6 : Hid (∀ V : World, Kept w12 V → ∀ gg, w12.heap.size ≤ gg → ∀ u0 u1 u2 u3 u4 u5, (((((((V.setCell ⟨gg, 0, none⟩ u0).setCell ⟨gg, 1, none⟩ u1).setCell ⟨gg, 2, none⟩ u2).setCell ⟨gg, 3, none⟩ u3).setCell ⟨gg, 4, none⟩ u4).setCell ⟨gg, 5, none⟩ u5).cell? ⟨w.heap.size, 0, none⟩ = some (.slice A0 z0.elems.length c0) ∧ ((((((V.setCell ⟨gg, 0, none⟩ u0).setCell ⟨gg, 1, none⟩ u1).setCell ⟨gg, 2, none⟩ u2).setCell ⟨gg, 3, none⟩ u3).setCell ⟨gg, 4, none⟩ u4).setCell ⟨gg, 5, none⟩ u5).cell? ⟨w.heap.size, 1, none⟩ = some (.slice D0 z0.limits.length d0) ∧ ((((((V.setCell ⟨gg, 0, none⟩ u0).setCell ⟨gg, 1, none⟩ u1).setCell ⟨gg, 2, none⟩ u2).setCell ⟨gg, 3, none⟩ u3).setCell ⟨gg, 4, none⟩ u4).setCell ⟨gg, 5, none⟩ u5).cell? ⟨w.heap.size, 2, none⟩ = some (.int .i64 z0.repeats) ∧ ((((((V.setCell ⟨gg, 0, none⟩ u0).setCell ⟨gg, 1, none⟩ u1).setCell ⟨gg, 2, none⟩ u2).setCell ⟨gg, 3, none⟩ u3).setCell ⟨gg, 4, none⟩ u4).setCell ⟨gg, 5, none⟩ u5).cell? ⟨w.heap.size, 3, none⟩ = some (.int .i64 z0.bonus) ∧ ((((((V.setCell ⟨gg, 0, none⟩ u0).setCell ⟨gg, 1, none⟩ u1).setCell ⟨gg, 2, none⟩ u2).setCell ⟨gg, 3, none⟩ u3).setCell ⟨gg, 4, none⟩ u4).setCell ⟨gg, 5, none⟩ u5).cell? ⟨w.heap.size, 4, none⟩ = some (.int .i64 z0.keeps) ∧ ((((((V.setCell ⟨gg, 0, none⟩ u0).setCell ⟨gg, 1, none⟩ u1).setCell ⟨gg, 2, none⟩ u2).setCell ⟨gg, 3, none⟩ u3).setCell ⟨gg, 4, none⟩ u4).setCell ⟨gg, 5, none⟩ u5).cell? ⟨w.heap.size, 5, none⟩ = some (.int .i64 z0.fall)) ∧ (((((((V.setCell ⟨gg, 0, none⟩ u0).setCell ⟨gg, 1, none⟩ u1).setCell ⟨gg, 2, none⟩ u2).setCell ⟨gg, 3, none⟩ u3).setCell ⟨gg, 4, none⟩ u4).setCell ⟨gg, 5, none⟩ u5).cell? ⟨w.heap.size + 1, 0, none⟩ = some (.string z1.name) ∧ ((((((V.setCell ⟨gg, 0, none⟩ u0).setCell ⟨gg, 1, none⟩ u1).setCell ⟨gg, 2, none⟩ u2).setCell ⟨gg, 3, none⟩ u3).setCell ⟨gg, 4, none⟩ u4).setCell ⟨gg, 5, none⟩ u5).cell? ⟨w.heap.size + 1, 1, none⟩ = some (.int .i64 z1.family) ∧ ((((((V.setCell ⟨gg, 0, none⟩ u0).setCell ⟨gg, 1, none⟩ u1).setCell ⟨gg, 2, none⟩ u2).setCell ⟨gg, 3, none⟩ u3).setCell ⟨gg, 4, none⟩ u4).setCell ⟨gg, 5, none⟩ u5).cell? ⟨w.heap.size + 1, 2, none⟩ = some (.int .i64 z1.level) ∧ ((((((V.setCell ⟨gg, 0, none⟩ u0).setCell ⟨gg, 1, none⟩ u1).setCell ⟨gg, 2, none⟩ u2).setCell ⟨gg, 3, none⟩ u3).setCell ⟨gg, 4, none⟩ u4).setCell ⟨gg, 5, none⟩ u5).cell? ⟨w.heap.size + 1, 3, none⟩ = some (.int .i64 z1.base))) := Lib.hid (fun V hk gg hgg u0 u1 u2 u3 u4 u5 => ⟨(Box.far6 (B0.kept hk) (by have := B0.lt; omega) u0 u1 u2 u3 u4 u5).six.1, (Box.far6 (B1.kept hk) (by have := B1.lt; omega) u0 u1 u2 u3 u4 u5).four.1⟩)
      have bx0 : Box (w12.alloc (.cells #[.slice none 0 0, .slice none 0 0, .int .i64 0, .int .i64 0, .int .i64 0, .int .i64 0] 32)).drew w12.heap.size 32 #[.slice none 0 0, .slice none 0 0, .int .i64 0, .int .i64 0, .int .i64 0, .int .i64 0] := Box.new w12 _ _ _ rfl
      go_cut [14, 15] (fun s1 s2 wx => ∃ (gg : Nat) (Ar : Option Addr) (cr : Nat) (Dr : Option Addr) (dr : Nat), s1 = .pointer (some ⟨gg, 0, none⟩) ∧ s2 = .bool (adB z0 z1) ∧ w12.heap.size ≤ gg ∧ Box wx gg 32 #[.slice Ar (adV z0 z1).elems.length cr, .slice Dr (adV z0 z1).limits.length dr, .int .i64 (adV z0 z1).repeats, .int .i64 (adV z0 z1).bonus, .int .i64 (adV z0 z1).keeps, .int .i64 (adV z0 z1).fall] ∧ OwnK wx w12.heap.size (.agg #[.slice Ar (adV z0 z1).elems.length cr, .slice Dr (adV z0 z1).limits.length dr, .int .i64 (adV z0 z1).repeats, .int .i64 (adV z0 z1).bonus, .int .i64 (adV z0 z1).keeps, .int .i64 (adV z0 z1).fall]) (adV z0 z1) ∧ (∀ b ∈ fpA (.agg #[.slice Ar (adV z0 z1).elems.length cr, .slice Dr (adV z0 z1).limits.length dr, .int .i64 (adV z0 z1).repeats, .int .i64 (adV z0 z1).bonus, .int .i64 (adV z0 z1).keeps, .int .i64 (adV z0 z1).fall]), w12.heap.size ≤ b ∧ b < wx.heap.size ∧ b ≠ gg) ∧ Kept w12 wx)
      case first =>
        go_region_held3 (fun w' => (w'.cell? ⟨w.heap.size, 0, none⟩ = some (.slice A0 z0.elems.length c0) ∧ w'.cell? ⟨w.heap.size, 1, none⟩ = some (.slice D0 z0.limits.length d0) ∧ w'.cell? ⟨w.heap.size, 2, none⟩ = some (.int .i64 z0.repeats) ∧ w'.cell? ⟨w.heap.size, 3, none⟩ = some (.int .i64 z0.bonus) ∧ w'.cell? ⟨w.heap.size, 4, none⟩ = some (.int .i64 z0.keeps) ∧ w'.cell? ⟨w.heap.size, 5, none⟩ = some (.int .i64 z0.fall)) ∧ (w'.cell? ⟨w.heap.size + 1, 0, none⟩ = some (.string z1.name) ∧ w'.cell? ⟨w.heap.size + 1, 1, none⟩ = some (.int .i64 z1.family) ∧ w'.cell? ⟨w.heap.size + 1, 2, none⟩ = some (.int .i64 z1.level) ∧ w'.cell? ⟨w.heap.size + 1, 3, none⟩ = some (.int .i64 z1.base))) (first | (with_reducible exact HSK6.out _ cq2 _ (by omega) _ _ _ _ _ _) | (with_reducible exact HSK.out _ (Kept.refl w12).drew) | (with_reducible exact HSK.out _ ((Kept.refl w12).alloc _).drew) | (with_reducible exact HSK.out _ (by assumption)) | (with_reducible exact HSK.out _ (Kept.alloc (by assumption) _))) (first | (go_at_call 11; (with_reducible refine (toCode_any _ z0 _ (H0.out.kept (K12.trans (Kept.refl w12).drew)) (by omega) (by omega)).mono ?_); rintro e wq0 ⟨uq0, rfl, oq0, kq0⟩; have cq0 : Kept w12 wq0 := Kept.trans (Kept.refl w12).drew kq0; have zq0 := cq0.size; have yq0 := kq0.size; have rq0 := Lib.hid oq0.code; clear oq0) | (go_at_call 11; (with_reducible refine (toCode_any _ z0 _ (H0.out.kept (K12.trans ((Kept.refl w12).alloc _).drew)) (by omega) (by omega)).mono ?_); rintro e wq0 ⟨uq0, rfl, oq0, kq0⟩; have cq0 : Kept w12 wq0 := Kept.trans ((Kept.refl w12).alloc _).drew kq0; have zq0 := cq0.size; have yq0 := kq0.size; have za0 : (w12.alloc (.cells #[.slice none 0 0, .slice none 0 0, .int .i64 0, .int .i64 0, .int .i64 0, .int .i64 0] 32)).drew.heap.size = w12.heap.size + 1 := (by simp [World.drew]); have bx1 := bx0.kept kq0; have rq0 := Lib.hid oq0.code; clear oq0) | (go_at_call 12; (with_reducible refine (toElement_any _ z1 _ (H1.out.kept (K12.trans cq0))).mono ?_); rintro e wq1 ⟨rfl, kq1⟩; have cq1 : Kept w12 wq1 := Kept.trans cq0 kq1; have zq1 := cq1.size; have yq1 := kq1.size; replace rq0 := Lib.hid (rq0.out.kept (Kept.trans (Kept.refl _) kq1)); (try (have bx2 := bx1.kept kq1))) | (go_at_call 12; (with_reducible refine (toElement_any _ z1 _ (H1.out.kept (K12.trans (cq0.alloc _)))).mono ?_); rintro e wq1 ⟨rfl, kq1⟩; have cq1 : Kept w12 wq1 := Kept.trans (cq0.alloc _) kq1; have zq1 := cq1.size; have yq1 := kq1.size; have za1 : (wq0.alloc (.cells #[.slice none 0 0, .slice none 0 0, .int .i64 0, .int .i64 0, .int .i64 0, .int .i64 0] 32)).heap.size = wq0.heap.size + 1 := (by simp); replace rq0 := Lib.hid (rq0.out.kept (Kept.trans ((Kept.refl _).alloc _) kq1)); have bx2 := (Box.new wq0 wq0.heap.size 32 #[.slice none 0 0, .slice none 0 0, .int .i64 0, .int .i64 0, .int .i64 0, .int .i64 0] rfl).kept kq1) | (go_at_call 13; (with_reducible refine (addElement_any _ _ z0 z1 _ (rq0.out.kept (Kept.refl _)) (ElemAt.mk z1 _ e1)).mono ?_); rintro e wq2 ⟨uq2, rfl, oq2, kq2⟩; have cq2 : Kept w12 wq2 := Kept.trans cq1 kq2; have zq2 := cq2.size; have yq2 := kq2.size; replace rq0 := Lib.hid (rq0.out.kept (Kept.trans (Kept.refl _) kq2)); (try (have bx3 := bx2.kept kq2)); have fq := oq2.fps; have sq := kq2.size; have tq := cq2.size; obtain ⟨nr, mr, rfl, pr, qr, ndr⟩ := oq2; obtain ⟨Ar, cr, rfl, _⟩ := own_form pr.1; obtain ⟨Dr, dr, rfl, _⟩ := own_form qr; have OR := Lib.hid (⟨_, _, rfl, pr, qr, ndr⟩ : OwnK wq2 _ (.agg #[.slice Ar (adV z0 z1).elems.length cr, .slice Dr (adV z0 z1).limits.length dr, .int .i64 (adV z0 z1).repeats, .int .i64 (adV z0 z1).bonus, .int .i64 (adV z0 z1).keeps, .int .i64 (adV z0 z1).fall]) (adV z0 z1)); clear pr qr ndr; have FR := Lib.hid fq; clear fq; (try (obtain ⟨cx, fx⟩ := bx3.six))) | (go_at_call 13; (with_reducible refine (addElement_any _ _ z0 z1 _ (rq0.out.kept ((Kept.refl _).alloc _)) (ElemAt.mk z1 _ e1)).mono ?_); rintro e wq2 ⟨uq2, rfl, oq2, kq2⟩; have cq2 : Kept w12 wq2 := Kept.trans (cq1.alloc _) kq2; have zq2 := cq2.size; have yq2 := kq2.size; have za2 : (wq1.alloc (.cells #[.slice none 0 0, .slice none 0 0, .int .i64 0, .int .i64 0, .int .i64 0, .int .i64 0] 32)).heap.size = wq1.heap.size + 1 := (by simp); replace rq0 := Lib.hid (rq0.out.kept (Kept.trans ((Kept.refl _).alloc _) kq2)); have bx3 := (Box.new wq1 wq1.heap.size 32 #[.slice none 0 0, .slice none 0 0, .int .i64 0, .int .i64 0, .int .i64 0, .int .i64 0] rfl).kept kq2; have fq := oq2.fps; have sq := kq2.size; have tq := cq2.size; obtain ⟨nr, mr, rfl, pr, qr, ndr⟩ := oq2; obtain ⟨Ar, cr, rfl, _⟩ := own_form pr.1; obtain ⟨Dr, dr, rfl, _⟩ := own_form qr; have OR := Lib.hid (⟨_, _, rfl, pr, qr, ndr⟩ : OwnK wq2 _ (.agg #[.slice Ar (adV z0 z1).elems.length cr, .slice Dr (adV z0 z1).limits.length dr, .int .i64 (adV z0 z1).repeats, .int .i64 (adV z0 z1).bonus, .int .i64 (adV z0 z1).keeps, .int .i64 (adV z0 z1).fall]) (adV z0 z1)); clear pr qr ndr; have FR := Lib.hid fq; clear fq; (try (obtain ⟨cx, fx⟩ := bx3.six))))
        all_goals
          go_wp2_with fail
          go_meet
          first
            | (obtain ⟨w9, hw9, B9, Q9⟩ := set6 bx3 (.slice Ar (adV z0 z1).elems.length cr) (.slice Dr (adV z0 z1).limits.length dr) (.int .i64 (adV z0 z1).repeats) (.int .i64 (adV z0 z1).bonus) (.int .i64 (adV z0 z1).keeps) (.int .i64 (adV z0 z1).fall)
               rw [← hw9]
               exact ⟨_, Ar, cr, Dr, dr, rfl, rfl, by omega, B9, OwnK.far OR.out Q9 (fun b hb => by simp at hb; omega) (by omega), fun b hb => by have := FR.out b hb; have := Q9.size; omega, Q9.above cq2 (fun b hb => by simp at hb; omega)⟩)
            | exact ⟨_, Ar, cr, Dr, dr, rfl, rfl, by omega, Box.new wq2 _ _ _ rfl, OwnK.far OR.out (((Kept.refl _).alloc _).only []) (fun b hb => by cases hb) (by omega), fun b hb => by have := FR.out b hb; simp; omega, cq2.alloc _⟩
      case rest =>
        obtain ⟨gg13, A13, c13, D13, d13, rfl, rfl, hg13, B13, o13, F13, k13⟩ := hcut
        obtain ⟨w13, ew13⟩ : ∃ x : World, x = wc := ⟨_, rfl⟩
        subst ew13
        clear HSK HSK6 bx0
        replace B0 := B0.kept k13
        replace B1 := B1.kept k13
        replace B3 := B3.kept k13
        replace B4 := B4.kept k13
        replace B5 := B5.kept k13
        replace O4 := Lib.hid (O4.out.kept k13)
        replace O5 := Lib.hid (O5.out.kept k13)
        replace KS := KS.trans k13
        have sz13 := k13.size
        have K13 := K12.trans k13
        have l13 := B13.lt
        have RH := Lib.hid o13.code
        clear o13 F13
        obtain ⟨x0, y0⟩ := B0.six
        obtain ⟨x1, y1⟩ := B1.four
        obtain ⟨x3, y3⟩ := B3.six
        obtain ⟨x4, y4⟩ := B4.six
        obtain ⟨x5, y5⟩ := B5.six
        obtain ⟨x13, y13⟩ := B13.six
        go_wp2_with fail
        clear x0 y0 x1 y1 x3 y3 x4 y4 x5 y5 x13 y13
        refine (eqCode_any _ _ (adV z0 z1) _ RH.out (RS.out.kept KS)).mono ?_
        rintro e w14 ⟨rfl, k14⟩
        replace B0 := B0.kept k14
        replace B1 := B1.kept k14
        replace B3 := B3.kept k14
        replace B4 := B4.kept k14
        replace B5 := B5.kept k14
        replace B13 := B13.kept k14
        replace RH := Lib.hid (RH.out.kept k14)
        replace O4 := Lib.hid (O4.out.kept k14)
        replace O5 := Lib.hid (O5.out.kept k14)
        replace KS := KS.trans k14
        have sz14 := k14.size
        have K14 := K13.trans k14
        obtain ⟨x0, y0⟩ := B0.six
        obtain ⟨x1, y1⟩ := B1.four
        obtain ⟨x3, y3⟩ := B3.six
        obtain ⟨x4, y4⟩ := B4.six
        obtain ⟨x5, y5⟩ := B5.six
        obtain ⟨x13, y13⟩ := B13.six
        go_wp2_with fail
        clear x0 y0 x1 y1 x3 y3 x4 y4 x5 y5 x13 y13
        refine (heldCode_any _ (adV z0 z1) _ _ O5.out.code (by omega) (by omega) (by omega) (by omega)).mono ?_
        rintro e w15 ⟨rfl, k15⟩
        replace B0 := B0.kept k15
        replace B1 := B1.kept k15
        replace B3 := B3.kept k15
        replace B4 := B4.kept k15
        replace B5 := B5.kept k15
        replace B13 := B13.kept k15
        replace RH := Lib.hid (RH.out.kept k15)
        replace O4 := Lib.hid (O4.out.kept k15)
        replace O5 := Lib.hid (O5.out.kept k15)
        replace KS := KS.trans k15
        have sz15 := k15.size
        have K15 := K14.trans k15
        go_wp2_with fail
        go_ret
        exact ⟨rfl, K15⟩
end Go.Proofs.Ytpkmngkepmoikaa

/- Arguments opened: a slice of integers. -/
namespace Go.Proofs.Ytpkmngkepmoikaa
set_option linter.unusedVariables false
set_option linter.unusedSimpArgs false
set_option maxRecDepth 100000
open Go.ChangeShapes Go.WideShapes Go.ChangeAt Go.RowKit

theorem block_lt {w : World} {a : Addr} {v : Value} (h : w.cell? a = some v) : a.block < w.heap.size := by
  rcases Nat.lt_or_ge a.block w.heap.size with hlt | hge
  · exact hlt
  · unfold World.cell? at h
    rw [Array.getElem?_eq_none hge] at h
    cases h
theorem add_at {b o : Nat} (i : Nat) : (⟨b, o, none⟩ : Addr).add i = ⟨b, o + i, none⟩ := by
  unfold Addr.add
  split <;> simp_all
theorem spot_of {w : World} {x : Addr} {u : Value} (h : w.cell? (x.add 0) = some u) : ∃ b o, x = ⟨b, o, none⟩ := by
  obtain ⟨b, o, s⟩ := x
  have hs : s = none := by simpa [Addr.add] using World.cell?_spot h
  exact ⟨b, o, by rw [hs]⟩
theorem seq_of_cells {w : World} {x : Addr} {len cap size : Nat} {xs : List Value} (hl : len ≤ cap) (hm : cap ≤ maxLen) (hlen : xs.length = len * size) (hsz : 0 < size) (h : ∀ j u, xs[j]? = some u → w.cell? (x.add j) = some u) : Seq w (.slice (some x) len cap) len xs := by
  refine ⟨_, cap, rfl, hl, hm, (fun h => by cases h), fun hn => ?_⟩
  have h0 : 0 < xs.length := by rw [hlen]; exact Nat.mul_pos hn hsz
  obtain ⟨b, o, rfl⟩ := spot_of (h 0 _ (List.getElem?_eq_getElem h0))
  have hc := h 0 _ (List.getElem?_eq_getElem h0)
  refine ⟨b, o, rfl, ?_, fun j u hu => by rw [← add_at]; exact h j u hu⟩
  rw [add_at] at hc
  exact block_lt hc
section
variable {H : Type} {enc : TypeId × Value → H} {W : World} {r : Reach} {b0 base : Nat} {spare : Nat → Bool} {held : Bool} {v : Value} {d : DataW H} {p : List MemPlace} {x : DataW H × List MemPlace}
theorem ints_of_trod {fuel : Nat} (hf : DataW.trod enc Try.prog W base spare held fuel 23 [v] = some x) : ∃ zs, Ints W v zs := by
  rcases open_ints Try.underlying23 Try.underlying3 (by kernel_rfl) hf with ⟨hcs, _⟩ | ⟨ad, len0, cap0, zs, hcs, _, hl, hm, hz, _, hcell, hwz⟩
  · simp at hcs
    subst hcs
    exact ⟨[], Seq.nil _⟩
  · simp at hcs
    subst hcs
    have hge : len0 ≤ zs.length := by rw [hz]; split <;> omega
    refine ⟨zs.take len0, ?_⟩
    have hlen : (zs.take len0).length = len0 := by rw [List.length_take]; omega
    have hS := seq_of_cells (w := W) (x := ad) (len := len0) (cap := cap0) (size := 1) (xs := (zs.take len0).map (Value.int .i64)) hl hm (by rw [List.length_map, hlen]; omega) (by omega) (fun j u hu => by
      rw [List.getElem?_map] at hu
      obtain ⟨z, hz1, rfl⟩ := Option.map_eq_some_iff.1 hu
      have hj : j < len0 := by
        have := (List.getElem?_eq_some_iff.1 hz1).1
        rw [hlen] at this
        exact this
      rw [List.getElem?_take_of_lt hj] at hz1
      have := hcell j (by omega)
      rw [List.getD_eq_getElem?_getD, hz1] at this
      exact this)
    unfold Ints
    rw [hlen]
    exact hS
theorem open_I (hv : Value.okWide Try.prog W r b0 23 v) (h : DataW.Trod enc Try.prog W base spare held 23 v d p) : ∃ zs, Ints W v zs := by
  obtain ⟨a0, len0, cap0, rfl⟩ := okWide_slice Try.underlying23 hv
  obtain ⟨fuel, hf⟩ := h
  exact ints_of_trod hf
end
end Go.Proofs.Ytpkmngkepmoikaa

/- Arguments opened: elements, lists of elements, codes. -/
namespace Go.Proofs.Ytpkmngkepmoikaa
set_option linter.unusedVariables false
set_option linter.unusedSimpArgs false
open Go.ChangeShapes Go.WideShapes Go.ChangeAt Go.RowKit Go.Joins Go.Deep
set_option maxRecDepth 100000
section
variable {H : Type} {enc : TypeId × Value → H} {W : World} {r : Reach} {b0 base : Nat} {spare : Nat → Bool} {held : Bool} {v : Value} {d : DataW H} {p : List MemPlace} {x : DataW H × List MemPlace}
theorem elem_of_parts {v0 v1 v2 v3 : Value} {y0 y1 y2 y3 : DataW H × List MemPlace} {n : Nat} (h0 : DataW.trod enc Try.prog W base spare held n 9 [v0] = some y0) (h1 : DataW.trod enc Try.prog W base spare held n 3 [v1] = some y1) (h2 : DataW.trod enc Try.prog W base spare held n 3 [v2] = some y2) (h3 : DataW.trod enc Try.prog W base spare held n 3 [v3] = some y3) :
    ∃ e : ElemD, v0 = .string e.name ∧ v1 = .int .i64 e.family ∧ v2 = .int .i64 e.level ∧ v3 = .int .i64 e.base ∧ e.name.size ≤ maxLen := by
  obtain ⟨s, q0, _, hs⟩ := DataW.trod_string Try.underlying9 h0
  obtain ⟨a, q1, _⟩ := DataW.trod_int Try.underlying3 h1
  obtain ⟨b, q2, _⟩ := DataW.trod_int Try.underlying3 h2
  obtain ⟨c, q3, _⟩ := DataW.trod_int Try.underlying3 h3
  simp at q0 q1 q2 q3
  exact ⟨⟨s, a, b, c⟩, q0, q1, q2, q3, hs⟩
theorem open_E (hv : Value.okWide Try.prog W r b0 27 v) (h : DataW.Trod enc Try.prog W base spare held 27 v d p) : ∃ e, ElemAt W v e := by
  obtain ⟨v0, v1, v2, v3, y0, y1, y2, y3, n, rfl, _, _, h0, h1, h2, h3⟩ := open_agg4 Try.underlying27 (by kernel_rfl) (by kernel_rfl) hv h
  obtain ⟨e, rfl, rfl, rfl, rfl, hs⟩ := elem_of_parts h0 h1 h2 h3
  exact ⟨e, rfl, hs⟩
theorem elems_of_trod {fuel : Nat} (hf : DataW.trod enc Try.prog W base spare held fuel 22 [v] = some x) : ∃ es, Elems W v es := by
  have hC : Try.prog.cellsOf 27 = 4 := by kernel_rfl
  rcases open_slice Try.underlying22 hf with ⟨hcs, _⟩ | ⟨ad, len0, cap0, m, n, D, Pl, hcs, _, hl, hm, hmm, _, hi⟩
  · simp at hcs
    subst hcs
    exact ⟨[], Seq.nil _, by simp⟩
  · simp at hcs
    subst hcs
    have hge : len0 ≤ m := by rw [hmm]; split <;> omega
    have each : ∀ i : Fin len0, ∃ e : ElemD, (W.cell? (ad.add (i.1 * 4)) = some (.string e.name) ∧ W.cell? ((ad.add (i.1 * 4)).add 1) = some (.int .i64 e.family) ∧ W.cell? ((ad.add (i.1 * 4)).add 2) = some (.int .i64 e.level) ∧ W.cell? ((ad.add (i.1 * 4)).add 3) = some (.int .i64 e.base)) ∧ e.name.size ≤ maxLen := by
      intro i
      obtain ⟨cs', hc, ht'⟩ := hi i.1 (by omega)
      rw [hC] at hc
      obtain ⟨_, hcl, hat⟩ := World.cells?_some hc
      obtain ⟨y0, y1, y2, y3, n', _, _, h0, h1, h2, h3⟩ := trod_struct4 Try.underlying27 ht'
      have hS : Try.prog.cellsOf 9 = 1 := by kernel_rfl
      have hI : Try.prog.cellsOf 3 = 1 := by kernel_rfl
      match cs', hcl with
      | [x0, x1, x2, x3], _ =>
        dsimp only at h0 h1 h2 h3
        rw [hS] at h0
        rw [hI] at h1 h2 h3
        obtain ⟨e, rfl, rfl, rfl, rfl, hs⟩ := elem_of_parts (v0 := x0) (v1 := x1) (v2 := x2) (v3 := x3) h0 h1 h2 h3
        exact ⟨e, ⟨hat 0 (by omega), hat 1 (by omega), hat 2 (by omega), hat 3 (by omega)⟩, hs⟩
    refine ⟨List.ofFn fun i => Classical.choose (each i), ?_, ?_⟩
    · rw [List.length_ofFn]
      refine seq_of_cells (size := 4) hl hm (by rw [flat_length cells4 4 (fun _ => rfl)]; simp) (by omega) (fun j u hu => ?_)
      have hj : j < len0 * 4 := by
        have := (List.getElem?_eq_some_iff.1 hu).1
        rw [flat_length cells4 4 (fun _ => rfl)] at this
        simpa using this
      have hi4 : j / 4 < len0 := by omega
      have hsp := Classical.choose_spec (each ⟨j / 4, hi4⟩)
      have hz : (List.ofFn fun i => Classical.choose (each i))[j / 4]? = some (Classical.choose (each ⟨j / 4, hi4⟩)) := by
        rw [List.getElem?_ofFn, dif_pos hi4]
      have hfl := flat_get cells4 4 (fun _ => rfl) (List.ofFn fun i => Classical.choose (each i)) (j / 4) (j % 4) (by omega)
      rw [show j / 4 * 4 + j % 4 = j from by omega, hu, hz] at hfl
      have hadd : ad.add j = (ad.add (j / 4 * 4)).add (j % 4) := by
        rw [Go.Deep.add_add]
        congr 1
        omega
      rw [hadd]
      have hm4 : j % 4 = 0 ∨ j % 4 = 1 ∨ j % 4 = 2 ∨ j % 4 = 3 := by omega
      rcases hm4 with h | h | h | h <;> rw [h] at hfl ⊢
      · rw [show ∀ a : Addr, a.add 0 = a from fun a => by simp [Addr.add]]
        rw [hsp.1.1]
        simpa [cells4] using hfl.symm
      · rw [hsp.1.2.1]
        simpa [cells4] using hfl.symm
      · rw [hsp.1.2.2.1]
        simpa [cells4] using hfl.symm
      · rw [hsp.1.2.2.2]
        simpa [cells4] using hfl.symm
    · intro e he
      obtain ⟨k, hk⟩ := List.getElem?_of_mem he
      rw [List.getElem?_ofFn] at hk
      split at hk
      · rename_i hk'
        injection hk with hk
        have hsp := (Classical.choose_spec (each ⟨k, hk'⟩)).2
        rw [hk] at hsp
        exact hsp
      · cases hk
theorem open_C (hv : Value.okWide Try.prog W r b0 25 v) (h : DataW.Trod enc Try.prog W base spare held 25 v d p) : ∃ c, CodeAt W v c := by
  obtain ⟨cs, rfl, hsz⟩ := okWide_struct Try.underlying25 hv
  obtain ⟨l⟩ := cs
  have hC : Try.prog.cellsOf 25 = 6 := by kernel_rfl
  have hE : Try.prog.cellsOf 22 = 1 := by kernel_rfl
  have hL : Try.prog.cellsOf 23 = 1 := by kernel_rfl
  have hI : Try.prog.cellsOf 3 = 1 := by kernel_rfl
  match l, hsz.trans hC with
  | [c0, c1, c2, c3, c4, c5], _ =>
    obtain ⟨fuel, hf⟩ := h
    obtain ⟨xs, n, _, hx, _, hlen, hg⟩ := DataW.trod_struct Try.underlying25 hf
    match xs, hlen with
    | [y0, y1, y2, y3, y4, y5], _ =>
      have g0 : DataW.trod enc Try.prog W base spare held n 22 (List.take (Try.prog.cellsOf 22) (List.drop 0 [c0, c1, c2, c3, c4, c5])) = some y0 := hg 0 _ rfl
      rw [hE] at g0
      have g1 : DataW.trod enc Try.prog W base spare held n 23 (List.take (Try.prog.cellsOf 23) (List.drop 1 [c0, c1, c2, c3, c4, c5])) = some y1 := hg 1 _ rfl
      rw [hL] at g1
      have g2 : DataW.trod enc Try.prog W base spare held n 3 (List.take (Try.prog.cellsOf 3) (List.drop 2 [c0, c1, c2, c3, c4, c5])) = some y2 := hg 2 _ rfl
      rw [hI] at g2
      have g3 : DataW.trod enc Try.prog W base spare held n 3 (List.take (Try.prog.cellsOf 3) (List.drop 3 [c0, c1, c2, c3, c4, c5])) = some y3 := hg 3 _ rfl
      rw [hI] at g3
      have g4 : DataW.trod enc Try.prog W base spare held n 3 (List.take (Try.prog.cellsOf 3) (List.drop 4 [c0, c1, c2, c3, c4, c5])) = some y4 := hg 4 _ rfl
      rw [hI] at g4
      have g5 : DataW.trod enc Try.prog W base spare held n 3 (List.take (Try.prog.cellsOf 3) (List.drop 5 [c0, c1, c2, c3, c4, c5])) = some y5 := hg 5 _ rfl
      rw [hI] at g5
      obtain ⟨es, q0⟩ := elems_of_trod (v := c0) (x := y0) (by simpa using g0)
      obtain ⟨ls, q1⟩ := ints_of_trod (v := c1) (x := y1) (by simpa using g1)
      obtain ⟨a, q2, _⟩ := DataW.trod_int (cs := [c2]) (x := y2) Try.underlying3 (by simpa using g2)
      obtain ⟨b, q3, _⟩ := DataW.trod_int (cs := [c3]) (x := y3) Try.underlying3 (by simpa using g3)
      obtain ⟨c, q4, _⟩ := DataW.trod_int (cs := [c4]) (x := y4) Try.underlying3 (by simpa using g4)
      obtain ⟨d, q5, _⟩ := DataW.trod_int (cs := [c5]) (x := y5) Try.underlying3 (by simpa using g5)
      simp at q2 q3 q4 q5
      subst q2 q3 q4 q5
      exact ⟨⟨es, ls, a, b, c, d⟩, c0, c1, rfl, q0, q1⟩
end
end Go.Proofs.Ytpkmngkepmoikaa
