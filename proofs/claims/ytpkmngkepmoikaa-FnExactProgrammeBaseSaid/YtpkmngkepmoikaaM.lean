/- Words for memory: slices that read as lists, rows that the call owns. -/
import Derived.Test.YtpkmngkepmoikaaA
import Derived.Deep.Draws
import Derived.Deep.LoopGhost
import Derived.OwnWalk
import Derived.Deep.AppendLies
namespace Go.Proofs.Ytpkmngkepmoikaa
set_option linter.unusedVariables false
set_option linter.unusedSimpArgs false
open Go.RowKit

/-- 'v' is a slice of n elements whose cells read as xs -/
def Seq (w : World) (v : Value) (n : Nat) (xs : List Value) : Prop :=
  ∃ A c, v = .slice A n c ∧ n ≤ c ∧ c ≤ maxLen ∧ (A = none → c = 0) ∧ (0 < n → ∃ b o, A = some ⟨b, o, none⟩ ∧ b < w.heap.size ∧ ∀ j u, xs[j]? = some u → w.cell? ⟨b, o + j, none⟩ = some u)
/-- what the words above give, the slice written out -/
def SeqA (w : World) (A : Option Addr) (n : Nat) (xs : List Value) : Prop :=
  0 < n → ∃ b o, A = some ⟨b, o, none⟩ ∧ b < w.heap.size ∧ ∀ j u, xs[j]? = some u → w.cell? ⟨b, o + j, none⟩ = some u
theorem Seq.out {w : World} {v : Value} {n : Nat} {xs : List Value} (h : Seq w v n xs) : ∃ A c, v = .slice A n c ∧ n ≤ c ∧ c ≤ maxLen ∧ SeqA w A n xs := by
  obtain ⟨A, c, e, h1, h2, _, h3⟩ := h
  exact ⟨A, c, e, h1, h2, h3⟩
theorem SeqA.kept {w w' : World} {A : Option Addr} {n : Nat} {xs : List Value} (h : SeqA w A n xs) (hk : Kept w w') : SeqA w' A n xs := by
  intro hn
  obtain ⟨b, o, e, hb, hc⟩ := h hn
  exact ⟨b, o, e, Nat.lt_of_lt_of_le hb hk.size, fun j u hu => (hk.cell (p := ⟨b, o + j, none⟩) hb).trans (hc j u hu)⟩
theorem Seq.kept {w w' : World} {v : Value} {n : Nat} {xs : List Value} (h : Seq w v n xs) (hk : Kept w w') : Seq w' v n xs := by
  obtain ⟨A, c, e, h1, h2, h0, h3⟩ := h
  exact ⟨A, c, e, h1, h2, h0, SeqA.kept h3 hk⟩
theorem Seq.addr {w : World} {A : Option Addr} {n c : Nat} {xs : List Value} (h : Seq w (.slice A n c) n xs) : SeqA w A n xs := by
  obtain ⟨A', c', e, _, _, _, h3⟩ := h
  injection e with e1
  subst e1
  exact h3
theorem Seq.nil (w : World) : Seq w (.slice none 0 0) 0 [] := ⟨none, 0, rfl, Nat.le_refl _, Nat.zero_le _, fun _ => rfl, fun h => absurd h (by omega)⟩
theorem Seq.of_own {w : World} {base : Nat} {e : TypeId} {size : Nat} {v : Value} {n : Nat} {xs : List Value} (h : w.ownsRow base e size v n xs) : Seq w v n xs := by
  rcases h.2 with ⟨rfl, rfl⟩ | ⟨g, cap, cur, rfl, hb, hg, hnc, hcm, hcs, htake⟩
  · exact ⟨none, 0, rfl, Nat.le_refl _, Nat.zero_le _, fun _ => rfl, fun h => absurd h (by omega)⟩
  · refine ⟨_, cap, rfl, hnc, hcm, (fun h => by cases h), fun _ => ⟨g, 0, rfl, (Array.getElem?_eq_some_iff.1 hg).1, fun j u hu => ?_⟩⟩
    have hj : j < n * size := by
      have := (List.getElem?_eq_some_iff.1 hu).1
      rw [h.1] at this
      exact this
    rw [Nat.zero_add, h.cellAt j hj]
    exact hu
theorem SeqA.at_ {w : World} {A : Option Addr} {n : Nat} {xs : List Value} {j : Nat} {u : Value} (h : SeqA w A n xs) (hn : 0 < n) (hu : xs[j]? = some u) :
    ∃ b o, A = some ⟨b, o, none⟩ ∧ b < w.heap.size ∧ w.cell? ⟨b, o + j, none⟩ = some u := by
  obtain ⟨b, o, e, hb, hc⟩ := h hn
  exact ⟨b, o, e, hb, hc j u hu⟩

def Ints (w : World) (v : Value) (zs : List Int) : Prop := Seq w v zs.length (zs.map (Value.int .i64))
def OwnI (w : World) (base : Nat) (v : Value) (zs : List Int) : Prop := w.ownsRow base 3 1 v zs.length (zs.map (Value.int .i64))
theorem Ints.kept {w w' : World} {v : Value} {zs : List Int} (h : Ints w v zs) (hk : Kept w w') : Ints w' v zs := Seq.kept h hk
theorem OwnI.ints {w : World} {base : Nat} {v : Value} {zs : List Int} (h : OwnI w base v zs) : Ints w v zs := Seq.of_own h
theorem ints_at {w : World} {A : Option Addr} {zs : List Int} (h : SeqA w A zs.length (zs.map (Value.int .i64))) {k : Nat} (hk : k < zs.length) :
    ∃ b o z, A = some ⟨b, o, none⟩ ∧ b < w.heap.size ∧ zs[k]? = some z ∧ w.cell? ⟨b, o + k, none⟩ = some (.int .i64 z) := by
  have hz : zs[k]? = some zs[k] := List.getElem?_eq_getElem hk
  obtain ⟨b, o, e, hb, hc⟩ := h.at_ (j := k) (u := .int .i64 zs[k]) (by omega) (by rw [List.getElem?_map, hz]; rfl)
  exact ⟨b, o, _, e, hb, hz, hc⟩

theorem take_snoc {α : Type} {l : List α} {k : Nat} {x : α} (h : l[k]? = some x) : l.take (k + 1) = l.take k ++ [x] := by
  rw [List.take_add_one, h]; rfl
theorem all_snoc {α : Type} {l : List α} {k : Nat} {x : α} {p : α → Bool} (h : l[k]? = some x) (ha : (l.take k).all p = true) (hx : p x = true) : (l.take (k + 1)).all p = true := by
  rw [take_snoc h, List.all_append, ha]; simp [hx]
theorem all_not {α : Type} {l : List α} {k : Nat} {x : α} {p : α → Bool} (h : l[k]? = some x) (hx : p x = false) : l.all p = false := by
  rw [List.all_eq_false]
  obtain ⟨hk, e⟩ := List.getElem?_eq_some_iff.1 h
  exact ⟨x, by rw [← e]; exact List.getElem_mem hk, by simp [hx]⟩
theorem all_full {α : Type} {l : List α} {k : Nat} {p : α → Bool} (hk : l.length ≤ k) (ha : (l.take k).all p = true) : l.all p = true := by
  rwa [List.take_of_length_le hk] at ha

theorem info_int : (Try.prog.info? 3).map (fun i => (i.zero, i.size, i.bytes)) = some (some (.int .i64 0), 1, 8) := by kernel_rfl

theorem own_at {w : World} {base : Nat} {e : TypeId} {size n cap g : Nat} {xs : List Value} (h : w.ownsRow base e size (.slice (some ⟨g, 0, none⟩) n cap) n xs) {j : Nat} (hj : j < n * size) :
    ∃ u, xs[j]? = some u ∧ w.cell? ⟨g, j, none⟩ = some u ∧ w.frozen? ⟨g, j, none⟩ = false := by
  have hx : xs[j]? = some (xs[j]'(by rw [h.1]; exact hj)) := List.getElem?_eq_getElem _
  exact ⟨_, hx, (h.cellAt j hj).trans hx, h.frozenAt j⟩
theorem set_take {α : Type} {xs ys : List α} {k : Nat} {u : α} (hk : k < xs.length) (ht : xs.take k = ys.take k) (hu : ys[k]? = some u) : (xs.set k u).take (k + 1) = ys.take (k + 1) := by
  rw [take_snoc hu, ← ht, take_snoc (x := u) (by rw [List.getElem?_set_self hk])]
  congr 1
  rw [List.take_set_of_le (Nat.le_refl k)]
theorem take_full {α : Type} {xs ys : List α} {n : Nat} (h1 : xs.length = n) (h2 : ys.length = n) (ht : xs.take n = ys.take n) : xs = ys := by
  rwa [List.take_of_length_le (by omega), List.take_of_length_le (by omega)] at ht

set_option maxHeartbeats 400000 in
theorem toIntS_any (v : Value) (zs : List Int) (w : World) (h : Ints w v zs) (hn : zs.length ≤ 1048576) :
    Calls Try.prog 18 #[v] w fun e w' => ∃ v', e = .returned v' ∧ OwnI w' w.heap.size v' zs ∧ Kept w w' := by
  obtain ⟨A, c, rfl, hnc, hcm, hl⟩ := h.out
  obtain ⟨i0, hi, hz0, hz1, hz2⟩ := info_parts info_int
  have HL := Lib.hid hl
  clear hl h
  go_enter Try.func18, Try.ntmps18
  go_wp2_with (at_make; refine wpList_make_full _ rfl _ _ 23 rfl w.heap.size 3 i0 _ 1 Try.underlying23 hi hz0 hz1 _ _ _ _ zs.length rfl rfl rfl rfl (by rw [hz2]; omega) (by unfold maxLen; omega) (Nat.le_refl _) ?_; intro w1 hown hgrow)
  have hk1 : Kept w w1 := (Below.refl _ _).grown hgrow (Nat.le_refl _) (by intro k hk; cases hk)
  clear hgrow
  go_loopw [4] (fun i wr => ∃ (k : Nat) (xs : List Value), k ≤ zs.length ∧ i = .int .i64 k ∧ wr.ownsRow w.heap.size 3 1 (.slice (some ⟨w.heap.size, 0, none⟩) zs.length zs.length) zs.length xs ∧ xs.take k = (zs.map (Value.int .i64)).take k ∧ Kept w wr) (fun i _ => zs.length - (intOf i).toNat)
  case atStart => exact ⟨0, _, Nat.zero_le _, rfl, hown, rfl, hk1⟩
  case round =>
    clear hown hk1
    obtain ⟨k, xs, hk, rfl, ho, ht, hkept⟩ := hrel
    have hlen : xs.length = zs.length := by simpa using ho.1
    by_cases hlt : k < zs.length
    · obtain ⟨b, o, z, rfl, hb, hz, hc⟩ := ints_at (HL.out.kept hkept) hlt
      obtain ⟨u0, hx, hd, hf⟩ := own_at ho (j := k) (by omega)
      have hst := ho.stored k (.int .i64 z)
      have HS := Lib.hid hst
      have HT := Lib.hid ht
      have HO := Lib.hid hlen
      have HZ := Lib.hid hz
      clear hst ht hx hlen hz ho
      go_wp2
      go_roundw
      case rel => exact ⟨k + 1, _, by omega, by go_num, HS.out.1, set_take (by rw [HO.out]; exact hlt) HT.out (by rw [List.getElem?_map, HZ.out]; rfl), Below.setCell hkept (Nat.le_refl _) _⟩
      case measure => simp [intOf]; omega
    · obtain rfl : k = zs.length := by omega
      have e := take_full (n := zs.length) hlen (by simp) ht
      subst e
      have HO := Lib.hid ho
      clear ho ht hlen
      go_wp2
      go_ret
      exact ⟨_, rfl, HO.out, hkept⟩
theorem eqIntS_any (v1 v2 : Value) (zs ys : List Int) (w : World) (h1 : Ints w v1 zs) (h2 : Ints w v2 ys) :
    Calls Try.prog 20 #[v1, v2] w fun e w' => e = .returned (.bool (decide (zs = ys))) ∧ Kept w w' := by
  obtain ⟨A, c, rfl, hnc, hcm, hl⟩ := h1.out
  obtain ⟨A2, c2, rfl, hnc2, hcm2, hl2⟩ := h2.out
  unfold maxLen at hcm hcm2
  have HL := Lib.hid hl
  have HL2 := Lib.hid hl2
  clear hl h1 hl2 h2
  by_cases hlen : zs.length = ys.length
  · have hne : ((zs.length : Int) != (ys.length : Int)) = false := by simp [hlen]
    have HN := Lib.hid hlen
    clear hlen
    go_enter Try.func20, Try.ntmps20
    go_wp2
    go_loopw [5] (fun i wr => ∃ k : Nat, k ≤ zs.length ∧ i = .int .i64 k ∧ zs.take k = ys.take k ∧ Kept w wr) (fun i _ => zs.length - (intOf i).toNat)
    case atStart => exact ⟨0, Nat.zero_le _, rfl, rfl, Kept.refl _⟩
    case round =>
      obtain ⟨k, hk, rfl, ht, hkept⟩ := hrel
      have HT := Lib.hid ht
      clear ht
      by_cases hlt : k < zs.length
      · have hlt2 : k < ys.length := by rw [← HN.out]; exact hlt
        obtain ⟨b, o, z, rfl, hb, hz, hc⟩ := ints_at (HL.out.kept hkept) hlt
        obtain ⟨b2, o2, z2, rfl, hb2, hz2, hc2⟩ := ints_at (HL2.out.kept hkept) hlt2
        have HZ := Lib.hid hz
        have HZ2 := Lib.hid hz2
        clear hz hz2
        go_wp2
        go_quiet (fail)
        go_wp2
        · have hzz : (z != z2) = true := by assumption
          go_ret
          refine ⟨?_, hkept.drewN _⟩
          have : ¬ zs = ys := fun e => by
            have e1 := HZ.out
            rw [e, HZ2.out] at e1
            simp at e1
            simp [e1] at hzz
          simp [this]
        · have hzz : (z != z2) = false := by assumption
          go_roundw
          case rel =>
            refine ⟨k + 1, by omega, by go_num, ?_, hkept.drewN _⟩
            have : z = z2 := by simpa using hzz
            subst this
            rw [take_snoc HZ.out, take_snoc HZ2.out, HT.out]
          case measure => simp [intOf]; omega
      · obtain rfl : k = zs.length := by omega
        go_wp2
        go_ret
        have e := take_full rfl HN.out.symm HT.out
        exact ⟨by simp [e], hkept⟩
  · have hne : ((zs.length : Int) != (ys.length : Int)) = true := by simp; omega
    have hz : ¬ zs = ys := fun e => hlen (by rw [e])
    have HZ := Lib.hid hz
    clear hz
    go_enter Try.func20, Try.ntmps20
    go_wp2
    go_ret
    exact ⟨by simp [HZ.out], Kept.refl _⟩
theorem l1All_any (v : Value) (zs : List Int) (lo hi : Int) (w : World) (h : Ints w v zs) :
    Calls Try.prog 67 #[v, .int .i64 lo, .int .i64 hi] w fun e w' => e = .returned (.bool (zs.all (inB · lo hi))) ∧ w = w' := by
  obtain ⟨A, c, rfl, hnc, hcm, hl⟩ := h.out
  unfold maxLen at hcm
  have HL := Lib.hid hl
  clear hl h
  go_enter Try.func67, Try.ntmps67
  go_wp2
  go_loop [11] (fun i => ∃ k : Nat, k ≤ zs.length ∧ i = .int .i64 k ∧ (zs.take k).all (inB · lo hi) = true) (fun i => zs.length - (intOf i).toNat)
  case atStart => exact ⟨0, Nat.zero_le _, rfl, rfl⟩
  case round =>
    obtain ⟨k, hk, rfl, ha⟩ := hrel
    have HA := Lib.hid ha
    clear ha
    by_cases hlt : k < zs.length
    · obtain ⟨b, o, z, rfl, hb, hz, hc⟩ := ints_at HL.out hlt
      have HZ := Lib.hid hz
      clear hz
      go_wp2_with (go_at_call 66; refine (l1In_any _ _ _ _).mono ?_; rintro e w' ⟨rfl, rfl⟩)
      · have hx : (!inB z lo hi) = true := by assumption
        go_ret
        exact ⟨ret_bool (all_not (p := (inB · lo hi)) HZ.out (by simpa using hx)).symm, rfl⟩
      · have hx : (!inB z lo hi) = false := by assumption
        go_round
        case rel => exact ⟨k + 1, by omega, by go_num, all_snoc HZ.out HA.out (by simpa using hx)⟩
        case measure => simp [intOf]; omega
    · go_wp2
      go_ret
      exact ⟨ret_bool (all_full (by omega) HA.out).symm, rfl⟩
theorem allWithin_any (v : Value) (zs : List Int) (lo hi : Int) (w : World) (h : Ints w v zs) :
    Calls Try.prog 70 #[v, .int .i64 lo, .int .i64 hi] w fun e w' => e = .returned (.bool (zs.all (inB · lo hi))) ∧ w = w' := by
  obtain ⟨A, c, rfl, hnc, hcm, hl⟩ := h.out
  unfold maxLen at hcm
  have HL := Lib.hid hl
  clear hl h
  go_enter Try.func70, Try.ntmps70
  go_wp2
  go_loop [11] (fun i => ∃ k : Nat, k ≤ zs.length ∧ i = .int .i64 k ∧ (zs.take k).all (inB · lo hi) = true) (fun i => zs.length - (intOf i).toNat)
  case atStart => exact ⟨0, Nat.zero_le _, rfl, rfl⟩
  case round =>
    obtain ⟨k, hk, rfl, ha⟩ := hrel
    have HA := Lib.hid ha
    clear ha
    by_cases hlt : k < zs.length
    · obtain ⟨b, o, z, rfl, hb, hz, hc⟩ := ints_at HL.out hlt
      have HZ := Lib.hid hz
      clear hz
      go_wp2_with (go_at_call 69; refine (within_any _ _ _ _).mono ?_; rintro e w' ⟨rfl, rfl⟩)
      · have hx : (!inB z lo hi) = true := by assumption
        go_ret
        exact ⟨ret_bool (all_not (p := (inB · lo hi)) HZ.out (by simpa using hx)).symm, rfl⟩
      · have hx : (!inB z lo hi) = false := by assumption
        go_round
        case rel => exact ⟨k + 1, by omega, by go_num, all_snoc HZ.out HA.out (by simpa using hx)⟩
        case measure => simp [intOf]; omega
    · go_wp2
      go_ret
      exact ⟨ret_bool (all_full (by omega) HA.out).symm, rfl⟩
end Go.Proofs.Ytpkmngkepmoikaa
