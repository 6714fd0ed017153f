/- Contracts of functions that the proof leans on. No condition. -/
import Derived.Test.YtldinfdbkffdpaaGreatDoorMfaabb37b97
import Derived.Below
import Derived.Deep.RegionHeld3
import Derived.Deep.DeepCutAuto
import Derived.Sort.Grow
import Derived.Deep.AppendLies
import Derived.Test.YtldinfdbkffdpaaGreatDoorShelf
/- Fractions, plain: what the law FnParts asks of them. -/
namespace Go.Proofs.YtldinfdbkffdpaaGreatDoor
set_option linter.unusedVariables false
set_option linter.unusedSimpArgs false

theorem rnd_modes {a b c : Int} (h : rndOk a b c = true) : rndOk a b (-1) = true ∧ rndOk a b 1 = true ∧ partB a b = true := by
  unfold rndOk at h ⊢
  rw [Bool.and_eq_true] at h
  rw [h.1]
  exact ⟨by decide, by decide, rfl⟩
theorem rnd_facts {a b c : Int} (h : rndOk a b c = true) : rndV a b (-1) * b ≤ a ∧ a ≤ rndV a b 1 * b ∧ rndV a b 1 - rndV a b (-1) ≤ 1 ∧ rndV a b (-1) ≤ rndV a b c ∧ rndV a b c ≤ rndV a b 1 := by
  obtain ⟨h1, h2, hp⟩ := rnd_modes h
  obtain ⟨ha0, ha1, hb0, hb1⟩ := partB_true hp
  have hm : inB c (-1) 1 = true := by unfold rndOk at h; rw [Bool.and_eq_true] at h; exact h.2
  have hc := inB_true hm
  have e1 : rndV a b (-1) = a / b := by unfold rndV; rw [if_pos h1]; unfold poMd; rw [if_pos rfl]
  have e2 : rndV a b 1 = -(-a / b) := by unfold rndV; rw [if_pos h2]; unfold poMd; rw [if_neg (by decide), if_neg (by decide)]
  have e3 : rndV a b c = poMd a b c := by unfold rndV; rw [if_pos h]
  rw [e1, e2, e3]
  clear e1 e2 e3
  have q1 := Int.ediv_mul_le a (b := b) (by omega)
  have q2 := Int.lt_ediv_add_one_mul_self a (b := b) (by omega)
  have r1 := Int.ediv_mul_le (-a) (b := b) (by omega)
  have r2 := Int.lt_ediv_add_one_mul_self (-a) (b := b) (by omega)
  have p1 := Int.ediv_mul_le (2 * a + b) (b := 2 * b) (by omega)
  have p2 := Int.lt_ediv_add_one_mul_self (2 * a + b) (b := 2 * b) (by omega)
  unfold poMd
  generalize a / b = q at *
  generalize (2 * a + b) / (2 * b) = p at *
  generalize -a / b = r at *
  have e1 : (q + 1) * b = q * b + b := by rw [Int.add_mul, Int.one_mul]
  have e2 : (r + 1) * b = r * b + b := by rw [Int.add_mul, Int.one_mul]
  have e3 : p * (2 * b) = 2 * (p * b) := by rw [Int.mul_left_comm]
  have e4 : (p + 1) * (2 * b) = 2 * (p * b) + 2 * b := by rw [Int.add_mul, Int.one_mul, e3]
  have e5 : -r * b = -(r * b) := by rw [Int.neg_mul]
  rw [e1] at q2
  rw [e2] at r2
  rw [e3] at p1
  rw [e4] at p2
  have cmp : ∀ {x y : Int}, x * b < y * b + b → x ≤ y := fun {x y} hh => by
    have h3 : x * b < (y + 1) * b := by rw [Int.add_mul, Int.one_mul]; exact hh
    have := Int.lt_of_mul_lt_mul_right h3 (by omega)
    omega
  have k1 : -r ≤ q + 1 := cmp (by rw [e5, e1]; omega)
  have k2 : q ≤ p := cmp (by omega)
  have k3 : p ≤ -r := cmp (by rw [e5]; omega)
  have k4 : q ≤ -r := by omega
  refine ⟨q1, by rw [e5]; omega, by omega, ?_, ?_⟩
  · split
    · exact Int.le_refl _
    · split
      · exact k2
      · exact k4
  · split
    · exact k4
    · split
      · exact k3
      · exact Int.le_refl _
theorem rnd_bd {a b c : Int} (h : rndOk a b c = true) : -1000000000001 ≤ rndV a b c ∧ rndV a b c ≤ 1000000000001 := by
  obtain ⟨h1, h2, hp⟩ := rnd_modes h
  obtain ⟨ha0, ha1, hb0, hb1⟩ := partB_true hp
  obtain ⟨f1, f2, f3, f4, f5⟩ := rnd_facts h
  have e1 : rndV a b (-1) = a / b := by unfold rndV; rw [if_pos h1]; unfold poMd; rw [if_pos rfl]
  have l1 : -1000000000000 ≤ a / b := by
    refine Int.le_ediv_of_mul_le (by omega) ?_
    omega
  have l2 : a / b ≤ 1000000000000 := by
    have q1 := Int.ediv_mul_le a (b := b) (by omega)
    rcases Int.le_total (a / b) 0 with hh | hh
    · omega
    · have := Int.mul_le_mul_of_nonneg_left (show (1 : Int) ≤ b by omega) hh
      omega
  omega
theorem low_facts {c d : Int} (h : partB c d = true) : partB (lowT c d) (lowB c d) = true ∧ cmpV c d (lowT c d) (lowB c d) = 0 := by
  obtain ⟨hc0, hc1, hd0, hd1⟩ := partB_true h
  have hgp := gcd_pos (a := c) (b := d) hd0
  obtain ⟨x, hx⟩ := Int.gcd_dvd_left (a := c) (b := d)
  obtain ⟨y, hy⟩ := Int.gcd_dvd_right (a := c) (b := d)
  have e0 : lowT c d = c.tdiv (Int.gcd c d) ∧ lowB c d = d / (Int.gcd c d) := by unfold lowT lowB; rw [if_pos h, if_pos h]; exact ⟨rfl, rfl⟩
  rw [e0.1, e0.2]
  clear e0
  have hb := tdiv_bd c (Int.gcd c d) 1000000000000 hc0 hc1
  obtain ⟨g, hg⟩ : ∃ g : Int, g = (Int.gcd c d : Int) := ⟨_, rfl⟩
  have hg1 : 1 ≤ g := by omega
  rw [← hg] at hx hy hb ⊢
  clear hg hgp
  have e1 : c.tdiv g = x := by rw [hx]; exact Int.mul_tdiv_cancel_left x (by omega)
  have e2 : d / g = y := by rw [hy]; exact Int.mul_ediv_cancel_left y (by omega)
  rw [e1] at hb ⊢
  rw [e2]
  have hy1 : 1 ≤ y := by
    rcases Int.lt_or_le 0 y with h0 | h0
    · omega
    · have := Int.mul_nonneg (show (0 : Int) ≤ g by omega) (show (0 : Int) ≤ -y by omega)
      rw [Int.mul_neg] at this
      omega
  have hy2 : y ≤ d := by
    have := Int.mul_nonneg (show (0 : Int) ≤ g - 1 by omega) (show (0 : Int) ≤ y by omega)
    rw [Int.sub_mul, Int.one_mul] at this
    omega
  have hp : partB x y = true := by
    unfold partB inB
    simp
    omega
  refine ⟨hp, ?_⟩
  unfold cmpV
  rw [h, hp]
  simp only [Bool.and_self, if_true]
  have : c * y - x * d = 0 := by
    rw [hx, hy, Int.mul_assoc g x y, Int.mul_left_comm x g y, Int.sub_self]
  rw [this]
  rfl
theorem cmp_back (a b c d : Int) : cmpV c d a b = -cmpV a b c d ∧ (partB c d && partB a b) = (partB a b && partB c d) := by
  refine ⟨?_, Bool.and_comm _ _⟩
  unfold cmpV
  rw [Bool.and_comm (partB c d)]
  cases partB a b && partB c d with
  | false => rfl
  | true =>
    simp only [if_true]
    unfold sgn
    have : c * b - a * d = -(a * d - c * b) := by omega
    rw [this]
    generalize a * d - c * b = n
    by_cases h1 : 0 < n
    · rw [if_pos h1, if_neg (by omega), if_pos (by omega)]
    · by_cases h2 : n < 0
      · rw [if_neg h1, if_pos h2, if_pos (by omega)]; rfl
      · rw [if_neg h1, if_neg h2, if_neg (by omega), if_neg (by omega)]; rfl
theorem cmp_bd (a b c d : Int) : -1 ≤ cmpV a b c d ∧ cmpV a b c d ≤ 1 := by
  unfold cmpV
  split
  · unfold sgn
    split
    · omega
    · split <;> omega
  · omega
/-- the least and the greatest of the first k numbers (and of the first one) -/
def lowN (zs : List Int) (k : Nat) : Int := (zs.take k).foldl (fun l n => if n < l then n else l) (zs.headD 0)
def highN (zs : List Int) (k : Nat) : Int := (zs.take k).foldl (fun l n => if n > l then n else l) (zs.headD 0)
theorem lowN_succ {zs : List Int} {k : Nat} {z : Int} (h : zs[k]? = some z) : lowN zs (k + 1) = if z < lowN zs k then z else lowN zs k := by unfold lowN; rw [take_snoc h, List.foldl_append]; rfl
theorem highN_succ {zs : List Int} {k : Nat} {z : Int} (h : zs[k]? = some z) : highN zs (k + 1) = if z > highN zs k then z else highN zs k := by unfold highN; rw [take_snoc h, List.foldl_append]; rfl
theorem low_sum {zs : List Int} : ∀ k, k ≤ zs.length → lowN zs k * k ≤ (zs.take k).sum ∧ (zs.take k).sum ≤ highN zs k * k
  | 0, _ => by simp
  | k + 1, hk => by
    obtain ⟨i1, i2⟩ := low_sum (zs := zs) k (by omega)
    have hz : zs[k]? = some zs[k] := List.getElem?_eq_getElem (by omega)
    rw [lowN_succ hz, highN_succ hz, take_snoc hz, List.sum_append, List.sum_cons, List.sum_nil]
    generalize zs[k] = z at *
    generalize (zs.take k).sum = s at *
    generalize lowN zs k = l at *
    generalize highN zs k = u at *
    have hk0 : (0 : Int) ≤ (k : Int) := by omega
    rw [Int.natCast_succ, Int.mul_add, Int.mul_add, Int.mul_one, Int.mul_one]
    constructor
    · split
      · have := Int.mul_le_mul_of_nonneg_right (show z ≤ l by omega) hk0
        omega
      · omega
    · split
      · have := Int.mul_le_mul_of_nonneg_right (show u ≤ z by omega) hk0
        omega
      · omega
theorem low_bd {zs : List Int} (h : ∀ n ∈ zs, -1000000 ≤ n ∧ n ≤ 1000000) : ∀ k, k ≤ zs.length → (-1000000 ≤ lowN zs k ∧ lowN zs k ≤ 1000000) ∧ (-1000000 ≤ highN zs k ∧ highN zs k ≤ 1000000)
  | 0, _ => by
    unfold lowN highN
    cases zs with
    | nil => simp
    | cons a t => have := h a (by simp); simp; omega
  | k + 1, hk => by
    obtain ⟨i1, i2⟩ := low_bd h k (by omega)
    have hz : zs[k]? = some zs[k] := List.getElem?_eq_getElem (by omega)
    have := h zs[k] (List.getElem_mem _)
    rw [lowN_succ hz, highN_succ hz]
    constructor
    · split <;> omega
    · split <;> omega
theorem pts_bd {zs : List Int} (h : ptsB zs = true) : zs.length ≤ 60 ∧ ∀ n ∈ zs, -1000000 ≤ n ∧ n ≤ 1000000 := by
  obtain ⟨h1, h2⟩ := ptsB_true h
  exact ⟨h1, fun n hn => inB_true (List.all_eq_true.1 h2 n hn)⟩
/-- the mean: what the law asks at the end -/
theorem mean_facts {zs : List Int} (h : meanOk zs = true) : ptsB zs = true ∧ 0 < zs.length ∧ meanT zs * zs.length = zs.sum * meanB zs ∧ lowN zs zs.length * meanB zs ≤ meanT zs ∧ meanT zs ≤ highN zs zs.length * meanB zs ∧
    (-60000000 ≤ meanT zs ∧ meanT zs ≤ 60000000) ∧ 1 ≤ meanB zs ∧ meanB zs ≤ 60 ∧ -60000000 ≤ zs.sum ∧ zs.sum ≤ 60000000 := by
  have h0 := h
  unfold meanOk at h0
  simp only [Bool.and_eq_true, Bool.not_eq_true', beq_eq_false_iff_ne] at h0
  obtain ⟨hp, hne⟩ := h0
  have hn : 0 < zs.length := by omega
  obtain ⟨hl60, hb⟩ := pts_bd hp
  have hsb := low_sum (zs := zs) zs.length (Nat.le_refl _)
  have hlb := low_bd hb zs.length (Nat.le_refl _)
  rw [List.take_length] at hsb
  have hd0 : (1 : Int) ≤ (zs.length : Int) := by omega
  have hgp := gcd_pos (a := zs.sum) (b := (zs.length : Int)) hd0
  obtain ⟨x, hx⟩ := Int.gcd_dvd_left (a := zs.sum) (b := (zs.length : Int))
  obtain ⟨y, hy⟩ := Int.gcd_dvd_right (a := zs.sum) (b := (zs.length : Int))
  have e0 : meanT zs = zs.sum.tdiv (Int.gcd zs.sum zs.length) ∧ meanB zs = (zs.length : Int) / (Int.gcd zs.sum zs.length) := by unfold meanT meanB; rw [if_pos h, if_pos h]; exact ⟨rfl, rfl⟩
  rw [e0.1, e0.2]
  clear e0
  have hS : -60000000 ≤ zs.sum ∧ zs.sum ≤ 60000000 := by
    have h1 := Int.mul_le_mul_of_nonneg_right hlb.1.1 (show (0 : Int) ≤ (zs.length : Int) by omega)
    have h2 := Int.mul_le_mul_of_nonneg_right hlb.2.2 (show (0 : Int) ≤ (zs.length : Int) by omega)
    have h3 : (zs.length : Int) ≤ 60 := by omega
    omega
  have hbd := tdiv_bd zs.sum (Int.gcd zs.sum zs.length) 60000000 hS.1 hS.2
  obtain ⟨g, hg⟩ : ∃ g : Int, g = (Int.gcd zs.sum zs.length : Int) := ⟨_, rfl⟩
  have hg1 : 1 ≤ g := by omega
  rw [← hg] at hx hy hbd ⊢
  clear hg hgp
  have e1 : zs.sum.tdiv g = x := by rw [hx]; exact Int.mul_tdiv_cancel_left x (by omega)
  have e2 : (zs.length : Int) / g = y := by rw [hy]; exact Int.mul_ediv_cancel_left y (by omega)
  rw [e1] at hbd ⊢
  rw [e2]
  have hy1 : 1 ≤ y := by
    rcases Int.lt_or_le 0 y with h0 | h0
    · omega
    · have := Int.mul_nonneg (show (0 : Int) ≤ g by omega) (show (0 : Int) ≤ -y by omega)
      rw [Int.mul_neg] at this
      omega
  have hy2 : y ≤ (zs.length : Int) := by
    have := Int.mul_nonneg (show (0 : Int) ≤ g - 1 by omega) (show (0 : Int) ≤ y by omega)
    rw [Int.sub_mul, Int.one_mul] at this
    omega
  obtain ⟨s1, s2⟩ := hsb
  generalize lowN zs zs.length = l at *
  generalize highN zs zs.length = u at *
  have cancel : ∀ {p q : Int}, g * p ≤ g * q → p ≤ q := fun {p q} hh => Int.le_of_mul_le_mul_left hh (by omega)
  refine ⟨hp, hn, ?_, ?_, ?_, hbd, hy1, by omega, hS.1, hS.2⟩
  · rw [hy, hx, Int.mul_left_comm x g y, Int.mul_assoc g x y]
  · apply cancel
    rw [Int.mul_left_comm, ← hy, ← hx]
    exact s1
  · apply cancel
    rw [Int.mul_left_comm, ← hy, ← hx]
    exact s2
end Go.Proofs.YtldinfdbkffdpaaGreatDoor

/- Plain facts on sorted lists of numbers. -/
namespace Go.Proofs.YtldinfdbkffdpaaGreatDoor
set_option linter.unusedVariables false
set_option linter.unusedSimpArgs false

def Desc (l : List Int) : Prop := l.Pairwise fun x y => y ≤ x
theorem desc_unique : ∀ (l m : List Int), l.Perm m → Desc l → Desc m → l = m := by
  intro l
  induction l with
  | nil => intro m h _ _; exact (List.Perm.nil_eq h)
  | cons x l ih =>
    intro m h hl hm
    cases m with
    | nil => exact absurd h.symm (List.not_perm_nil_cons _ _)
    | cons y m =>
      have hx : x ∈ y :: m := h.subset (List.mem_cons_self)
      have hy : y ∈ x :: l := h.symm.subset (List.mem_cons_self)
      have hl' := List.pairwise_cons.1 hl
      have hm' := List.pairwise_cons.1 hm
      have h1 : y ≤ x := by
        rcases List.mem_cons.1 hy with e | e
        · omega
        · exact hl'.1 y e
      have h2 : x ≤ y := by
        rcases List.mem_cons.1 hx with e | e
        · omega
        · exact hm'.1 x e
      have e : x = y := by omega
      subst e
      rw [ih m (List.Perm.cons_inv h) hl'.2 hm'.2]
theorem desc_mergeSort (zs : List Int) : Desc ((zs.mergeSort fun x y => decide (x ≤ y)).reverse) := by
  unfold Desc
  rw [List.pairwise_reverse]
  have h := List.pairwise_mergeSort (le := fun x y : Int => decide (x ≤ y)) (by intro a b c h1 h2; simp at *; omega) (by intro a b; simp; omega) zs
  exact h.imp (by simp)
theorem desc_is {zs os : List Int} (hp : os.Perm zs) (hd : Desc os) : os = (zs.mergeSort fun x y => decide (x ≤ y)).reverse :=
  desc_unique _ _ (hp.trans ((List.reverse_perm _).trans (List.mergeSort_perm _ _)).symm) hd (desc_mergeSort zs)
theorem desc_ins {os : List Int} {n : Int} {k : Nat} (hd : Desc os) (hk : k ≤ os.length) (h1 : ∀ j x, k ≤ j → os[j]? = some x → x < n) (h2 : ∀ x, 0 < k → os[k - 1]? = some x → n ≤ x) :
    Desc (os.take k ++ n :: os.drop k) := by
  unfold Desc
  rw [List.pairwise_append]
  refine ⟨hd.sublist (List.take_sublist _ _), ?_, ?_⟩
  · rw [List.pairwise_cons]
    refine ⟨fun y hy => ?_, hd.sublist (List.drop_sublist _ _)⟩
    obtain ⟨j, hj⟩ := List.getElem?_of_mem hy
    rw [List.getElem?_drop] at hj
    have := h1 _ _ (by omega) hj
    omega
  · intro a ha b hb
    obtain ⟨i, hi⟩ := List.getElem?_of_mem ha
    have hik : i < k := by
      have := (List.getElem?_eq_some_iff.1 hi).1
      rw [List.length_take] at this
      omega
    rw [List.getElem?_take_of_lt hik] at hi
    have hlt : k - 1 < os.length := by omega
    have hk1 : os[k - 1]? = some os[k - 1] := List.getElem?_eq_getElem hlt
    have hn := h2 _ (by omega) hk1
    have hle : os[k - 1] ≤ a := by
      obtain ⟨hi', e⟩ := List.getElem?_eq_some_iff.1 hi
      rcases Nat.lt_or_ge i (k - 1) with hlt' | hge
      · have := List.pairwise_iff_getElem.1 hd i (k - 1) hi' hlt hlt'
        omega
      · have : i = k - 1 := by omega
        subst this
        omega
    rcases List.mem_cons.1 hb with e | e
    · omega
    · obtain ⟨j, hj⟩ := List.getElem?_of_mem e
      rw [List.getElem?_drop] at hj
      have := h1 _ _ (by omega) hj
      omega
theorem perm_ins {os l : List Int} {n : Int} {k : Nat} (hp : os.Perm l) : (os.take k ++ n :: os.drop k).Perm (l ++ [n]) := by
  refine List.perm_middle.trans ?_
  rw [List.take_append_drop]
  exact (List.Perm.cons n hp).trans (List.perm_append_singleton n l).symm
end Go.Proofs.YtldinfdbkffdpaaGreatDoor

/- Points: sorted points. -/
namespace Go.Proofs.YtldinfdbkffdpaaGreatDoor
set_option linter.unusedVariables false
set_option linter.unusedSimpArgs false
open Go.RowKit

theorem own_cases {w : World} {base : Nat} {v : Value} {zs : List Int} (h : OwnI w base v zs) : (v = .slice none 0 0 ∧ zs = []) ∨ ∃ g cap, v = .slice (some ⟨g, 0, none⟩) zs.length cap ∧ zs.length ≤ cap ∧ cap ≤ maxLen := by
  rcases h.2 with ⟨e1, e2⟩ | ⟨g, cap, cur, e1, _, _, e4, e5, _⟩
  · exact .inl ⟨e1, List.eq_nil_of_length_eq_zero e2⟩
  · exact .inr ⟨g, cap, e1, e4, e5⟩
set_option maxRecDepth 100000 in
set_option maxHeartbeats 16000000 in
theorem poSorted_any (v : Value) (zs : List Int) (w : World) (h : Ints w v zs) (hl : zs.length ≤ 60) :
    Calls Tryz.prog 43 #[v] w fun e w' => ∃ v' os, e = .returned v' ∧ OwnI w' w.heap.size v' os ∧ os.Perm zs ∧ Desc os ∧ Kept w w' := by
  obtain ⟨A, c, rfl, hnc, hcm, hA⟩ := h.out
  unfold maxLen at hcm
  have HA := Lib.hid hA
  clear hA h
  go_enter Tryz.func43, Tryz.ntmps43
  go_wp2_with fail
  go_loopw [3, 9] (fun s3 s9 wr => ∃ (j : Nat) (os : List Int), j ≤ zs.length ∧ s9 = .int .i64 j ∧ OwnI wr w.heap.size s3 os ∧ os.Perm (zs.take j) ∧ Desc os ∧ Kept w wr) (fun _ i _ => zs.length - (intOf i).toNat)
  case atStart => exact ⟨0, [], Nat.zero_le _, rfl, ⟨by simp, .inl ⟨rfl, rfl⟩⟩, .refl _, List.Pairwise.nil, Kept.refl _⟩
  case round =>
    obtain ⟨j, os, hj, rfl, ho, hp, hd, hkept⟩ := hrel
    have hol : os.length ≤ 60 := by have q := hp.length_eq; rw [List.length_take] at q; omega
    have HP := Lib.hid hp
    have HD := Lib.hid hd
    clear hp hd
    by_cases hlt : j < zs.length
    · obtain ⟨b, o, z, rfl, hb, hz, hc⟩ := ints_at (HA.out.kept hkept) hlt
      have HZ := Lib.hid hz
      clear hz
      rcases own_cases ho with ⟨rfl, rfl⟩ | ⟨g, cap, rfl, hcap1, hcap2⟩
      · have HO := Lib.hid ho
        clear ho
        go_wp2_with fail
        go_loop [6] (fun s6 => s6 = .int .i64 0) (fun _ => 0)
        case atStart => rfl
        case round =>
          subst hrel
          have HTO : Hid (Ints wr (.slice none 0 0) (([] : List Int).take 0)) := Lib.hid (Seq.nil wr)
          have HFR : Hid (Ints wr (.slice none 0 0) (([] : List Int).drop 0)) := Lib.hid (Seq.nil wr)
          have HLT : Hid ((([] : List Int).take 0 ++ [z]).length + (([] : List Int).drop 0).length ≤ 16777216) := Lib.hid (by simp)
          go_wp2_with fail
          have bA : Box (wr.alloc (.cells #[] 3)).drew wr.heap.size 3 #[] := Box.new wr _ _ _ rfl
          have bB : Box ((wr.alloc (.cells #[] 3)).alloc (.cells #[.int .i64 z] 3)).drew wr.heap.size 3 #[] := (Box.new wr wr.heap.size _ _ rfl).alloc _
          have bC : Box ((wr.alloc (.cells #[.int .i64 z] 3)).alloc (.cells #[] 3)).drew (wr.heap.size + 1) 3 #[] := Box.new (wr.alloc (.cells #[.int .i64 z] 3)) _ _ _ (by simp)
          have vB : Box ((wr.alloc (.cells #[] 3)).alloc (.cells #[.int .i64 z] 3)).drew (wr.heap.size + 1) 3 #[.int .i64 z] := Box.new (wr.alloc (.cells #[] 3)) _ _ _ (by simp)
          have vC : Box ((wr.alloc (.cells #[.int .i64 z] 3)).alloc (.cells #[] 3)).drew wr.heap.size 3 #[.int .i64 z] := (Box.new wr wr.heap.size _ _ rfl).alloc _
          have kA : Kept wr (wr.alloc (.cells #[] 3)).drew := ((Kept.refl wr).alloc _).drew
          have kB : Kept wr ((wr.alloc (.cells #[] 3)).alloc (.cells #[.int .i64 z] 3)).drew := (((Kept.refl wr).alloc _).alloc _).drew
          have kC : Kept wr ((wr.alloc (.cells #[.int .i64 z] 3)).alloc (.cells #[] 3)).drew := (((Kept.refl wr).alloc _).alloc _).drew
          go_region_held3 (fun _ => True) (trivial) (first | (refine step_put_I wr _ rfl (.tmp 28) (.tmp 31) rfl (.slice (some ⟨wr.heap.size, 0, none⟩) 0 0) [] rfl (own0_I (by first | exact Nat.le_refl _ | omega) bA) kA _ (([] : List Int).take 0) rfl (HTO.out.kept kA) (by simp <;> omega) ?_; intro v1 w1 o1 k1 on1; rw [List.nil_append] at o1) | (refine step_put_I wr _ rfl (.tmp 28) (.tmp 31) rfl (.slice (some ⟨wr.heap.size, 0, none⟩) 0 0) [] rfl (own0_I (by first | exact Nat.le_refl _ | omega) bB) kB _ (([] : List Int).take 0) rfl (HTO.out.kept kB) (by simp <;> omega) ?_; intro v1 w1 o1 k1 on1; rw [List.nil_append] at o1; have hv2 := ints_box1 (vB.only on1 (by simp [fp_some]))) | (refine step_put_I wr _ rfl (.tmp 28) (.tmp 31) rfl (.slice (some ⟨wr.heap.size + 1, 0, none⟩) 0 0) [] rfl (own0_I (by first | exact Nat.le_refl _ | omega) bC) kC _ (([] : List Int).take 0) rfl (HTO.out.kept kC) (by simp <;> omega) ?_; intro v1 w1 o1 k1 on1; rw [List.nil_append] at o1; have hv2 := ints_box1 (vC.only on1 (by simp [fp_some]))) | (refine step_put_I wr _ rfl (.tmp 32) (.tmp 34) rfl _ (([] : List Int).take 0) rfl o1 k1 _ [z] rfl hv2 (by simp <;> omega) ?_; intro v2 w2 o2 k2 on2) | (refine step_put_I wr _ rfl (.tmp 32) (.tmp 34) rfl _ (([] : List Int).take 0) rfl (o1.kept ((Kept.refl w1).alloc (.cells #[.int .i64 z] 3))) (k1.alloc (.cells #[.int .i64 z] 3)) _ [z] rfl (ints_box1 (Box.new w1 _ _ _ rfl)) (by simp <;> omega) ?_; intro v2 w2 o2 k2 on2) | (refine step_put_I wr _ rfl (.tmp 35) (.tmp 38) rfl _ (([] : List Int).take 0 ++ [z]) rfl o2 k2 _ (([] : List Int).drop 0) rfl (HFR.out.kept k2) HLT.out ?_; intro v3 w3 o3 k3 on3))
          all_goals
            go_wp2_with fail
            go_roundw
            case rel => exact ⟨j + 1, [z], by omega, by go_num, o3.base hkept.size, (take_snoc HZ.out).symm ▸ (perm_ins (k := 0) HP.out), List.pairwise_singleton _ _, hkept.trans k3⟩
            case measure => simp [intOf]; omega
      · have HO := Lib.hid ho
        clear ho
        unfold maxLen at hcap2
        go_wp2_with fail
        go_loop [6] (fun s6 => ∃ m : Nat, m ≤ os.length ∧ s6 = .int .i64 m ∧ ∀ i x, m ≤ i → os[i]? = some x → x < z) (fun s6 => (intOf s6).toNat)
        case atStart => exact ⟨os.length, Nat.le_refl _, rfl, fun i x hi hx => absurd (List.getElem?_eq_some_iff.1 hx).1 (by omega)⟩
        case round =>
          obtain ⟨m, hm, rfl, hgt⟩ := hrel
          have HG := Lib.hid hgt
          clear hgt
          by_cases hm0 : m = 0
          · have hd1 : decide ((0 : Int) < (m : Int)) = false := by simp; omega
            have hd2 : decide (0 < m) = false := by simp; omega
            have HX : Hid (∀ x, 0 < m → os[m - 1]? = some x → z ≤ x) := Lib.hid (fun x hp => absurd hp (by omega))
            clear hm0
            go_wp2_with fail
            clear hd1 hd2
            have HLT : Hid ((os.take m ++ [z]).length + (os.drop m).length ≤ 16777216) := Lib.hid (by rw [List.length_append, List.length_take, List.length_drop]; simp; omega)
            have htl : (os.take m).length ≤ 60 := by rw [List.length_take]; omega
            have HTO : Hid (Ints wr (.slice (some ⟨g, 0, none⟩) m cap) (os.take m)) := Lib.hid (ints_to HO.out.ints rfl hm)
            by_cases hcap : cap = m
            · subst hcap
              have h9 : os.length = cap := by omega
              have H9 := Lib.hid h9
              have HFR : Hid (Ints wr (.slice (some ⟨g, 0, none⟩) 0 0) (os.drop cap)) := Lib.hid (ints_none (by omega))
              have g2 : (cap : Int) ≤ (os.length : Int) := by omega
              have g3 : (os.length : Int) ≤ (cap : Int) := by omega
              have g5 : os.length ≤ cap := by omega
              clear h9
              have bA : Box (wr.alloc (.cells #[] 3)).drew wr.heap.size 3 #[] := Box.new wr _ _ _ rfl
              have bB : Box ((wr.alloc (.cells #[] 3)).alloc (.cells #[.int .i64 z] 3)).drew wr.heap.size 3 #[] := (Box.new wr wr.heap.size _ _ rfl).alloc _
              have bC : Box ((wr.alloc (.cells #[.int .i64 z] 3)).alloc (.cells #[] 3)).drew (wr.heap.size + 1) 3 #[] := Box.new (wr.alloc (.cells #[.int .i64 z] 3)) _ _ _ (by simp)
              have vB : Box ((wr.alloc (.cells #[] 3)).alloc (.cells #[.int .i64 z] 3)).drew (wr.heap.size + 1) 3 #[.int .i64 z] := Box.new (wr.alloc (.cells #[] 3)) _ _ _ (by simp)
              have vC : Box ((wr.alloc (.cells #[.int .i64 z] 3)).alloc (.cells #[] 3)).drew wr.heap.size 3 #[.int .i64 z] := (Box.new wr wr.heap.size _ _ rfl).alloc _
              have kA : Kept wr (wr.alloc (.cells #[] 3)).drew := ((Kept.refl wr).alloc _).drew
              have kB : Kept wr ((wr.alloc (.cells #[] 3)).alloc (.cells #[.int .i64 z] 3)).drew := (((Kept.refl wr).alloc _).alloc _).drew
              have kC : Kept wr ((wr.alloc (.cells #[.int .i64 z] 3)).alloc (.cells #[] 3)).drew := (((Kept.refl wr).alloc _).alloc _).drew
              go_region_held3 (fun _ => True) (trivial) (first | (refine step_put_I wr _ rfl (.tmp 28) (.tmp 31) rfl (.slice (some ⟨wr.heap.size, 0, none⟩) 0 0) [] rfl (own0_I (by first | exact Nat.le_refl _ | omega) bA) kA _ (os.take cap) rfl (HTO.out.kept kA) (by simp <;> omega) ?_; intro v1 w1 o1 k1 on1; rw [List.nil_append] at o1) | (refine step_put_I wr _ rfl (.tmp 28) (.tmp 31) rfl (.slice (some ⟨wr.heap.size, 0, none⟩) 0 0) [] rfl (own0_I (by first | exact Nat.le_refl _ | omega) bB) kB _ (os.take cap) rfl (HTO.out.kept kB) (by simp <;> omega) ?_; intro v1 w1 o1 k1 on1; rw [List.nil_append] at o1; have hv2 := ints_box1 (vB.only on1 (by simp [fp_some]))) | (refine step_put_I wr _ rfl (.tmp 28) (.tmp 31) rfl (.slice (some ⟨wr.heap.size + 1, 0, none⟩) 0 0) [] rfl (own0_I (by first | exact Nat.le_refl _ | omega) bC) kC _ (os.take cap) rfl (HTO.out.kept kC) (by simp <;> omega) ?_; intro v1 w1 o1 k1 on1; rw [List.nil_append] at o1; have hv2 := ints_box1 (vC.only on1 (by simp [fp_some]))) | (refine step_put_I wr _ rfl (.tmp 32) (.tmp 34) rfl _ (os.take cap) rfl o1 k1 _ [z] rfl hv2 (by simp <;> omega) ?_; intro v2 w2 o2 k2 on2) | (refine step_put_I wr _ rfl (.tmp 32) (.tmp 34) rfl _ (os.take cap) rfl (o1.kept ((Kept.refl w1).alloc (.cells #[.int .i64 z] 3))) (k1.alloc (.cells #[.int .i64 z] 3)) _ [z] rfl (ints_box1 (Box.new w1 _ _ _ rfl)) (by simp <;> omega) ?_; intro v2 w2 o2 k2 on2) | (refine step_put_I wr _ rfl (.tmp 35) (.tmp 38) rfl _ (os.take cap ++ [z]) rfl o2 k2 _ (os.drop cap) (by first | rfl | (simp [Act.eval, Act.put, H9.out])) (HFR.out.kept k2) HLT.out ?_; intro v3 w3 o3 k3 on3))
              all_goals
                go_wp2_with fail
                go_roundw
                case rel => exact ⟨j + 1, os.take cap ++ z :: os.drop cap, by omega, by go_num, (by have q := o3.base hkept.size; rw [List.append_assoc] at q; exact q), (take_snoc HZ.out).symm ▸ perm_ins HP.out, desc_ins HD.out hm HG.out HX.out, hkept.trans k3⟩
                case measure => simp [intOf]; omega
            · have HCAP := Lib.hid hcap
              have HFR : Hid (Ints wr (.slice (some ⟨g, m, none⟩) (os.length - m) (cap - m)) (os.drop m)) := Lib.hid (by have q := ints_from HO.out.ints rfl hm; rw [Nat.zero_add] at q; exact q)
              have hc2 : ¬ cap = m := hcap
              have hc3 : (cap == m) = false := beq_eq_false_iff_ne.2 hcap
              have g1 : (m : Int) ≤ (cap : Int) := by omega
              have g2 : (m : Int) ≤ (os.length : Int) := by omega
              have g3 : (os.length : Int) ≤ (cap : Int) := by omega
              have g4 : m ≤ cap := by omega
              have g5 : os.length ≤ cap := by omega
              have bA : Box (wr.alloc (.cells #[] 3)).drew wr.heap.size 3 #[] := Box.new wr _ _ _ rfl
              have bB : Box ((wr.alloc (.cells #[] 3)).alloc (.cells #[.int .i64 z] 3)).drew wr.heap.size 3 #[] := (Box.new wr wr.heap.size _ _ rfl).alloc _
              have bC : Box ((wr.alloc (.cells #[.int .i64 z] 3)).alloc (.cells #[] 3)).drew (wr.heap.size + 1) 3 #[] := Box.new (wr.alloc (.cells #[.int .i64 z] 3)) _ _ _ (by simp)
              have vB : Box ((wr.alloc (.cells #[] 3)).alloc (.cells #[.int .i64 z] 3)).drew (wr.heap.size + 1) 3 #[.int .i64 z] := Box.new (wr.alloc (.cells #[] 3)) _ _ _ (by simp)
              have vC : Box ((wr.alloc (.cells #[.int .i64 z] 3)).alloc (.cells #[] 3)).drew wr.heap.size 3 #[.int .i64 z] := (Box.new wr wr.heap.size _ _ rfl).alloc _
              have kA : Kept wr (wr.alloc (.cells #[] 3)).drew := ((Kept.refl wr).alloc _).drew
              have kB : Kept wr ((wr.alloc (.cells #[] 3)).alloc (.cells #[.int .i64 z] 3)).drew := (((Kept.refl wr).alloc _).alloc _).drew
              have kC : Kept wr ((wr.alloc (.cells #[.int .i64 z] 3)).alloc (.cells #[] 3)).drew := (((Kept.refl wr).alloc _).alloc _).drew
              go_region_held3 (fun _ => True) (trivial) (first | (refine step_put_I wr _ rfl (.tmp 28) (.tmp 31) rfl (.slice (some ⟨wr.heap.size, 0, none⟩) 0 0) [] rfl (own0_I (by first | exact Nat.le_refl _ | omega) bA) kA _ (os.take m) rfl (HTO.out.kept kA) (by simp <;> omega) ?_; intro v1 w1 o1 k1 on1; rw [List.nil_append] at o1) | (refine step_put_I wr _ rfl (.tmp 28) (.tmp 31) rfl (.slice (some ⟨wr.heap.size, 0, none⟩) 0 0) [] rfl (own0_I (by first | exact Nat.le_refl _ | omega) bB) kB _ (os.take m) rfl (HTO.out.kept kB) (by simp <;> omega) ?_; intro v1 w1 o1 k1 on1; rw [List.nil_append] at o1; have hv2 := ints_box1 (vB.only on1 (by simp [fp_some]))) | (refine step_put_I wr _ rfl (.tmp 28) (.tmp 31) rfl (.slice (some ⟨wr.heap.size + 1, 0, none⟩) 0 0) [] rfl (own0_I (by first | exact Nat.le_refl _ | omega) bC) kC _ (os.take m) rfl (HTO.out.kept kC) (by simp <;> omega) ?_; intro v1 w1 o1 k1 on1; rw [List.nil_append] at o1; have hv2 := ints_box1 (vC.only on1 (by simp [fp_some]))) | (refine step_put_I wr _ rfl (.tmp 32) (.tmp 34) rfl _ (os.take m) rfl o1 k1 _ [z] rfl hv2 (by simp <;> omega) ?_; intro v2 w2 o2 k2 on2) | (refine step_put_I wr _ rfl (.tmp 32) (.tmp 34) rfl _ (os.take m) rfl (o1.kept ((Kept.refl w1).alloc (.cells #[.int .i64 z] 3))) (k1.alloc (.cells #[.int .i64 z] 3)) _ [z] rfl (ints_box1 (Box.new w1 _ _ _ rfl)) (by simp <;> omega) ?_; intro v2 w2 o2 k2 on2) | (refine step_put_I wr _ rfl (.tmp 35) (.tmp 38) rfl _ (os.take m ++ [z]) rfl o2 k2 _ (os.drop m) rfl (HFR.out.kept k2) HLT.out ?_; intro v3 w3 o3 k3 on3))
              all_goals
                go_wp2_with fail
                go_roundw
                case rel => exact ⟨j + 1, os.take m ++ z :: os.drop m, by omega, by go_num, (by have q := o3.base hkept.size; rw [List.append_assoc] at q; exact q), (take_snoc HZ.out).symm ▸ perm_ins HP.out, desc_ins HD.out hm HG.out HX.out, hkept.trans k3⟩
                case measure => simp [intOf]; omega
          · obtain ⟨p, hp⟩ : ∃ p, m = p + 1 := ⟨m - 1, by omega⟩
            obtain ⟨b', o', x, eA, hb', hx', q0⟩ := ints_at HO.out.ints.addr (k := p) (by omega)
            injection eA with eA
            injection eA with eA1 eA2 eA3
            subst eA1 eA2
            have f3 : (p : Int) < (os.length : Int) := by omega
            have f4 : (0 : Int) < (m : Int) := by omega
            have f5 : 0 < m := by omega
            have f1 : ((m : Int) - 1) = (p : Int) := by omega
            have f2 : IntKind.i64.wrap ((m : Int) - 1) = (p : Int) := by rw [f1]; exact IntWalk.i64_in _ (by omega)
            have HXP := Lib.hid hx'
            have HMP := Lib.hid hp
            have q1 : wr.cell? ⟨g, p, none⟩ = some (.int .i64 x) := by rw [Nat.zero_add] at q0; exact q0
            clear hx' hp eA3 hm0
            by_cases hxz : x < z
            · go_wp2_with fail
              go_round
              case rel => exact ⟨p, by omega, rfl, fun i y hi hy => by rcases Nat.lt_or_eq_of_le hi with h1 | h1; exact HG.out i y (by have := HMP.out; omega) hy; subst h1; rw [HXP.out] at hy; injection hy with hy; subst hy; exact hxz⟩
              case measure => simp [intOf]; have := HMP.out; omega
            · have HX : Hid (∀ y, 0 < m → os[m - 1]? = some y → z ≤ y) := Lib.hid (fun y _ hy => by have e := HMP.out; rw [e, Nat.add_sub_cancel, HXP.out] at hy; injection hy with hy; subst hy; omega)
              go_wp2_with fail
              clear f1 f2 f3 f4 f5 q0 q1 hxz
              have HLT : Hid ((os.take m ++ [z]).length + (os.drop m).length ≤ 16777216) := Lib.hid (by rw [List.length_append, List.length_take, List.length_drop]; simp; omega)
              have htl : (os.take m).length ≤ 60 := by rw [List.length_take]; omega
              have HTO : Hid (Ints wr (.slice (some ⟨g, 0, none⟩) m cap) (os.take m)) := Lib.hid (ints_to HO.out.ints rfl hm)
              by_cases hcap : cap = m
              · subst hcap
                have h9 : os.length = cap := by omega
                have H9 := Lib.hid h9
                have HFR : Hid (Ints wr (.slice (some ⟨g, 0, none⟩) 0 0) (os.drop cap)) := Lib.hid (ints_none (by omega))
                have g2 : (cap : Int) ≤ (os.length : Int) := by omega
                have g3 : (os.length : Int) ≤ (cap : Int) := by omega
                have g5 : os.length ≤ cap := by omega
                clear h9
                have bA : Box (wr.alloc (.cells #[] 3)).drew wr.heap.size 3 #[] := Box.new wr _ _ _ rfl
                have bB : Box ((wr.alloc (.cells #[] 3)).alloc (.cells #[.int .i64 z] 3)).drew wr.heap.size 3 #[] := (Box.new wr wr.heap.size _ _ rfl).alloc _
                have bC : Box ((wr.alloc (.cells #[.int .i64 z] 3)).alloc (.cells #[] 3)).drew (wr.heap.size + 1) 3 #[] := Box.new (wr.alloc (.cells #[.int .i64 z] 3)) _ _ _ (by simp)
                have vB : Box ((wr.alloc (.cells #[] 3)).alloc (.cells #[.int .i64 z] 3)).drew (wr.heap.size + 1) 3 #[.int .i64 z] := Box.new (wr.alloc (.cells #[] 3)) _ _ _ (by simp)
                have vC : Box ((wr.alloc (.cells #[.int .i64 z] 3)).alloc (.cells #[] 3)).drew wr.heap.size 3 #[.int .i64 z] := (Box.new wr wr.heap.size _ _ rfl).alloc _
                have kA : Kept wr (wr.alloc (.cells #[] 3)).drew := ((Kept.refl wr).alloc _).drew
                have kB : Kept wr ((wr.alloc (.cells #[] 3)).alloc (.cells #[.int .i64 z] 3)).drew := (((Kept.refl wr).alloc _).alloc _).drew
                have kC : Kept wr ((wr.alloc (.cells #[.int .i64 z] 3)).alloc (.cells #[] 3)).drew := (((Kept.refl wr).alloc _).alloc _).drew
                go_region_held3 (fun _ => True) (trivial) (first | (refine step_put_I wr _ rfl (.tmp 28) (.tmp 31) rfl (.slice (some ⟨wr.heap.size, 0, none⟩) 0 0) [] rfl (own0_I (by first | exact Nat.le_refl _ | omega) bA) kA _ (os.take cap) rfl (HTO.out.kept kA) (by simp <;> omega) ?_; intro v1 w1 o1 k1 on1; rw [List.nil_append] at o1) | (refine step_put_I wr _ rfl (.tmp 28) (.tmp 31) rfl (.slice (some ⟨wr.heap.size, 0, none⟩) 0 0) [] rfl (own0_I (by first | exact Nat.le_refl _ | omega) bB) kB _ (os.take cap) rfl (HTO.out.kept kB) (by simp <;> omega) ?_; intro v1 w1 o1 k1 on1; rw [List.nil_append] at o1; have hv2 := ints_box1 (vB.only on1 (by simp [fp_some]))) | (refine step_put_I wr _ rfl (.tmp 28) (.tmp 31) rfl (.slice (some ⟨wr.heap.size + 1, 0, none⟩) 0 0) [] rfl (own0_I (by first | exact Nat.le_refl _ | omega) bC) kC _ (os.take cap) rfl (HTO.out.kept kC) (by simp <;> omega) ?_; intro v1 w1 o1 k1 on1; rw [List.nil_append] at o1; have hv2 := ints_box1 (vC.only on1 (by simp [fp_some]))) | (refine step_put_I wr _ rfl (.tmp 32) (.tmp 34) rfl _ (os.take cap) rfl o1 k1 _ [z] rfl hv2 (by simp <;> omega) ?_; intro v2 w2 o2 k2 on2) | (refine step_put_I wr _ rfl (.tmp 32) (.tmp 34) rfl _ (os.take cap) rfl (o1.kept ((Kept.refl w1).alloc (.cells #[.int .i64 z] 3))) (k1.alloc (.cells #[.int .i64 z] 3)) _ [z] rfl (ints_box1 (Box.new w1 _ _ _ rfl)) (by simp <;> omega) ?_; intro v2 w2 o2 k2 on2) | (refine step_put_I wr _ rfl (.tmp 35) (.tmp 38) rfl _ (os.take cap ++ [z]) rfl o2 k2 _ (os.drop cap) (by first | rfl | (simp [Act.eval, Act.put, H9.out])) (HFR.out.kept k2) HLT.out ?_; intro v3 w3 o3 k3 on3))
                all_goals
                  go_wp2_with fail
                  go_roundw
                  case rel => exact ⟨j + 1, os.take cap ++ z :: os.drop cap, by omega, by go_num, (by have q := o3.base hkept.size; rw [List.append_assoc] at q; exact q), (take_snoc HZ.out).symm ▸ perm_ins HP.out, desc_ins HD.out hm HG.out HX.out, hkept.trans k3⟩
                  case measure => simp [intOf]; omega
              · have HCAP := Lib.hid hcap
                have HFR : Hid (Ints wr (.slice (some ⟨g, m, none⟩) (os.length - m) (cap - m)) (os.drop m)) := Lib.hid (by have q := ints_from HO.out.ints rfl hm; rw [Nat.zero_add] at q; exact q)
                have hc2 : ¬ cap = m := hcap
                have hc3 : (cap == m) = false := beq_eq_false_iff_ne.2 hcap
                have g1 : (m : Int) ≤ (cap : Int) := by omega
                have g2 : (m : Int) ≤ (os.length : Int) := by omega
                have g3 : (os.length : Int) ≤ (cap : Int) := by omega
                have g4 : m ≤ cap := by omega
                have g5 : os.length ≤ cap := by omega
                have bA : Box (wr.alloc (.cells #[] 3)).drew wr.heap.size 3 #[] := Box.new wr _ _ _ rfl
                have bB : Box ((wr.alloc (.cells #[] 3)).alloc (.cells #[.int .i64 z] 3)).drew wr.heap.size 3 #[] := (Box.new wr wr.heap.size _ _ rfl).alloc _
                have bC : Box ((wr.alloc (.cells #[.int .i64 z] 3)).alloc (.cells #[] 3)).drew (wr.heap.size + 1) 3 #[] := Box.new (wr.alloc (.cells #[.int .i64 z] 3)) _ _ _ (by simp)
                have vB : Box ((wr.alloc (.cells #[] 3)).alloc (.cells #[.int .i64 z] 3)).drew (wr.heap.size + 1) 3 #[.int .i64 z] := Box.new (wr.alloc (.cells #[] 3)) _ _ _ (by simp)
                have vC : Box ((wr.alloc (.cells #[.int .i64 z] 3)).alloc (.cells #[] 3)).drew wr.heap.size 3 #[.int .i64 z] := (Box.new wr wr.heap.size _ _ rfl).alloc _
                have kA : Kept wr (wr.alloc (.cells #[] 3)).drew := ((Kept.refl wr).alloc _).drew
                have kB : Kept wr ((wr.alloc (.cells #[] 3)).alloc (.cells #[.int .i64 z] 3)).drew := (((Kept.refl wr).alloc _).alloc _).drew
                have kC : Kept wr ((wr.alloc (.cells #[.int .i64 z] 3)).alloc (.cells #[] 3)).drew := (((Kept.refl wr).alloc _).alloc _).drew
                go_region_held3 (fun _ => True) (trivial) (first | (refine step_put_I wr _ rfl (.tmp 28) (.tmp 31) rfl (.slice (some ⟨wr.heap.size, 0, none⟩) 0 0) [] rfl (own0_I (by first | exact Nat.le_refl _ | omega) bA) kA _ (os.take m) rfl (HTO.out.kept kA) (by simp <;> omega) ?_; intro v1 w1 o1 k1 on1; rw [List.nil_append] at o1) | (refine step_put_I wr _ rfl (.tmp 28) (.tmp 31) rfl (.slice (some ⟨wr.heap.size, 0, none⟩) 0 0) [] rfl (own0_I (by first | exact Nat.le_refl _ | omega) bB) kB _ (os.take m) rfl (HTO.out.kept kB) (by simp <;> omega) ?_; intro v1 w1 o1 k1 on1; rw [List.nil_append] at o1; have hv2 := ints_box1 (vB.only on1 (by simp [fp_some]))) | (refine step_put_I wr _ rfl (.tmp 28) (.tmp 31) rfl (.slice (some ⟨wr.heap.size + 1, 0, none⟩) 0 0) [] rfl (own0_I (by first | exact Nat.le_refl _ | omega) bC) kC _ (os.take m) rfl (HTO.out.kept kC) (by simp <;> omega) ?_; intro v1 w1 o1 k1 on1; rw [List.nil_append] at o1; have hv2 := ints_box1 (vC.only on1 (by simp [fp_some]))) | (refine step_put_I wr _ rfl (.tmp 32) (.tmp 34) rfl _ (os.take m) rfl o1 k1 _ [z] rfl hv2 (by simp <;> omega) ?_; intro v2 w2 o2 k2 on2) | (refine step_put_I wr _ rfl (.tmp 32) (.tmp 34) rfl _ (os.take m) rfl (o1.kept ((Kept.refl w1).alloc (.cells #[.int .i64 z] 3))) (k1.alloc (.cells #[.int .i64 z] 3)) _ [z] rfl (ints_box1 (Box.new w1 _ _ _ rfl)) (by simp <;> omega) ?_; intro v2 w2 o2 k2 on2) | (refine step_put_I wr _ rfl (.tmp 35) (.tmp 38) rfl _ (os.take m ++ [z]) rfl o2 k2 _ (os.drop m) rfl (HFR.out.kept k2) HLT.out ?_; intro v3 w3 o3 k3 on3))
                all_goals
                  go_wp2_with fail
                  go_roundw
                  case rel => exact ⟨j + 1, os.take m ++ z :: os.drop m, by omega, by go_num, (by have q := o3.base hkept.size; rw [List.append_assoc] at q; exact q), (take_snoc HZ.out).symm ▸ perm_ins HP.out, desc_ins HD.out hm HG.out HX.out, hkept.trans k3⟩
                  case measure => simp [intOf]; omega
    · obtain rfl : j = zs.length := by omega
      have HO := Lib.hid ho
      clear ho
      go_wp2_with fail
      go_ret
      exact ⟨_, os, rfl, HO.out, by have q := HP.out; rw [List.take_length] at q; exact q, HD.out, hkept⟩
end Go.Proofs.YtldinfdbkffdpaaGreatDoor

/- Rows that the library sorts in place; copies with where they lie. -/
namespace Go.Proofs.YtldinfdbkffdpaaGreatDoor
set_option linter.unusedVariables false
set_option linter.unusedSimpArgs false
open Go.RowKit

theorem own_lt {w : World} {base g cap n : Nat} {e : TypeId} {xs : List Value} (h : w.ownsRow base e 1 (.slice (some ⟨g, 0, none⟩) n cap) n xs) : g < w.heap.size := by
  rcases h.2 with ⟨e1, _⟩ | ⟨g', cap', cur, e1, hb, hg, _⟩
  · cases e1
  · injection e1 with e1
    injection e1 with e1
    injection e1 with e1
    subst e1
    exact (Array.getElem?_eq_some_iff.1 hg).1
theorem holds_own {α : Type} [Inhabited α] {enc : α → Value} {w : World} {base g cap : Nat} {e : TypeId} {zs : List α} (h : w.ownsRow base e 1 (.slice (some ⟨g, 0, none⟩) zs.length cap) zs.length (zs.map enc)) : Go.Sort.Holds enc w g 0 zs.toArray := by
  intro j hj
  have hj' : j < zs.length := by simpa using hj
  rcases h.2 with ⟨e1, _⟩ | ⟨g', cap', cur, e1, hb, hg, _⟩
  · cases e1
  · injection e1 with e1
    injection e1 with e1
    injection e1 with e1
    subst e1
    refine ⟨?_, ?_⟩
    · rw [Nat.zero_add, h.cellAt j (by omega), List.getElem?_map, List.getElem?_eq_getElem hj']
      simp [hj']
    · simp [World.frozen?, hg]
theorem putRow_own {α : Type} [Inhabited α] (enc : α → Value) {w : World} {base g cap n : Nat} {e : TypeId} {xs : List Value} (h : w.ownsRow base e 1 (.slice (some ⟨g, 0, none⟩) n cap) n xs) {ys : List α} (hl : ys.length = n) (m : Nat) (os : Array Obj) :
    (Go.Sort.grow (Go.Sort.putRow enc (Go.Sort.ahead w m) g 0 ys.toArray) os).ownsRow base e 1 (.slice (some ⟨g, 0, none⟩) n cap) n (ys.map enc) ∧ Only [g] w (Go.Sort.grow (Go.Sort.putRow enc (Go.Sort.ahead w m) g 0 ys.toArray) os) := by
  rcases h.2 with ⟨e1, _⟩ | ⟨g', cap', cur, e1, hb, hg, hnc, hcm, hcs, ht⟩
  · cases e1
  · injection e1 with e1 e2 e3
    injection e1 with e1
    injection e1 with e1
    subst e1 e3
    have hlt : g < w.heap.size := (Array.getElem?_eq_some_iff.1 hg).1
    have hnew : (Go.Sort.grow (Go.Sort.putRow enc (Go.Sort.ahead w m) g 0 ys.toArray) os).heap[g]? = some (.cells (Go.Sort.putCells enc 0 ys.toArray cur) e (0, 0)) := by
      rw [Go.Sort.heap_grow_old _ _ (by simpa using hlt)]
      simp [Go.Sort.putRow, Go.Sort.mapBlock, Array.getElem?_modify, hg, Go.Sort.onCells]
    refine ⟨⟨by simp [hl], .inr ⟨g, cap, _, rfl, hb, hnew, hnc, hcm, by simp [Go.Sort.putCells]; simpa using hcs, ?_⟩⟩, ?_⟩
    · apply List.ext_getElem?
      intro j
      rw [List.getElem?_take]
      by_cases hj : j < n
      · rw [if_pos (by omega), Array.getElem?_toList]
        have hjc : j < cur.size := by omega
        simp [Go.Sort.putCells, Array.getElem?_mapIdx, hjc, hl, hj]
      · rw [if_neg (by omega), List.getElem?_eq_none (by simp [hl]; omega)]
    · refine ⟨rfl, rfl, rfl, by simp [Go.Sort.grow, Go.Sort.putRow, Go.Sort.mapBlock], fun i hi hn => ?_⟩
      rw [Go.Sort.heap_grow_old _ _ (by simpa using hi)]
      have hne : g ≠ i := fun e => hn (by simp [e])
      simp [Go.Sort.putRow, Go.Sort.mapBlock, Array.getElem?_modify, hne]
theorem run_append_locG {P : Program} (w : World) (base : Nat) (t ty e : TypeId) (i : TypeInfo) (z : Value) (size bytes : Nat) (ht : P.underlying t = some (.slice e)) (hi : P.info? e = some i) (hz : i.zero = some z)
    (hsize : i.size = size) (hby : i.bytes = bytes) (hzs : z.cells.size = size) (hsz : 0 < size)
    (v : Value) (n : Nat) (xs : List Value) (hown : w.ownsRow base e size v n xs)
    (u : Value) (m : Nat) (news : List Value) (hr : Seq w u m news) (hl : news.length = m * size) (h1 : ∀ y ∈ news, y.oneCell' = true)
    (h63 : n + m ≤ maxLen) (hbytes : (n + m) * bytes ≤ 140737488355328) (hbase : base ≤ w.heap.size) :
    ∃ v' w', (Builtin.append_ #[t, t] ty #[v, u]).run P w = .ok v' w' ∧ w'.ownsRow base e size v' (n + m) (xs ++ news) ∧ w.grownBy w' v.ownBlock ∧ (v'.ownBlock = v.ownBlock ∨ v'.ownBlock = some w.heap.size) := by
  obtain ⟨A, c, rfl, hnc, hcm, hA, hc⟩ := hr
  rcases A with _ | ad
  · obtain rfl := hA rfl
    obtain rfl : m = 0 := by omega
    obtain rfl : news = [] := List.eq_nil_of_length_eq_zero (by simpa using hl)
    exact ⟨v, w, run_append_of_nil w base t ty e i size ht hi v n xs hown 0, by simpa using hown, World.grownBy.refl w _, .inl rfl⟩
  · have hcells : ∀ j y, news[j]? = some y → w.cell? (ad.add j) = some y := by
      intro j y hy
      have hm : 0 < m := by
        rcases Nat.eq_zero_or_pos m with h0 | h0
        · subst h0
          have : news = [] := List.eq_nil_of_length_eq_zero (by simpa using hl)
          subst this
          simp at hy
        · exact h0
      obtain ⟨b, o', e1, hb, hcell⟩ := hc hm
      injection e1 with e1
      subst e1
      have := hcell j y hy
      rwa [show (⟨b, o', none⟩ : Addr).add j = ⟨b, o' + j, none⟩ from by unfold Addr.add; split <;> simp_all]
    obtain ⟨v', w', hrun, h2, h3, _, h5⟩ := run_append_own_at (P := P) w base t ty e i z size bytes ht hi hz hsize hby hzs hsz v n xs hown ad m c news hl hcells h1 h63 hbytes hbase
    exact ⟨v', w', hrun, h2, h3, h5⟩
set_option maxRecDepth 100000 in
theorem wpList_append_IL (w : World) {ops : Array Oper} {rest : List Oper} {o : Oper} {a : Act} {Q : Exit → Act → World → Prop} (hgd : o.guard = none) (s x : Operand)
    (ho : o.op = .call { callee := .builtin .append, args := #[s, x], argTypes := #[30, 30] })
    (base : Nat) (v : Value) (zs : List Int) (hs : a.eval s = v) (hown : OwnI w base v zs) (u : Value) (ys : List Int) (hx : a.eval x = u) (hr : Ints w u ys)
    (hl : zs.length + ys.length ≤ 16777216) (hbase : base ≤ w.heap.size)
    (h : ∀ v' w', OwnI w' base v' (zs ++ ys) → w.grownBy w' v.ownBlock → (v.ownBlock ≠ none → v'.ownBlock ≠ none) → wpList Tryz.prog ops Q rest (a.put o.dst v') w') : wpList Tryz.prog ops Q (o :: rest) a w := by
  refine wpList_plain hgd fun K hK => ?_
  obtain ⟨i0, hi, hz0, hz1, hz2⟩ := info_parts info_int
  obtain ⟨v', w', hrun, h2, h3, h4⟩ := run_append_locG (P := Tryz.prog) w base 30 o.type 3 i0 _ 1 8 Tryz.underlying30 hi hz0 hz1 hz2 rfl (by omega) v zs.length _ hown u ys.length (ys.map (Value.int .i64)) hr (by simp) (fun y hy => by obtain ⟨_, _, rfl⟩ := List.mem_map.1 hy; rfl) (by unfold maxLen; omega) (by omega) hbase
  unfold Oper.wp execOp
  simp only [ho, resolve, invoke, builtin, Sem.run_bind, Sem.run_pure, Result.andThen_ok, List.map_toArray, List.map_cons, List.map_nil, hs, hx, hrun]
  refine hK _ _ (h v' w' ?_ h3 (fun hv => ?_))
  · unfold OwnI; rw [List.length_append, List.map_append]; exact h2
  · rcases h4 with h4 | h4
    · rw [h4]; exact hv
    · rw [h4]; simp
set_option maxHeartbeats 1000000 in
theorem copyIntsL_any (v : Value) (zs : List Int) (w : World) (h : Ints w v zs) (hn : zs.length ≤ 1048576) :
    Calls Tryz.prog 39 #[v] w fun e w' => ∃ g cap, e = .returned (.slice (some ⟨g, 0, none⟩) zs.length cap) ∧ OwnI w' w.heap.size (.slice (some ⟨g, 0, none⟩) zs.length cap) zs ∧ Kept w w' := by
  have H := Lib.hid h
  obtain ⟨A, c, rfl, _, _, _⟩ := h.out
  clear h
  go_enter Tryz.func39, Tryz.ntmps39
  go_wp2_with (at_builtin; refine wpList_append_IL _ rfl _ _ rfl w.heap.size _ [] rfl (own_made _ _ 1 (Nat.le_refl _) (Box.new _ _ _ _ rfl)) _ zs rfl (H.out.kept ((Kept.refl _).alloc _)) (by simp; omega) (by simp) ?_; intro v' w' ho' hg hn')
  have kg := ((Kept.refl w).alloc (.cells #[] 3)).grew (own_made (base := w.heap.size) _ _ 1 (Nat.le_refl _) (Box.new _ _ _ _ rfl)) hg (Nat.le_refl _)
  have hv : v'.ownBlock ≠ none := hn' (fun h => by cases h)
  rw [List.nil_append] at ho'
  obtain ⟨g, cap, e, O⟩ : ∃ g cap, v' = .slice (some ⟨g, 0, none⟩) zs.length cap ∧ Hid (OwnI w' w.heap.size v' zs) := by
    rcases ho'.2 with ⟨rfl, _⟩ | ⟨g, cap, cur, e, _⟩
    · exact absurd rfl hv
    · exact ⟨g, cap, e, Lib.hid ho'⟩
  subst e
  clear ho' hn' hg hv
  go_ret
  exact ⟨g, cap, rfl, O.out, kg⟩
end Go.Proofs.YtldinfdbkffdpaaGreatDoor

/- Points: slices.Sort and slices.Reverse at rows of the call's own; SortedPoints of the program and of the reference. -/
namespace Go.Proofs.YtldinfdbkffdpaaGreatDoor
set_option linter.unusedVariables false
set_option linter.unusedSimpArgs false
open Go.RowKit

theorem sortI_any (g cap : Nat) (zs : List Int) (w : World) (base : Nat) (h : OwnI w base (.slice (some ⟨g, 0, none⟩) zs.length cap) zs) (hl : zs.length ≤ 1000000) :
    Calls Tryz.prog 40 #[.slice (some ⟨g, 0, none⟩) zs.length cap] w fun e w' => e = .returned (.tuple #[]) ∧ OwnI w' base (.slice (some ⟨g, 0, none⟩) zs.length cap) (zs.mergeSort fun x y => decide (x ≤ y)) ∧ Only [g] w w' := by
  refine (Tryz.slices_Sort_int g 0 cap zs w (holds_own (α := Int) h) (own_lt h) (by omega)).mono ?_
  rintro e w' ⟨rfl, n, os, rfl⟩
  have q := putRow_own (α := Int) (Value.int .i64) h (ys := zs.mergeSort fun x y => decide (x ≤ y)) (List.length_mergeSort _) n os
  refine ⟨rfl, ?_, q.2⟩
  unfold OwnI
  rw [List.length_mergeSort]
  exact q.1
theorem reverseI_any (g cap : Nat) (zs : List Int) (w : World) (base : Nat) (h : OwnI w base (.slice (some ⟨g, 0, none⟩) zs.length cap) zs) (hl : zs.length ≤ 1000000) :
    Calls Tryz.prog 41 #[.slice (some ⟨g, 0, none⟩) zs.length cap] w fun e w' => e = .returned (.tuple #[]) ∧ OwnI w' base (.slice (some ⟨g, 0, none⟩) zs.length cap) zs.reverse ∧ Only [g] w w' := by
  refine (Tryz.slices_Reverse_int g 0 cap zs w (holds_own (α := Int) h) (by omega)).mono ?_
  rintro e w' ⟨rfl, n, rfl⟩
  have q := putRow_own (α := Int) (Value.int .i64) h (ys := zs.reverse) (List.length_reverse) n #[]
  rw [Sort.grow_empty] at q
  refine ⟨rfl, ?_, q.2⟩
  unfold OwnI
  rw [List.length_reverse]
  exact q.1
theorem ret_vbS {v : Value} {b b' : Bool} (h : b = b') : Ending.returned (.tuple #[v, .bool b]) = .returned (.tuple #[v, .bool b']) := by rw [h]
def sortD (zs : List Int) : List Int := (zs.mergeSort fun x y => decide (x ≤ y)).reverse
def spV (zs : List Int) : List Int := if ptsB zs then sortD zs else []
theorem spV_yes {zs : List Int} (h : ptsB zs = true) : spV zs = sortD zs := by unfold spV; rw [h]; rfl
theorem spV_no {zs : List Int} (h : ptsB zs = false) : spV zs = [] := by unfold spV; rw [h]; rfl
theorem spV_len (zs : List Int) : (spV zs).length ≤ 60 := by
  by_cases h : ptsB zs = true
  · rw [spV_yes h]
    unfold sortD
    rw [List.length_reverse, List.length_mergeSort]
    exact (ptsB_true h).1
  · simp only [Bool.not_eq_true] at h
    rw [spV_no h]
    simp
set_option maxHeartbeats 1000000 in
theorem specSortedPoints_any (v : Value) (zs : List Int) (w : World) (h : Ints w v zs) :
    Calls Tryz.prog 13 #[v] w fun e w' => ∃ v', e = .returned (.tuple #[v', .bool (ptsB zs)]) ∧ OwnI w' w.heap.size v' (spV zs) ∧ Kept w w' := by
  have H := Lib.hid h
  obtain ⟨A, c, rfl, hnc, hcm, _⟩ := h.out
  clear h
  go_enter Tryz.func13, Tryz.ntmps13
  go_wp2_with fail
  refine (poList_any _ zs _ H.out).mono ?_
  rintro e w' ⟨rfl, rfl⟩
  by_cases hb : ptsB zs = true
  case neg =>
    simp only [Bool.not_eq_true] at hb
    have HB := Lib.hid hb
    rw [hb]
    clear hb
    go_wp2_with fail
    go_ret2
    exact ⟨_, ret_vbS HB.out.symm, by rw [spV_no HB.out]; exact ⟨by simp, .inl ⟨rfl, rfl⟩⟩, Kept.refl _⟩
  have HB := Lib.hid hb
  have hl := (ptsB_true hb).1
  rw [hb]
  clear hb
  go_wp2_with fail
  refine (poSorted_any _ zs _ H.out hl).mono ?_
  rintro e w1 ⟨v1, os, rfl, o1, p1, d1, k1⟩
  have O1 := Lib.hid o1
  have E1 : Hid (spV zs = os) := Lib.hid (by rw [spV_yes HB.out]; exact (desc_is p1 d1).symm)
  clear o1 p1 d1
  go_wp2_with fail
  go_ret2
  exact ⟨_, ret_vbS HB.out.symm, by rw [E1.out]; exact O1.out, k1⟩
set_option maxHeartbeats 1000000 in
theorem implSortedPoints_any (v : Value) (zs : List Int) (w : World) (h : Ints w v zs) :
    Calls Tryz.prog 12 #[v] w fun e w' => ∃ v', e = .returned (.tuple #[v', .bool (ptsB zs)]) ∧ OwnI w' w.heap.size v' (spV zs) ∧ Kept w w' := by
  have H := Lib.hid h
  obtain ⟨A, c, rfl, hnc, hcm, _⟩ := h.out
  clear h
  go_enter Tryz.func12, Tryz.ntmps12
  go_wp2_with fail
  refine (isPointsList_any _ zs _ H.out).mono ?_
  rintro e w' ⟨rfl, rfl⟩
  by_cases hb : ptsB zs = true
  case neg =>
    simp only [Bool.not_eq_true] at hb
    have HB := Lib.hid hb
    rw [hb]
    clear hb
    go_wp2_with fail
    go_ret2
    exact ⟨_, ret_vbS HB.out.symm, by rw [spV_no HB.out]; exact ⟨by simp, .inl ⟨rfl, rfl⟩⟩, Kept.refl _⟩
  have HB := Lib.hid hb
  have hl := (ptsB_true hb).1
  rw [hb]
  clear hb
  go_wp2_with fail
  refine (copyIntsL_any _ zs _ H.out (by omega)).mono ?_
  rintro e w1 ⟨g, cap, rfl, o1, k1⟩
  have O1 := Lib.hid o1
  have hg1 : w.heap.size ≤ g := (own_fp o1 g (by simp [fp_some])).1
  clear o1
  go_wp2_with fail
  refine (sortI_any g cap zs w1 _ O1.out (by omega)).mono ?_
  rintro e w2 ⟨rfl, o2, on2⟩
  have k2 := on2.above k1 (fun b hb => by rw [List.mem_singleton] at hb; subst hb; exact hg1)
  have hl2 : (zs.mergeSort fun x y => decide (x ≤ y)).length = zs.length := List.length_mergeSort _
  have O2 : Hid (OwnI w2 w.heap.size (.slice (some ⟨g, 0, none⟩) (zs.mergeSort fun x y => decide (x ≤ y)).length cap) (zs.mergeSort fun x y => decide (x ≤ y))) := Lib.hid (by rw [hl2]; exact o2)
  have c3 := reverseI_any g cap (zs.mergeSort fun x y => decide (x ≤ y)) w2 _ O2.out (by omega)
  rw [hl2] at c3
  have C3 := Lib.hid c3
  have HL2 := Lib.hid hl2
  clear o2 on2 hl2 c3
  go_wp2_with fail
  refine (C3.out).mono ?_
  rintro e w3 ⟨rfl, o3, on3⟩
  have k3 := on3.above k2 (fun b hb => by rw [List.mem_singleton] at hb; subst hb; exact hg1)
  have O3 := Lib.hid o3
  clear o3 on3
  go_wp2_with fail
  go_ret2
  exact ⟨_, ret_vbS HB.out.symm, by rw [spV_yes HB.out]; exact O3.out, k3⟩
end Go.Proofs.YtldinfdbkffdpaaGreatDoor

/- Points, plain: what the law FnPoints asks of them. -/
namespace Go.Proofs.YtldinfdbkffdpaaGreatDoor
set_option linter.unusedVariables false
set_option linter.unusedSimpArgs false

theorem sum_perm {a b : List Int} (h : a.Perm b) : a.sum = b.sum := by
  induction h with
  | nil => rfl
  | cons x _ ih => simp [ih]
  | swap x y l => simp only [List.sum_cons]; omega
  | trans _ _ i1 i2 => exact i1.trans i2
theorem sortD_perm (zs : List Int) : (sortD zs).Perm zs := (List.reverse_perm _).trans (List.mergeSort_perm _ _)
theorem sortD_desc (zs : List Int) : Desc (sortD zs) := desc_mergeSort zs
theorem sort_place {zs : List Int} {i : Nat} {x : Int} (h : (sortD zs)[i]? = some x) : place zs x ≤ (i : Int) + 1 := by
  have hp : (zs.filter fun y => decide (x < y)).length = ((sortD zs).filter fun y => decide (x < y)).length := ((sortD_perm zs).filter _).length_eq.symm
  obtain ⟨hi, e⟩ := List.getElem?_eq_some_iff.1 h
  have hd := sortD_desc zs
  have hz : ((sortD zs).drop i).filter (fun y => decide (x < y)) = [] := by
    rw [List.filter_eq_nil_iff]
    intro y hy
    obtain ⟨j, hj⟩ := List.getElem?_of_mem hy
    rw [List.getElem?_drop] at hj
    obtain ⟨hj', ej⟩ := List.getElem?_eq_some_iff.1 hj
    have hle : y ≤ x := by
      rcases Nat.eq_zero_or_pos j with h0 | h0
      · subst h0
        simp only [Nat.add_zero] at ej
        omega
      · have := List.pairwise_iff_getElem.1 hd i (i + j) hi hj' (by omega)
        omega
    simp
    omega
  unfold place
  rw [hp]
  have hs := List.take_append_drop i (sortD zs)
  rw [← hs, List.filter_append, hz, List.append_nil]
  have := List.length_filter_le (fun y => decide (x < y)) ((sortD zs).take i)
  rw [List.length_take] at this
  omega
theorem sort_desc {zs : List Int} {i : Nat} {x y : Int} (h : (sortD zs)[i]? = some x) (h2 : (sortD zs)[i + 1]? = some y) : y ≤ x := by
  obtain ⟨hi, e⟩ := List.getElem?_eq_some_iff.1 h
  obtain ⟨hj, e2⟩ := List.getElem?_eq_some_iff.1 h2
  have := List.pairwise_iff_getElem.1 (sortD_desc zs) i (i + 1) hi hj (by omega)
  omega
theorem sort_good {zs : List Int} (hp : ptsB zs = true) {i : Nat} {x : Int} (h : (sortD zs)[i]? = some x) : placeOk zs x = true ∧ -1000000 ≤ x ∧ x ≤ 1000000 := by
  have hm := (sortD_perm zs).mem_iff.1 (List.mem_of_getElem? h)
  have hb := (pts_bd hp).2 x hm
  unfold placeOk
  rw [hp]
  refine ⟨?_, hb⟩
  unfold inB
  simp
  omega
theorem sort_len (zs : List Int) : (sortD zs).length = zs.length := (sortD_perm zs).length_eq
theorem sort_ptsB {zs : List Int} (h : ptsB zs = true) : ptsB (sortD zs) = true := by
  obtain ⟨h1, h2⟩ := ptsB_true h
  unfold ptsB
  rw [Bool.and_eq_true]
  refine ⟨by rw [sort_len]; exact decide_eq_true h1, List.all_eq_true.2 fun x hx => List.all_eq_true.1 h2 x ((sortD_perm zs).mem_iff.1 hx)⟩
theorem sort_sum (zs : List Int) : (sortD zs).sum = zs.sum := sum_perm (sortD_perm zs)
theorem place_pos (zs : List Int) (n : Int) : 1 ≤ place zs n := by unfold place; omega
/-- what is read from the text of points -/
theorem read_back {n v : Int} {ok : Bool} (hn : -1000000 ≤ n ∧ n ≤ 1000000) (h : IsRead (ptxt n) v ok) : v = n ∧ ok = true := by
  have h2 : IsRead (ptxt n) n true := .inl ⟨rfl, hn, rfl⟩
  exact h.same h2
end Go.Proofs.YtldinfdbkffdpaaGreatDoor

/- Two helpers of the laws: big, pSum. -/
namespace Go.Proofs.YtldinfdbkffdpaaGreatDoor
set_option linter.unusedVariables false
set_option linter.unusedSimpArgs false
open Go.RowKit

def BoolPost (e : Ending) : Prop := ∃ b : Bool, e = .returned (.bool b)
theorem big_any (v0 v1 : Value) (w : World) (h0 : Byts w v0) (h1 : Byts w v1) :
    Calls Tryz.prog 4 #[v0, v1] w fun e w' => BoolPost e ∧ Kept w w' := by
  obtain ⟨A, n, c, rfl, hnc, hcm, _⟩ := h0
  obtain ⟨A1, n1, c1, rfl, hnc1, hcm1, _⟩ := h1
  unfold maxLen at hcm hcm1
  go_enter Tryz.func4, Tryz.ntmps4
  go_wp2_with fail
  all_goals
    go_ret
    exact ⟨⟨_, rfl⟩, Kept.refl _⟩
theorem pSum_any (v : Value) (zs : List Int) (w : World) (h : Ints w v zs) (hp : ptsB zs = true) :
    Calls Tryz.prog 17 #[v] w fun e w' => e = .returned (.int .i64 zs.sum) ∧ w = w' := by
  obtain ⟨A, c, rfl, hnc, hcm, hl⟩ := h.out
  unfold maxLen at hcm
  have HL := Lib.hid hl
  obtain ⟨h60, hb⟩ := pts_bd hp
  have HB := Lib.hid (fun k hk => low_sum (zs := zs) k hk)
  have HD := Lib.hid (fun k hk => low_bd hb k hk)
  clear hl h hp hb
  go_enter Tryz.func17, Tryz.ntmps17
  go_wp2_with fail
  go_loop [3, 8] (fun s3 s8 => ∃ k : Nat, k ≤ zs.length ∧ s8 = .int .i64 k ∧ s3 = .int .i64 ((zs.take k).sum)) (fun _ i => zs.length - (RowKit.intOf i).toNat)
  case atStart => exact ⟨0, Nat.zero_le _, rfl, rfl⟩
  case round =>
    obtain ⟨k, hk, rfl, rfl⟩ := hrel
    have hs : -60000000 ≤ (zs.take k).sum ∧ (zs.take k).sum ≤ 60000000 := by
      obtain ⟨a1, a2⟩ := HB.out k hk
      obtain ⟨⟨b1, _⟩, _, b2⟩ := HD.out k hk
      have h1 := Int.mul_le_mul_of_nonneg_right b1 (show (0 : Int) ≤ (k : Int) by omega)
      have h2 := Int.mul_le_mul_of_nonneg_right b2 (show (0 : Int) ≤ (k : Int) by omega)
      omega
    by_cases hlt : k < zs.length
    · obtain ⟨b, o, z, rfl, hbl, hz, hc⟩ := ints_at HL.out hlt
      have HZ := Lib.hid hz
      have HS := Lib.hid (take_snoc hz)
      have hz2 : (zs.take (k + 1)).sum = (zs.take k).sum + z := by rw [HS.out, List.sum_append]; simp
      have hs2 : -60000000 ≤ (zs.take (k + 1)).sum ∧ (zs.take (k + 1)).sum ≤ 60000000 := by
        obtain ⟨a1, a2⟩ := HB.out (k + 1) hlt
        obtain ⟨⟨b1, _⟩, _, b2⟩ := HD.out (k + 1) hlt
        have h1 := Int.mul_le_mul_of_nonneg_right b1 (show (0 : Int) ≤ ((k + 1 : Nat) : Int) by omega)
        have h2 := Int.mul_le_mul_of_nonneg_right b2 (show (0 : Int) ≤ ((k + 1 : Nat) : Int) by omega)
        omega
      have HZ2 := Lib.hid hz2
      rw [hz2] at hs2
      clear hz hz2
      go_wp2_with fail
      go_round
      case rel => exact ⟨k + 1, by omega, by go_num, by rw [HZ2.out]⟩
      case measure => simp [RowKit.intOf]; omega
    · obtain rfl : k = zs.length := by omega
      rw [List.take_length]
      go_wp2_with fail
      go_ret
      exact ⟨rfl, rfl⟩
end Go.Proofs.YtldinfdbkffdpaaGreatDoor
