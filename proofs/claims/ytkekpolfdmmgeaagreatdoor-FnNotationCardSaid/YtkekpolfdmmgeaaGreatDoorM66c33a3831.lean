/- Contracts of functions that the proof leans on. No condition. -/
import Derived.Lib.Split
import Derived.Lib.CountLaws
import Derived.Lib.IndexMore
import Derived.Lib.ItoaNum
import Derived.Lib.Join
import Derived.Lib.Strings
import Derived.Test.YtkekpolfdmmgeaaGreatDoorProg
import Derived.WalkKit
import Derived.WalkLawsBesides
import Derived.WalkSpells
import Derived.LoopTactic
import Derived.RegionTactic
import Derived.Deep.QuietTactic
import Derived.BigQuiet
import Derived.Handy
import Derived.Outline
import Derived.Below
import Derived.Lib.Hide
import Derived.Deep.Draws
import Derived.Deep.LoopGhost
import Derived.OwnWalk
import Derived.Deep.AppendLies
import Derived.Maps.AppendAt
import Derived.Laws.AppendOwnNone
import Derived.StillTailTactics
import Derived.Deep.RegionHeld3
import Derived.Deep.DeepCutAuto
/- Texts, plain: splitting at a byte, joining, numerals. -/
namespace Go.Proofs.YtkekpolfdmmgeaaGreatDoor
set_option linter.unnecessarySimpa false
open Go.Lib
set_option linter.unusedVariables false
set_option linter.unusedSimpArgs false

/-! ### splitting -/
def splitOn (b : UInt8) : List UInt8 → List (List UInt8)
  | [] => [[]]
  | c :: r => if c = b then [] :: splitOn b r else match splitOn b r with
    | [] => [[c]]
    | h :: t => (c :: h) :: t
def prep (p : List UInt8) : List (List UInt8) → List (List UInt8)
  | [] => [p]
  | h :: t => (p ++ h) :: t
theorem splitOn_ne (b : UInt8) (l : List UInt8) : splitOn b l ≠ [] := by
  cases l with
  | nil => simp [splitOn]
  | cons c r =>
    unfold splitOn
    split
    · simp
    · split <;> simp
theorem prep_nil {L : List (List UInt8)} (h : L ≠ []) : prep [] L = L := by
  cases L with
  | nil => exact absurd rfl h
  | cons x t => simp [prep]
theorem splitOn_cons_ne {b c : UInt8} (h : c ≠ b) (r : List UInt8) : splitOn b (c :: r) = prep [c] (splitOn b r) := by
  rw [splitOn, if_neg h]
  cases hs : splitOn b r with
  | nil => rfl
  | cons x t => rfl
theorem splitOn_cons_eq (b : UInt8) (r : List UInt8) : splitOn b (b :: r) = [] :: splitOn b r := by
  rw [splitOn, if_pos rfl]
theorem prep_prep (p q : List UInt8) (L : List (List UInt8)) : prep p (prep q L) = prep (p ++ q) L := by
  cases L <;> simp [prep]
theorem splitOn_pre {b : UInt8} : ∀ {p : List UInt8}, b ∉ p → ∀ l, splitOn b (p ++ l) = prep p (splitOn b l)
  | [], _, l => by rw [List.nil_append, prep_nil (splitOn_ne _ _)]
  | c :: p, h, l => by
    have h1 : c ≠ b := fun e => h (by simp [e])
    have h2 : b ∉ p := fun e => h (by simp [e])
    rw [List.cons_append, splitOn_cons_ne h1, splitOn_pre h2, prep_prep]
    rfl
theorem splitOn_none {b : UInt8} {p : List UInt8} (h : b ∉ p) : splitOn b p = [p] := by
  have := splitOn_pre h []
  rw [List.append_nil] at this
  rw [this]
  simp [splitOn, prep]
theorem splitOn_hit {b : UInt8} {p : List UInt8} (h : b ∉ p) (l : List UInt8) : splitOn b (p ++ b :: l) = p :: splitOn b l := by
  rw [splitOn_pre h, splitOn_cons_eq]
  simp [prep]
theorem splitOn_snoc (b : UInt8) (p : List UInt8) : splitOn b (p ++ [b]) = splitOn b p ++ [[]] := by
  induction p with
  | nil => simp [splitOn]
  | cons c p ih =>
    by_cases h : c = b
    · subst h
      rw [List.cons_append, splitOn_cons_eq, splitOn_cons_eq, ih]
      rfl
    · rw [List.cons_append, splitOn_cons_ne h, splitOn_cons_ne h, ih]
      cases hs : splitOn b p with
      | nil => exact absurd hs (splitOn_ne _ _)
      | cons x t => rfl
theorem splitOn_last {b : UInt8} {p : List UInt8} {c : UInt8} (h : c ≠ b) : ∃ L x, splitOn b (p ++ [c]) = L ++ [x ++ [c]] := by
  induction p with
  | nil => exact ⟨[], [], by simp [splitOn, h]⟩
  | cons d p ih =>
    obtain ⟨L, x, e⟩ := ih
    by_cases hd : d = b
    · subst hd
      exact ⟨[] :: L, x, by rw [List.cons_append, splitOn_cons_eq, e]; rfl⟩
    · cases L with
      | nil => exact ⟨[], d :: x, by rw [List.cons_append, splitOn_cons_ne hd, e]; rfl⟩
      | cons y L => exact ⟨(d :: y) :: L, x, by rw [List.cons_append, splitOn_cons_ne hd, e]; rfl⟩
theorem splitOn_join (b : UInt8) (l : List UInt8) : join (splitOn b l) [b] = l := by
  induction l with
  | nil => rfl
  | cons c r ih =>
    by_cases h : c = b
    · subst h
      rw [splitOn_cons_eq, join_cons]
      cases hs : splitOn c r with
      | nil => exact absurd hs (splitOn_ne _ _)
      | cons x t =>
        rw [hs, join_cons] at ih
        have e : joinTail [c] (x :: t) = [c] ++ x ++ joinTail [c] t := by simp [joinTail]
        rw [e, List.append_assoc, ih]
        rfl
    · rw [splitOn_cons_ne h]
      cases hs : splitOn b r with
      | nil => exact absurd hs (splitOn_ne _ _)
      | cons x t =>
        rw [hs, join_cons] at ih
        rw [prep, join_cons, ← ih]
        rfl
theorem splitOn_mem {b : UInt8} : ∀ {l : List UInt8} {x : List UInt8}, x ∈ splitOn b l → b ∉ x
  | [], x, h => by simp [splitOn] at h; simp [h]
  | c :: r, x, h => by
    by_cases hc : c = b
    · subst hc
      rw [splitOn_cons_eq] at h
      rcases List.mem_cons.1 h with e | e
      · simp [e]
      · exact splitOn_mem e
    · rw [splitOn_cons_ne hc] at h
      cases hs : splitOn b r with
      | nil => exact absurd hs (splitOn_ne _ _)
      | cons y t =>
        rw [hs, prep] at h
        rcases List.mem_cons.1 h with e | e
        · have : b ∉ y := splitOn_mem (l := r) (by rw [hs]; exact List.mem_cons_self)
          subst e
          simp [this, Ne.symm hc]
        · exact splitOn_mem (l := r) (by rw [hs]; exact List.mem_cons_of_mem _ e)
/-- Words without the byte, joined by it, split into themselves. -/
theorem splitOn_of_join {b : UInt8} : ∀ {L : List (List UInt8)}, L ≠ [] → (∀ x ∈ L, b ∉ x) → splitOn b (join L [b]) = L
  | [], h, _ => absurd rfl h
  | [x], _, h => by rw [join_one]; exact splitOn_none (h x (by simp))
  | x :: y :: t, _, h => by
    have e : join (x :: y :: t) [b] = x ++ b :: join (y :: t) [b] := by
      rw [join_cons, join_cons]
      simp [joinTail]
    rw [e, splitOn_hit (h x (by simp)), splitOn_of_join (by simp) (fun z hz => h z (List.mem_cons_of_mem _ hz))]

theorem index_one (b : UInt8) (s : List UInt8) : (index s [b] = -1 ∧ b ∉ s) ∨ ∃ i : Nat, index s [b] = i ∧ i < s.length ∧ b ∉ s.take i ∧ s = s.take i ++ b :: s.drop (i + 1) := by
  rcases index_spec s [b] with ⟨h, hn⟩ | ⟨i, h, hi, ho, hn⟩
  · refine .inl ⟨h, fun hm => ?_⟩
    obtain ⟨j, hj⟩ := List.getElem?_of_mem hm
    have hlt := (List.getElem?_eq_some_iff.1 hj).1
    have := hn j (by omega)
    unfold occAt at this
    rw [List.drop_eq_getElem_cons hlt] at this
    have e := (List.getElem?_eq_some_iff.1 hj).2
    simp [List.isPrefixOf, e] at this
  · have hh := occAt_head (t := []) rfl ho
    obtain ⟨hlt, e⟩ := List.getElem?_eq_some_iff.1 hh
    refine .inr ⟨i, h, hlt, fun hm => ?_, ?_⟩
    · obtain ⟨j, hj⟩ := List.getElem?_of_mem hm
      have hji : j < i := by
        have := (List.getElem?_eq_some_iff.1 hj).1
        rw [List.length_take] at this
        omega
      rw [List.getElem?_take_of_lt hji] at hj
      have := hn j hji
      have hl := (List.getElem?_eq_some_iff.1 hj).1
      unfold occAt at this
      rw [List.drop_eq_getElem_cons hl] at this
      have e := (List.getElem?_eq_some_iff.1 hj).2
      simp [List.isPrefixOf, e] at this
    · conv => lhs; rw [← List.take_append_drop i s]
      rw [List.drop_eq_getElem_cons hlt, e]
theorem splitK_one (b : UInt8) : ∀ (n : Nat) (s : List UInt8), s.length ≤ n → splitK [b] 0 (count s [b]) s = splitOn b s
  | n, s, hl => by
    rcases index_one b s with ⟨h, hn⟩ | ⟨i, h, hi, hn, hs⟩
    · rw [count_miss h, splitOn_none hn]
      rfl
    · have hd : (s.drop (i + 1)).length < s.length := by rw [List.length_drop]; omega
      cases n with
      | zero => omega
      | succ n =>
        have ih := splitK_one b n (s.drop (i + 1)) (by omega)
        rw [count_hit (by simp) h, Nat.add_comm, splitK, if_neg (by rw [h]; intro e; have := beq_iff_eq.1 e; omega)]
        conv => rhs; rw [hs, splitOn_hit hn]
        have e : (index s [b]).toNat = i := by rw [h]; simp
        rw [e, Nat.add_zero]
        have e2 : i + [b].length = i + 1 := rfl
        rw [e2, ih]
theorem splitB_one (b : UInt8) (s : ByteArray) : (splitB ⟨#[b]⟩ 0 (countB s ⟨#[b]⟩) s).map (·.data.toList) = splitOn b s.data.toList := by
  rw [splitB_data]
  exact splitK_one b _ s.data.toList (Nat.le_refl _)
theorem splitOn_length_count (b : UInt8) (s : List UInt8) : (splitOn b s).length = s.count b + 1 := by
  induction s with
  | nil => rfl
  | cons c r ih =>
    by_cases h : c = b
    · subst h
      rw [splitOn_cons_eq, List.length_cons, ih, List.count_cons_self]
    · rw [splitOn_cons_ne h, List.count_cons_of_ne h]
      cases hs : splitOn b r with
      | nil => exact absurd hs (splitOn_ne _ _)
      | cons x t => rw [hs] at ih; simpa [prep] using ih
theorem splitOn_length_le (b : UInt8) (s : List UInt8) : (splitOn b s).length ≤ s.length + 1 := by
  rw [splitOn_length_count]
  have := List.count_le_length (a := b) (l := s)
  omega

/-! ### joining -/
theorem join_snoc (L : List (List UInt8)) (y sep : List UInt8) (h : L ≠ []) : join (L ++ [y]) sep = join L sep ++ sep ++ y := by
  cases L with
  | nil => exact absurd rfl h
  | cons x t =>
    rw [List.cons_append, join_cons, join_cons]
    simp [joinTail]

/-! ### numerals -/
def isDg (b : UInt8) : Bool := 48 ≤ b && b ≤ 57
/-- The numeral's value. -/
def dval (l : List UInt8) : Nat := l.foldl (fun n b => 10 * n + (b.toNat - 48)) 0
/-- A canonical numeral of at most k digits. -/
def readNum (k : Nat) (l : List UInt8) : Option Nat :=
  if l.length = 0 ∨ k < l.length ∨ (1 < l.length ∧ l.head? = some 48) ∨ l.all isDg = false then none else some (dval l)
theorem dval_snoc (l : List UInt8) (b : UInt8) : dval (l ++ [b]) = 10 * dval l + (b.toNat - 48) := by
  simp [dval]
theorem isDg_of {d : Nat} (h : d < 10) : isDg (UInt8.ofNat (48 + d)) = true := by
  have : ∀ d : Fin 10, isDg (UInt8.ofNat (48 + d.val)) = true := by decide
  exact this ⟨d, h⟩
theorem toNat_of {d : Nat} (h : d < 10) : (UInt8.ofNat (48 + d)).toNat = 48 + d := by
  have : ∀ d : Fin 10, (UInt8.ofNat (48 + d.val)).toNat = 48 + d.val := by decide
  exact this ⟨d, h⟩
theorem isDg_iff (b : UInt8) : isDg b = true ↔ 48 ≤ b.toNat ∧ b.toNat ≤ 57 := by
  unfold isDg
  simp [UInt8.le_iff_toNat_le]
theorem of_isDg {b : UInt8} (h : isDg b = true) : b = UInt8.ofNat (48 + (b.toNat - 48)) ∧ b.toNat - 48 < 10 := by
  have h' := (isDg_iff b).1 h
  refine ⟨?_, by omega⟩
  rw [show 48 + (b.toNat - 48) = b.toNat by omega]
  simp
theorem decDigits_small {u : Nat} (h : u < 10) : decDigits u = [UInt8.ofNat (48 + u)] := decDigits_one h
theorem decDigits_big {u : Nat} (h : ¬ u < 10) : decDigits u = decDigits (u / 10) ++ [UInt8.ofNat (48 + u % 10)] := by rw [decDigits, dif_neg h]
theorem decDigits_ne (u : Nat) : decDigits u ≠ [] := by
  by_cases h : u < 10
  · rw [decDigits_small h]; simp
  · rw [decDigits_big h]; simp
theorem decDigits_all (u : Nat) : (decDigits u).all isDg = true := by
  induction u using Nat.strongRecOn with
  | _ u ih =>
    by_cases h : u < 10
    · rw [decDigits_small h, List.all_cons, isDg_of h]; rfl
    · rw [decDigits_big h, List.all_append, ih (u / 10) (by omega), List.all_cons, isDg_of (Nat.mod_lt u (by decide : 0 < 10))]; rfl
theorem decDigits_val (u : Nat) : dval (decDigits u) = u := by
  induction u using Nat.strongRecOn with
  | _ u ih =>
    by_cases h : u < 10
    · rw [decDigits_small h]
      show 10 * 0 + ((UInt8.ofNat (48 + u)).toNat - 48) = u
      rw [toNat_of h]
      omega
    · rw [decDigits_big h, dval_snoc, ih (u / 10) (by omega), toNat_of (Nat.mod_lt u (by decide : 0 < 10))]
      omega
theorem decDigits_head (u : Nat) (h : 0 < u) : (decDigits u).head? ≠ some 48 := by
  induction u using Nat.strongRecOn with
  | _ u ih =>
    by_cases h' : u < 10
    · rw [decDigits_small h']
      have : ∀ d : Fin 10, 0 < d.val → ([UInt8.ofNat (48 + d.val)] : List UInt8).head? ≠ some 48 := by decide
      exact this ⟨u, h'⟩ h
    · rw [decDigits_big h']
      have hh := ih (u / 10) (by omega) (by omega)
      cases hd : decDigits (u / 10) with
      | nil => exact absurd hd (decDigits_ne _)
      | cons c r => rw [hd] at hh; simpa using hh
theorem decDigits_len {u k : Nat} (h : u < 10 ^ (k + 1)) : (decDigits u).length ≤ k + 1 := by
  induction k generalizing u with
  | zero => rw [decDigits_small (by simpa using h)]; simp
  | succ k ih =>
    by_cases h' : u < 10
    · rw [decDigits_small h']; simp
    · rw [decDigits_big h', List.length_append]
      have := ih (u := u / 10) (by rw [Nat.pow_succ] at h; omega)
      simp; omega
theorem readNum_dec {u k : Nat} (h : u < 10 ^ (k + 1)) : readNum (k + 1) (decDigits u) = some u := by
  unfold readNum
  rw [if_neg, decDigits_val]
  rintro (h1 | h1 | ⟨h1, h2⟩ | h1)
  · exact decDigits_ne u (List.eq_nil_of_length_eq_zero h1)
  · have := decDigits_len h; omega
  · by_cases h0 : u = 0
    · subst h0
      rw [decDigits_small (by decide)] at h1
      simp at h1
    · exact decDigits_head u (by omega) h2
  · rw [decDigits_all] at h1; cases h1
theorem snocInd {p : List UInt8 → Prop} (h0 : p []) (h1 : ∀ l b, p l → p (l ++ [b])) (l : List UInt8) : p l := by
  have h : ∀ r : List UInt8, p r.reverse := by
    intro r
    induction r with
    | nil => exact h0
    | cons b r ih => rw [List.reverse_cons]; exact h1 _ _ ih
  have := h l.reverse
  rwa [List.reverse_reverse] at this
theorem dval_pos : ∀ (l : List UInt8), l.all isDg = true → l ≠ [] → l.head? ≠ some 48 → 0 < dval l := by
  intro l
  induction l using snocInd with
  | h0 => intro _ h; exact absurd rfl h
  | h1 l b ih =>
    intro ha _ hh
    rw [dval_snoc]
    rw [List.all_append] at ha
    simp at ha
    cases l with
    | nil =>
      have hb := (isDg_iff b).1 ha.2
      have : b ≠ 48 := by simpa using hh
      have : b.toNat ≠ 48 := fun e => this (by rw [← UInt8.toNat_inj]; exact e)
      simp [dval]; omega
    | cons c r =>
      have := ih (List.all_eq_true.2 ha.1) (by simp) (by simpa using hh)
      omega
/-- What is read is the value's numeral. -/
theorem dec_of_read {k : Nat} {l : List UInt8} {u : Nat} (h : readNum k l = some u) : l = decDigits u ∧ l.length ≤ k := by
  unfold readNum at h
  split at h
  · cases h
  · rename_i hn
    simp only [not_or] at hn
    obtain ⟨h1, h2, h3, h4⟩ := hn
    have ha : l.all isDg = true := by simpa using h4
    have hu : dval l = u := Option.some.inj h
    refine ⟨?_, by omega⟩
    subst hu
    clear h2 h4 h
    induction l using snocInd with
    | h0 => simp at h1
    | h1 l b ih =>
      rw [List.all_append] at ha
      simp at ha
      obtain ⟨eb, hb⟩ := of_isDg ha.2
      rw [dval_snoc]
      cases l with
      | nil =>
        have e : 10 * dval [] + (b.toNat - 48) = b.toNat - 48 := by simp [dval]
        rw [e, decDigits_small hb, ← eb]
        rfl
      | cons c r =>
        have hall : (c :: r).all isDg = true := List.all_eq_true.2 ha.1
        have hc : (c :: r).head? ≠ some 48 := fun e => h3 ⟨by simp, by simpa using e⟩
        have hp := dval_pos (c :: r) hall (by simp) hc
        have ih' := ih (by simp) (fun e => hc e.2) hall
        rw [decDigits_big (by omega), show (10 * dval (c :: r) + (b.toNat - 48)) / 10 = dval (c :: r) by omega, show (10 * dval (c :: r) + (b.toNat - 48)) % 10 = b.toNat - 48 by omega, ← ih', ← eb]
end Go.Proofs.YtkekpolfdmmgeaaGreatDoor

/- Texts, plain: the text of points, and reading it. -/
namespace Go.Proofs.YtkekpolfdmmgeaaGreatDoor
set_option linter.unusedVariables false
set_option linter.unusedSimpArgs false
set_option linter.unnecessarySimpa false
open Go.Lib

def ptN (u : Nat) : List UInt8 := decDigits (u / 100) ++ 46 :: (decDigits (u / 10 % 10) ++ decDigits (u % 10))
def ptxt (n : Int) : List UInt8 := if n < 0 then 45 :: ptN n.natAbs else ptN n.toNat
def ptGood (n : Int) : Prop := -1000000 ≤ n ∧ n ≤ 1000000
def IsRead (s : List UInt8) (v : Int) (ok : Bool) : Prop := (ok = true ∧ ptGood v ∧ ptxt v = s) ∨ (ok = false ∧ v = 0 ∧ ∀ n, ptGood n → ptxt n ≠ s)
theorem dg_notin {u : Nat} {b : UInt8} (h : isDg b = false) : b ∉ decDigits u := by
  intro hm
  have := List.all_eq_true.1 (decDigits_all u) b hm
  rw [h] at this
  cases this
theorem ptN_split (u : Nat) : splitOn 46 (ptN u) = [decDigits (u / 100), decDigits (u / 10 % 10) ++ decDigits (u % 10)] := by
  unfold ptN
  rw [splitOn_hit (dg_notin (by decide)), splitOn_none]
  intro hm
  rcases List.mem_append.1 hm with h | h
  · exact dg_notin (by decide) h
  · exact dg_notin (by decide) h
theorem ptN_head (u : Nat) : ∃ c r, ptN u = c :: r ∧ isDg c = true := by
  unfold ptN
  cases h : decDigits (u / 100) with
  | nil => exact absurd h (decDigits_ne _)
  | cons c r =>
    refine ⟨c, r ++ 46 :: (decDigits (u / 10 % 10) ++ decDigits (u % 10)), rfl, ?_⟩
    have := decDigits_all (u / 100)
    rw [h] at this
    simp at this
    exact this.1
theorem ptN_ne (u : Nat) (r : List UInt8) : ptN u ≠ 45 :: r := by
  obtain ⟨c, r', e, hc⟩ := ptN_head u
  rw [e]
  intro h
  injection h with h1 h2
  subst h1
  revert hc
  decide
theorem ptN_inj {u v : Nat} (h : ptN u = ptN v) : u = v := by
  have h1 : splitOn 46 (ptN u) = splitOn 46 (ptN v) := by rw [h]
  rw [ptN_split, ptN_split] at h1
  injection h1 with a b
  injection b with b _
  have ha := congrArg dval a
  rw [decDigits_val, decDigits_val] at ha
  have small : ∀ w : Nat, decDigits (w / 10 % 10) ++ decDigits (w % 10) = [UInt8.ofNat (48 + w / 10 % 10), UInt8.ofNat (48 + w % 10)] := by
    intro w
    rw [decDigits_small (Nat.mod_lt _ (by decide)), decDigits_small (Nat.mod_lt _ (by decide))]
    rfl
  rw [small u, small v] at b
  injection b with b1 b2
  injection b2 with b2 _
  have c1 := congrArg UInt8.toNat b1
  have c2 := congrArg UInt8.toNat b2
  rw [toNat_of (Nat.mod_lt _ (by decide)), toNat_of (Nat.mod_lt _ (by decide))] at c1
  rw [toNat_of (Nat.mod_lt _ (by decide)), toNat_of (Nat.mod_lt _ (by decide))] at c2
  omega
theorem ptxt_inj {a b : Int} (h : ptxt a = ptxt b) : a = b := by
  unfold ptxt at h
  by_cases ha : a < 0 <;> by_cases hb : b < 0
  · rw [if_pos ha, if_pos hb] at h
    injection h with _ h
    have := ptN_inj h
    omega
  · rw [if_pos ha, if_neg hb] at h
    exact absurd h.symm (ptN_ne _ _)
  · rw [if_neg ha, if_pos hb] at h
    exact absurd h (ptN_ne _ _)
  · rw [if_neg ha, if_neg hb] at h
    have := ptN_inj h
    omega
theorem IsRead.same {s : List UInt8} {v v' : Int} {ok ok' : Bool} (h : IsRead s v ok) (h' : IsRead s v' ok') : v = v' ∧ ok = ok' := by
  rcases h with ⟨rfl, g, e⟩ | ⟨rfl, rfl, n⟩ <;> rcases h' with ⟨rfl, g', e'⟩ | ⟨rfl, rfl, n'⟩
  · exact ⟨ptxt_inj (e.trans e'.symm), rfl⟩
  · exact absurd e (n' _ g)
  · exact absurd e' (n _ g')
  · exact ⟨rfl, rfl⟩
/-- What stands behind the sign, and whether there is one. -/
theorem ptxt_sign (n : Int) : trimPrefix (ptxt n) [45] = ptN n.natAbs ∧ hasPrefix (ptxt n) [45] = decide (n < 0) := by
  unfold ptxt trimPrefix hasPrefix
  by_cases h : n < 0
  · rw [if_pos h]
    simp [List.isPrefixOf, h]
  · rw [if_neg h]
    obtain ⟨c, r, e, hc⟩ := ptN_head n.toNat
    have hne : (45 == c) = false := by
      rw [beq_eq_false_iff_ne]
      rintro rfl
      revert hc
      decide
    have e2 : n.natAbs = n.toNat := by omega
    rw [e2, e]
    simp [List.isPrefixOf, hne, h]
theorem ptN_cut (u : Nat) : cut (ptN u) [46] = (decDigits (u / 100), decDigits (u / 10 % 10) ++ decDigits (u % 10), true) := by
  rcases index_one 46 (ptN u) with ⟨_, h⟩ | ⟨i, hi, hlt, hn, hs⟩
  · exact absurd (by simp [ptN]) h
  · have h2 : splitOn 46 (ptN u) = (ptN u).take i :: splitOn 46 ((ptN u).drop (i + 1)) := by
      conv => lhs; rw [hs, splitOn_hit hn]
    rw [ptN_split] at h2
    injection h2 with a b
    have e3 : splitOn 46 ((ptN u).drop (i + 1)) = [(ptN u).drop (i + 1)] := by
      have hj := splitOn_join 46 ((ptN u).drop (i + 1))
      rw [← b, join_one] at hj
      rw [← b, hj]
    rw [e3] at b
    injection b with b _
    unfold cut
    rw [if_pos (by omega), hi]
    simp only [Int.toNat_natCast, List.length_cons, List.length_nil]
    rw [← a, ← b]
theorem two_digits (u : Nat) : decDigits (u / 10 % 10) ++ decDigits (u % 10) = [UInt8.ofNat (48 + u / 10 % 10), UInt8.ofNat (48 + u % 10)] := by
  rw [decDigits_small (Nat.mod_lt _ (by decide)), decDigits_small (Nat.mod_lt _ (by decide))]
  rfl
/-- The cents, read without a leading zero. -/
theorem cents_read (u : Nat) : readNum 12 (trimPrefix (decDigits (u / 10 % 10) ++ decDigits (u % 10)) [48]) = some (u % 100) := by
  rw [two_digits]
  have h : ∀ a b : Fin 10, readNum 12 (trimPrefix [UInt8.ofNat (48 + a.val), UInt8.ofNat (48 + b.val)] [48]) = some (a.val * 10 + b.val) := by decide
  have := h ⟨u / 10 % 10, Nat.mod_lt _ (by decide)⟩ ⟨u % 10, Nat.mod_lt _ (by decide)⟩
  simp only at this
  rw [this]
  congr 1
  omega
end Go.Proofs.YtkekpolfdmmgeaaGreatDoor

/- What a call keeps; ranges of numbers. -/
namespace Go.Proofs.YtkekpolfdmmgeaaGreatDoor
set_option linter.unusedVariables false
set_option linter.unusedSimpArgs false
open Go.RowKit

/-! ### what is kept -/
def Kept (w w' : World) : Prop := Below w.heap.size w w'
theorem Kept.refl (w : World) : Kept w w := Below.refl _ _
theorem Kept.trans {a b c : World} (h : Kept a b) (k : Kept b c) : Kept a c := Below.trans h (Below.mono k h.size)
theorem Kept.drew {a b : World} (h : Kept a b) : Kept a b.drew := Below.drew h
theorem Kept.drewN {a b : World} (h : Kept a b) (n : Nat) : Kept a (b.drewN n) := ⟨h.os, h.tape, h.output, h.size, h.block⟩
theorem Kept.alloc {a b : World} (h : Kept a b) (o : Obj) : Kept a (b.alloc o) := Below.alloc h h.size o
theorem Kept.setCell {a b : World} (h : Kept a b) {p : Addr} (hp : a.heap.size ≤ p.block) (u : Value) : Kept a (b.setCell p u) := Below.setCell h hp u
theorem Kept.cell {a b : World} (h : Kept a b) {p : Addr} (hp : p.block < a.heap.size) : b.cell? p = a.cell? p := Below.cell h hp
theorem kept_of {a b : World} (h : a = b) : Kept a b := h ▸ Kept.refl a
theorem ret_int {k : IntKind} {a b : Int} (h : a = b) : Ending.returned (.int k a) = .returned (.int k b) := by rw [h]

/-! ### plain functions -/
def inB (n lo hi : Int) : Bool := decide (lo ≤ n) && decide (n ≤ hi)
theorem inB_true {n lo hi : Int} (h : inB n lo hi = true) : lo ≤ n ∧ n ≤ hi := by simpa [inB] using h
theorem inB_of {n lo hi : Int} (h1 : lo ≤ n) (h2 : n ≤ hi) : inB n lo hi = true := by simp [inB, h1, h2]
theorem ret_bool {a b : Bool} (h : a = b) : Ending.returned (.bool a) = .returned (.bool b) := by rw [h]

/-! ### walks -/
theorem l1In_any (n lo hi : Int) (w : World) :
    Calls Tryz.prog 100 #[.int .i64 n, .int .i64 lo, .int .i64 hi] w fun e w' => e = .returned (.bool (inB n lo hi)) ∧ w = w' := by
  go_enter Tryz.func100, Tryz.ntmps100
  go_wp2
  all_goals
    go_ret
    refine ⟨?_, rfl⟩
    simp [inB]
    try omega
theorem within_any (n lo hi : Int) (w : World) :
    Calls Tryz.prog 68 #[.int .i64 n, .int .i64 lo, .int .i64 hi] w fun e w' => e = .returned (.bool (inB n lo hi)) ∧ w = w' := by
  go_enter Tryz.func68, Tryz.ntmps68
  go_wp2
  all_goals
    go_ret
    refine ⟨?_, rfl⟩
    simp [inB]
    try omega
end Go.Proofs.YtkekpolfdmmgeaaGreatDoor

/- Words for memory: slices that read as lists, rows that the call owns. -/
namespace Go.Proofs.YtkekpolfdmmgeaaGreatDoor
set_option linter.unusedVariables false
set_option linter.unusedSimpArgs false
open Go.RowKit

/-- 'v' is a slice of n elements whose cells read as xs -/
def Seq (w : World) (v : Value) (n : Nat) (xs : List Value) : Prop :=
  ∃ A c, v = .slice A n c ∧ n ≤ c ∧ c ≤ maxLen ∧ (A = none → c = 0) ∧ (0 < n → ∃ b o, A = some ⟨b, o, none⟩ ∧ b < w.heap.size ∧ ∀ j u, xs[j]? = some u → w.cell? ⟨b, o + j, none⟩ = some u)
/-- what the words above give, the slice written out -/
def SeqA (w : World) (A : Option Addr) (n : Nat) (xs : List Value) : Prop :=
  0 < n → ∃ b o, A = some ⟨b, o, none⟩ ∧ b < w.heap.size ∧ ∀ j u, xs[j]? = some u → w.cell? ⟨b, o + j, none⟩ = some u
theorem Seq.out {w : World} {v : Value} {n : Nat} {xs : List Value} (h : Seq w v n xs) : ∃ A c, v = .slice A n c ∧ n ≤ c ∧ c ≤ maxLen ∧ SeqA w A n xs := by
  obtain ⟨A, c, e, h1, h2, _, h3⟩ := h
  exact ⟨A, c, e, h1, h2, h3⟩
theorem SeqA.kept {w w' : World} {A : Option Addr} {n : Nat} {xs : List Value} (h : SeqA w A n xs) (hk : Kept w w') : SeqA w' A n xs := by
  intro hn
  obtain ⟨b, o, e, hb, hc⟩ := h hn
  exact ⟨b, o, e, Nat.lt_of_lt_of_le hb hk.size, fun j u hu => (hk.cell (p := ⟨b, o + j, none⟩) hb).trans (hc j u hu)⟩
theorem Seq.kept {w w' : World} {v : Value} {n : Nat} {xs : List Value} (h : Seq w v n xs) (hk : Kept w w') : Seq w' v n xs := by
  obtain ⟨A, c, e, h1, h2, h0, h3⟩ := h
  exact ⟨A, c, e, h1, h2, h0, SeqA.kept h3 hk⟩
theorem Seq.addr {w : World} {A : Option Addr} {n c : Nat} {xs : List Value} (h : Seq w (.slice A n c) n xs) : SeqA w A n xs := by
  obtain ⟨A', c', e, _, _, _, h3⟩ := h
  injection e with e1
  subst e1
  exact h3
theorem Seq.nil (w : World) : Seq w (.slice none 0 0) 0 [] := ⟨none, 0, rfl, Nat.le_refl _, Nat.zero_le _, fun _ => rfl, fun h => absurd h (by omega)⟩
theorem Seq.of_own {w : World} {base : Nat} {e : TypeId} {size : Nat} {v : Value} {n : Nat} {xs : List Value} (h : w.ownsRow base e size v n xs) : Seq w v n xs := by
  rcases h.2 with ⟨rfl, rfl⟩ | ⟨g, cap, cur, rfl, hb, hg, hnc, hcm, hcs, htake⟩
  · exact ⟨none, 0, rfl, Nat.le_refl _, Nat.zero_le _, fun _ => rfl, fun h => absurd h (by omega)⟩
  · refine ⟨_, cap, rfl, hnc, hcm, (fun h => by cases h), fun _ => ⟨g, 0, rfl, (Array.getElem?_eq_some_iff.1 hg).1, fun j u hu => ?_⟩⟩
    have hj : j < n * size := by
      have := (List.getElem?_eq_some_iff.1 hu).1
      rw [h.1] at this
      exact this
    rw [Nat.zero_add, h.cellAt j hj]
    exact hu
theorem SeqA.at_ {w : World} {A : Option Addr} {n : Nat} {xs : List Value} {j : Nat} {u : Value} (h : SeqA w A n xs) (hn : 0 < n) (hu : xs[j]? = some u) :
    ∃ b o, A = some ⟨b, o, none⟩ ∧ b < w.heap.size ∧ w.cell? ⟨b, o + j, none⟩ = some u := by
  obtain ⟨b, o, e, hb, hc⟩ := h hn
  exact ⟨b, o, e, hb, hc j u hu⟩

def Ints (w : World) (v : Value) (zs : List Int) : Prop := Seq w v zs.length (zs.map (Value.int .i64))
def OwnI (w : World) (base : Nat) (v : Value) (zs : List Int) : Prop := w.ownsRow base 3 1 v zs.length (zs.map (Value.int .i64))
theorem Ints.kept {w w' : World} {v : Value} {zs : List Int} (h : Ints w v zs) (hk : Kept w w') : Ints w' v zs := Seq.kept h hk
theorem OwnI.ints {w : World} {base : Nat} {v : Value} {zs : List Int} (h : OwnI w base v zs) : Ints w v zs := Seq.of_own h
theorem ints_at {w : World} {A : Option Addr} {zs : List Int} (h : SeqA w A zs.length (zs.map (Value.int .i64))) {k : Nat} (hk : k < zs.length) :
    ∃ b o z, A = some ⟨b, o, none⟩ ∧ b < w.heap.size ∧ zs[k]? = some z ∧ w.cell? ⟨b, o + k, none⟩ = some (.int .i64 z) := by
  have hz : zs[k]? = some zs[k] := List.getElem?_eq_getElem hk
  obtain ⟨b, o, e, hb, hc⟩ := h.at_ (j := k) (u := .int .i64 zs[k]) (by omega) (by rw [List.getElem?_map, hz]; rfl)
  exact ⟨b, o, _, e, hb, hz, hc⟩

theorem take_snoc {α : Type} {l : List α} {k : Nat} {x : α} (h : l[k]? = some x) : l.take (k + 1) = l.take k ++ [x] := by
  rw [List.take_add_one, h]; rfl
theorem all_snoc {α : Type} {l : List α} {k : Nat} {x : α} {p : α → Bool} (h : l[k]? = some x) (ha : (l.take k).all p = true) (hx : p x = true) : (l.take (k + 1)).all p = true := by
  rw [take_snoc h, List.all_append, ha]; simp [hx]
theorem all_not {α : Type} {l : List α} {k : Nat} {x : α} {p : α → Bool} (h : l[k]? = some x) (hx : p x = false) : l.all p = false := by
  rw [List.all_eq_false]
  obtain ⟨hk, e⟩ := List.getElem?_eq_some_iff.1 h
  exact ⟨x, by rw [← e]; exact List.getElem_mem hk, by simp [hx]⟩
theorem all_full {α : Type} {l : List α} {k : Nat} {p : α → Bool} (hk : l.length ≤ k) (ha : (l.take k).all p = true) : l.all p = true := by
  rwa [List.take_of_length_le hk] at ha

theorem info_int : (Tryz.prog.info? 3).map (fun i => (i.zero, i.size, i.bytes)) = some (some (.int .i64 0), 1, 8) := by kernel_rfl

theorem own_at {w : World} {base : Nat} {e : TypeId} {size n cap g : Nat} {xs : List Value} (h : w.ownsRow base e size (.slice (some ⟨g, 0, none⟩) n cap) n xs) {j : Nat} (hj : j < n * size) :
    ∃ u, xs[j]? = some u ∧ w.cell? ⟨g, j, none⟩ = some u ∧ w.frozen? ⟨g, j, none⟩ = false := by
  have hx : xs[j]? = some (xs[j]'(by rw [h.1]; exact hj)) := List.getElem?_eq_getElem _
  exact ⟨_, hx, (h.cellAt j hj).trans hx, h.frozenAt j⟩
theorem set_take {α : Type} {xs ys : List α} {k : Nat} {u : α} (hk : k < xs.length) (ht : xs.take k = ys.take k) (hu : ys[k]? = some u) : (xs.set k u).take (k + 1) = ys.take (k + 1) := by
  rw [take_snoc hu, ← ht, take_snoc (x := u) (by rw [List.getElem?_set_self hk])]
  congr 1
  rw [List.take_set_of_le (Nat.le_refl k)]
theorem take_full {α : Type} {xs ys : List α} {n : Nat} (h1 : xs.length = n) (h2 : ys.length = n) (ht : xs.take n = ys.take n) : xs = ys := by
  rwa [List.take_of_length_le (by omega), List.take_of_length_le (by omega)] at ht

theorem l1All_any (v : Value) (zs : List Int) (lo hi : Int) (w : World) (h : Ints w v zs) :
    Calls Tryz.prog 101 #[v, .int .i64 lo, .int .i64 hi] w fun e w' => e = .returned (.bool (zs.all (inB · lo hi))) ∧ w = w' := by
  obtain ⟨A, c, rfl, hnc, hcm, hl⟩ := h.out
  unfold maxLen at hcm
  have HL := Lib.hid hl
  clear hl h
  go_enter Tryz.func101, Tryz.ntmps101
  go_wp2
  go_loop [11] (fun i => ∃ k : Nat, k ≤ zs.length ∧ i = .int .i64 k ∧ (zs.take k).all (inB · lo hi) = true) (fun i => zs.length - (intOf i).toNat)
  case atStart => exact ⟨0, Nat.zero_le _, rfl, rfl⟩
  case round =>
    obtain ⟨k, hk, rfl, ha⟩ := hrel
    have HA := Lib.hid ha
    clear ha
    by_cases hlt : k < zs.length
    · obtain ⟨b, o, z, rfl, hb, hz, hc⟩ := ints_at HL.out hlt
      have HZ := Lib.hid hz
      clear hz
      go_wp2_with (go_at_call 100; refine (l1In_any _ _ _ _).mono ?_; rintro e w' ⟨rfl, rfl⟩)
      · have hx : (!inB z lo hi) = true := by assumption
        go_ret
        exact ⟨ret_bool (all_not (p := (inB · lo hi)) HZ.out (by simpa using hx)).symm, rfl⟩
      · have hx : (!inB z lo hi) = false := by assumption
        go_round
        case rel => exact ⟨k + 1, by omega, by go_num, all_snoc HZ.out HA.out (by simpa using hx)⟩
        case measure => simp [intOf]; omega
    · go_wp2
      go_ret
      exact ⟨ret_bool (all_full (by omega) HA.out).symm, rfl⟩
theorem allWithin_any (v : Value) (zs : List Int) (lo hi : Int) (w : World) (h : Ints w v zs) :
    Calls Tryz.prog 73 #[v, .int .i64 lo, .int .i64 hi] w fun e w' => e = .returned (.bool (zs.all (inB · lo hi))) ∧ w = w' := by
  obtain ⟨A, c, rfl, hnc, hcm, hl⟩ := h.out
  unfold maxLen at hcm
  have HL := Lib.hid hl
  clear hl h
  go_enter Tryz.func73, Tryz.ntmps73
  go_wp2
  go_loop [11] (fun i => ∃ k : Nat, k ≤ zs.length ∧ i = .int .i64 k ∧ (zs.take k).all (inB · lo hi) = true) (fun i => zs.length - (intOf i).toNat)
  case atStart => exact ⟨0, Nat.zero_le _, rfl, rfl⟩
  case round =>
    obtain ⟨k, hk, rfl, ha⟩ := hrel
    have HA := Lib.hid ha
    clear ha
    by_cases hlt : k < zs.length
    · obtain ⟨b, o, z, rfl, hb, hz, hc⟩ := ints_at HL.out hlt
      have HZ := Lib.hid hz
      clear hz
      go_wp2_with (go_at_call 68; refine (within_any _ _ _ _).mono ?_; rintro e w' ⟨rfl, rfl⟩)
      · have hx : (!inB z lo hi) = true := by assumption
        go_ret
        exact ⟨ret_bool (all_not (p := (inB · lo hi)) HZ.out (by simpa using hx)).symm, rfl⟩
      · have hx : (!inB z lo hi) = false := by assumption
        go_round
        case rel => exact ⟨k + 1, by omega, by go_num, all_snoc HZ.out HA.out (by simpa using hx)⟩
        case measure => simp [intOf]; omega
    · go_wp2
      go_ret
      exact ⟨ret_bool (all_full (by omega) HA.out).symm, rfl⟩
end Go.Proofs.YtkekpolfdmmgeaaGreatDoor

/- Names: contracts of the functions that look at a string's bytes. -/
namespace Go.Proofs.YtkekpolfdmmgeaaGreatDoor
set_option linter.unusedVariables false
set_option linter.unusedSimpArgs false
open Go.RowKit

theorem str_ext {a b : ByteArray} (h : a.toList = b.toList) : a = b := by
  rw [ByteArray.toList_eq, ByteArray.toList_eq] at h
  obtain ⟨a⟩ := a
  obtain ⟨b⟩ := b
  congr 1
  exact Array.ext' h
def nmB (c : UInt8) : Bool := (decide (65 ≤ c.toNat) && decide (c.toNat ≤ 90)) || (decide (48 ≤ c.toNat) && decide (c.toNat ≤ 57))
def nameB (s : ByteArray) : Bool := s.data.toList.all nmB && inB s.size 1 5
theorem byte_get (s : ByteArray) (k : Nat) (h : k < s.size) : s.data.toList[k]? = some s[k] := by
  rw [List.getElem?_eq_getElem (by simpa using h)]
  rfl
theorem byte_cases (c : Nat) : c < 48 ∨ (48 ≤ c ∧ c ≤ 57) ∨ (57 < c ∧ c < 65) ∨ (65 ≤ c ∧ c ≤ 90) ∨ 90 < c := by omega

set_option maxHeartbeats 1000000 in
theorem isElementName_any (s : ByteArray) (w : World) (hs : s.size ≤ maxLen) :
    Calls Tryz.prog 74 #[.string s] w fun e w' => e = .returned (.bool (nameB s)) ∧ w = w' := by
  unfold maxLen at hs
  go_enter Tryz.func74, Tryz.ntmps74
  go_wp2
  go_loop [3] (fun i => ∃ k : Nat, k ≤ s.size ∧ i = .int .i64 k ∧ (s.data.toList.take k).all nmB = true) (fun i => s.size - (intOf i).toNat)
  case atStart => exact ⟨0, Nat.zero_le _, rfl, rfl⟩
  case round =>
    obtain ⟨k, hk, rfl, ha⟩ := hrel
    have HA := Lib.hid ha
    clear ha
    by_cases hlt : k < s.size
    · have HZ := Lib.hid (byte_get s k hlt)
      have hlt' : (k : Int) < (s.size : Int) := by omega
      rcases byte_cases s[k].toNat with hc | hc | hc | hc | hc
      all_goals
        go_wp2
        first
          | (go_ret
             exact ⟨ret_bool (by unfold nameB; rw [all_not HZ.out (by unfold nmB; simp; omega)]; rfl), rfl⟩)
          | (go_round
             case rel => exact ⟨k + 1, by omega, by go_num, all_snoc HZ.out HA.out (by unfold nmB; simp; omega)⟩
             case measure => simp [intOf]; omega)
    · go_wp2_with (go_at_call 68; refine (within_any _ _ _ _).mono ?_; rintro e w' ⟨rfl, rfl⟩)
      go_ret
      exact ⟨ret_bool (by unfold nameB; rw [all_full (by simp; omega) HA.out]; simp), rfl⟩
set_option maxHeartbeats 1000000 in
theorem cdName_any (s : ByteArray) (w : World) (hs : s.size ≤ maxLen) :
    Calls Tryz.prog 126 #[.string s] w fun e w' => e = .returned (.bool (nameB s)) ∧ w = w' := by
  unfold maxLen at hs
  go_enter Tryz.func126, Tryz.ntmps126
  go_wp2
  go_loop [3] (fun i => ∃ k : Nat, k ≤ s.size ∧ i = .int .i64 k ∧ (s.data.toList.take k).all nmB = true) (fun i => s.size - (intOf i).toNat)
  case atStart => exact ⟨0, Nat.zero_le _, rfl, rfl⟩
  case round =>
    obtain ⟨k, hk, rfl, ha⟩ := hrel
    have HA := Lib.hid ha
    clear ha
    by_cases hlt : k < s.size
    · have HZ := Lib.hid (byte_get s k hlt)
      have hlt' : (k : Int) < (s.size : Int) := by omega
      rcases byte_cases s[k].toNat with hc | hc | hc | hc | hc
      all_goals
        go_wp2
        first
          | (go_ret
             exact ⟨ret_bool (by unfold nameB; rw [all_not HZ.out (by unfold nmB; simp; omega)]; rfl), rfl⟩)
          | (go_round
             case rel => exact ⟨k + 1, by omega, by go_num, all_snoc HZ.out HA.out (by unfold nmB; simp; omega)⟩
             case measure => simp [intOf]; omega)
    · go_wp2_with (go_at_call 100; refine (l1In_any _ _ _ _).mono ?_; rintro e w' ⟨rfl, rfl⟩)
      go_ret
      exact ⟨ret_bool (by unfold nameB; rw [all_full (by simp; omega) HA.out]; simp), rfl⟩
theorem itByte_any (c : UInt8) (w : World) :
    Calls Tryz.prog 122 #[.int .u8 c.toNat] w fun e w' => e = .returned (.bool (nmB c)) ∧ w = w' := by
  rcases byte_cases c.toNat with hc | hc | hc | hc | hc
  all_goals
    go_enter Tryz.func122, Tryz.ntmps122
    go_wp2
    go_ret
    refine ⟨?_, rfl⟩
    simp [nmB]
    try first | omega | (rw [Bool.eq_iff_iff]; simp; omega)
set_option maxHeartbeats 1000000 in
theorem itName_any (s : ByteArray) (w : World) (hs : s.size ≤ maxLen) :
    Calls Tryz.prog 95 #[.string s] w fun e w' => e = .returned (.bool (nameB s)) ∧ w = w' := by
  unfold maxLen at hs
  go_enter Tryz.func95, Tryz.ntmps95
  go_wp2
  go_loop [3] (fun i => ∃ k : Nat, k ≤ s.size ∧ i = .int .i64 k ∧ (s.data.toList.take k).all nmB = true) (fun i => s.size - (intOf i).toNat)
  case atStart => exact ⟨0, Nat.zero_le _, rfl, rfl⟩
  case round =>
    obtain ⟨k, hk, rfl, ha⟩ := hrel
    have HA := Lib.hid ha
    clear ha
    by_cases hlt : k < s.size
    · have HZ := Lib.hid (byte_get s k hlt)
      have hlt' : (k : Int) < (s.size : Int) := by omega
      by_cases hn : nmB s[k] = true
      all_goals
        try simp only [Bool.not_eq_true] at hn
        go_wp2_with (go_at_call 122; refine (itByte_any _ _).mono ?_; rintro e w' ⟨rfl, rfl⟩)
        first
          | (go_ret
             exact ⟨ret_bool (by unfold nameB; rw [all_not HZ.out hn]; rfl), rfl⟩)
          | (go_round
             case rel => exact ⟨k + 1, by omega, by go_num, all_snoc HZ.out HA.out hn⟩
             case measure => simp [intOf]; omega)
    · go_wp2_with (go_at_call 100; refine (l1In_any _ _ _ _).mono ?_; rintro e w' ⟨rfl, rfl⟩)
      go_ret
      exact ⟨ret_bool (by unfold nameB; rw [all_full (by simp; omega) HA.out]; simp), rfl⟩
theorem isName_any (s : ByteArray) (w : World) (hs : s.size ≤ maxLen) :
    Calls Tryz.prog 45 #[.string s] w fun e w' => e = .returned (.bool (nameB s)) ∧ w = w' := by
  go_enter Tryz.func45, Tryz.ntmps45
  go_wp2_with (go_at_call 74; refine (isElementName_any _ _ hs).mono ?_; rintro e w' ⟨rfl, rfl⟩)
  go_ret
  exact ⟨rfl, rfl⟩
theorem specIsName_any (s : ByteArray) (w : World) (hs : s.size ≤ maxLen) :
    Calls Tryz.prog 46 #[.string s] w fun e w' => e = .returned (.bool (nameB s)) ∧ w = w' := by
  go_enter Tryz.func46, Tryz.ntmps46
  go_wp2_with (go_at_call 95; refine (itName_any _ _ hs).mono ?_; rintro e w' ⟨rfl, rfl⟩)
  go_ret
  exact ⟨rfl, rfl⟩
end Go.Proofs.YtkekpolfdmmgeaaGreatDoor

/- Memory that the call owns: which blocks a step may have turned; append; marks. -/
namespace Go.Proofs.YtkekpolfdmmgeaaGreatDoor
set_option linter.unusedVariables false
set_option linter.unusedSimpArgs false
open Go.RowKit

/-- only the blocks of S, and new ones, have turned -/
structure Only (S : List Nat) (w w' : World) : Prop where
  os : w'.os = w.os
  tape : w'.tape = w.tape
  output : w'.output = w.output
  size : w.heap.size ≤ w'.heap.size
  block : ∀ b, b < w.heap.size → b ∉ S → w'.heap[b]? = w.heap[b]?
theorem Only.refl (S : List Nat) (w : World) : Only S w w := ⟨rfl, rfl, rfl, Nat.le_refl _, fun _ _ _ => rfl⟩
theorem Kept.only {w w' : World} (h : Kept w w') (S : List Nat) : Only S w w' := ⟨h.os, h.tape, h.output, h.size, fun b hb _ => h.block b hb⟩
theorem Only.trans {S : List Nat} {a b c : World} (h : Only S a b) (k : Only S b c) : Only S a c :=
  ⟨k.os.trans h.os, k.tape.trans h.tape, k.output.trans h.output, Nat.le_trans h.size k.size, fun i hi hn => (k.block i (Nat.lt_of_lt_of_le hi h.size) hn).trans (h.block i hi hn)⟩
theorem Only.mono {S T : List Nat} {a b : World} (h : Only S a b) (hs : ∀ x ∈ S, x ∈ T) : Only T a b :=
  ⟨h.os, h.tape, h.output, h.size, fun i hi hn => h.block i hi (fun hx => hn (hs i hx))⟩
/-- what was there when a0 stood is kept if S lies above -/
theorem Only.above {S : List Nat} {a0 a b : World} (h : Only S a b) (k : Kept a0 a) (hs : ∀ x ∈ S, a0.heap.size ≤ x) : Kept a0 b :=
  ⟨h.os.trans k.os, h.tape.trans k.tape, h.output.trans k.output, Nat.le_trans k.size h.size, fun i hi => (h.block i (Nat.lt_of_lt_of_le hi k.size) (fun hx => by have := hs i hx; omega)).trans (k.block i hi)⟩
theorem Only.drewN {S : List Nat} {a b : World} (h : Only S a b) (n : Nat) : Only S a (b.drewN n) := ⟨h.os, h.tape, h.output, h.size, h.block⟩
theorem Only.setCell {S : List Nat} {a b : World} (h : Only S a b) {p : Addr} (hp : p.block ∈ S) (u : Value) : Only S a (b.setCell p u) :=
  ⟨h.os, h.tape, h.output, by simpa [World.setCell] using h.size, fun i hi hn => (Below.heap_setCell b p u i (fun e => hn (e ▸ hp))).trans (h.block i hi hn)⟩

/-- the block that a slice value leads to -/
def fp (v : Value) : List Nat := v.ownBlock.toList
theorem fp_some (a : Addr) (n c : Nat) : fp (.slice (some a) n c) = [a.block] := rfl
theorem fp_none (n c : Nat) : fp (.slice none n c) = [] := rfl
theorem own_fp {w : World} {base : Nat} {e : TypeId} {size : Nat} {v : Value} {n : Nat} {xs : List Value} (h : w.ownsRow base e size v n xs) : ∀ b ∈ fp v, base ≤ b ∧ b < w.heap.size := by
  intro b hb
  exact h.lt b (by simpa [fp] using hb)
theorem own_only {w w' : World} {base : Nat} {e : TypeId} {size : Nat} {v : Value} {n : Nat} {xs : List Value} {S : List Nat} (h : w.ownsRow base e size v n xs) (ho : Only S w w') (hd : ∀ b ∈ fp v, b ∉ S) : w'.ownsRow base e size v n xs := by
  refine ⟨h.1, ?_⟩
  rcases h.2 with hn | ⟨g, cap, cur, rfl, hb, hgg, rest⟩
  · exact .inl hn
  · refine .inr ⟨g, cap, cur, rfl, hb, ?_, rest⟩
    rw [ho.block g (Array.getElem?_eq_some_iff.1 hgg).1 (hd g (by simp [fp_some]))]
    exact hgg
theorem own_kept {w w' : World} {base : Nat} {e : TypeId} {size : Nat} {v : Value} {n : Nat} {xs : List Value} (h : w.ownsRow base e size v n xs) (hk : Kept w w') : w'.ownsRow base e size v n xs :=
  own_only h (hk.only []) (fun _ _ => List.not_mem_nil)
theorem own_base {w : World} {base base' : Nat} {e : TypeId} {size : Nat} {v : Value} {n : Nat} {xs : List Value} (h : w.ownsRow base e size v n xs) (hb : base' ≤ base) : w.ownsRow base' e size v n xs := by
  refine ⟨h.1, ?_⟩
  rcases h.2 with hn | ⟨g, cap, cur, rfl, hg, rest⟩
  · exact .inl hn
  · exact .inr ⟨g, cap, cur, rfl, Nat.le_trans hb hg, rest⟩
/-- what lies from 'base' on is kept where only blocks below it have turned -/
theorem own_far {w w' : World} {base base' : Nat} {e : TypeId} {size : Nat} {v : Value} {n : Nat} {xs : List Value} {S : List Nat} (h : w.ownsRow base e size v n xs) (ho : Only S w w') (hS : ∀ b ∈ S, b < base) (hb : base' ≤ base) : w'.ownsRow base' e size v n xs :=
  own_only (own_base h hb) ho (fun b hv hs => by have := (own_fp h b hv).1; have := hS b hs; omega)
theorem OwnI.kept {w w' : World} {base : Nat} {v : Value} {zs : List Int} (h : OwnI w base v zs) (hk : Kept w w') : OwnI w' base v zs := own_kept h hk
theorem OwnI.only {w w' : World} {base : Nat} {v : Value} {zs : List Int} {S : List Nat} (h : OwnI w base v zs) (ho : Only S w w') (hd : ∀ b ∈ fp v, b ∉ S) : OwnI w' base v zs := own_only h ho hd
theorem only_of_grown {w w' : World} {v : Value} (h : w.grownBy w' v.ownBlock) : Only (fp v) w w' :=
  ⟨h.os, h.tape, h.output, h.size, fun b hb hn => h.block b hb (fun e => hn (by simp [fp, ← e]))⟩

/-- block b is just the cells cs of element type t, none frozen -/
def Box (w : World) (b : Nat) (t : TypeId) (cs : Array Value) : Prop := w.heap[b]? = some (.cells cs t (0, 0))
theorem Box.lt {w : World} {b : Nat} {t : TypeId} {cs : Array Value} (h : Box w b t cs) : b < w.heap.size := by
  rcases Nat.lt_or_ge b w.heap.size with hlt | hge
  · exact hlt
  · unfold Box at h
    rw [Array.getElem?_eq_none hge] at h
    cases h
theorem Box.new (w : World) (b : Nat) (t : TypeId) (cs : Array Value) (hb : b = w.heap.size) : Box (w.alloc (.cells cs t)) b t cs := by
  subst hb
  exact heap_alloc_new w _
theorem Box.alloc {w : World} {b : Nat} {t : TypeId} {cs : Array Value} (h : Box w b t cs) (o : Obj) : Box (w.alloc o) b t cs := (Below.heap_alloc w o b h.lt).trans h
theorem Box.drewN {w : World} {b : Nat} {t : TypeId} {cs : Array Value} (h : Box w b t cs) (n : Nat) : Box (w.drewN n) b t cs := h
theorem Box.set {w : World} {b : Nat} {t : TypeId} {cs : Array Value} (h : Box w b t cs) (i : Nat) (u : Value) : Box (w.setCell ⟨b, i, none⟩ u) b t (cs.setIfInBounds i u) := by
  unfold Box at h ⊢
  simp [World.setCell, Array.getElem?_modify, h]
theorem Box.far {w : World} {b : Nat} {t : TypeId} {cs : Array Value} (h : Box w b t cs) (p : Addr) (hp : b ≠ p.block) (u : Value) : Box (w.setCell p u) b t cs := (Below.heap_setCell w p u b hp).trans h
theorem Box.kept {w w' : World} {b : Nat} {t : TypeId} {cs : Array Value} (h : Box w b t cs) (hk : Kept w w') : Box w' b t cs := (hk.block b h.lt).trans h
theorem Box.only {w w' : World} {b : Nat} {t : TypeId} {cs : Array Value} {S : List Nat} (h : Box w b t cs) (hk : Only S w w') (hn : b ∉ S) : Box w' b t cs := (hk.block b h.lt hn).trans h
theorem Box.cell {w : World} {b : Nat} {t : TypeId} {cs : Array Value} (h : Box w b t cs) (i : Nat) : w.cell? ⟨b, i, none⟩ = cs[i]? := cell_of_row w b i cs t (0, 0) h
theorem Box.free {w : World} {b : Nat} {t : TypeId} {cs : Array Value} (h : Box w b t cs) (i : Nat) : w.frozen? ⟨b, i, none⟩ = false := by
  unfold Box at h
  simp [World.frozen?, h]
/-- a block of three cells -/
theorem Box.three {w : World} {b : Nat} {t : TypeId} {x y z : Value} (h : Box w b t #[x, y, z]) :
    (w.cell? ⟨b, 0, none⟩ = some x ∧ w.cell? ⟨b, 1, none⟩ = some y ∧ w.cell? ⟨b, 2, none⟩ = some z) ∧ (w.frozen? ⟨b, 0, none⟩ = false ∧ w.frozen? ⟨b, 1, none⟩ = false ∧ w.frozen? ⟨b, 2, none⟩ = false) :=
  ⟨⟨h.cell 0, h.cell 1, h.cell 2⟩, h.free 0, h.free 1, h.free 2⟩

theorem Box.four {w : World} {b : Nat} {t : TypeId} {x y z u : Value} (h : Box w b t #[x, y, z, u]) :
    (w.cell? ⟨b, 0, none⟩ = some x ∧ w.cell? ⟨b, 1, none⟩ = some y ∧ w.cell? ⟨b, 2, none⟩ = some z ∧ w.cell? ⟨b, 3, none⟩ = some u) ∧ (w.frozen? ⟨b, 0, none⟩ = false ∧ w.frozen? ⟨b, 1, none⟩ = false ∧ w.frozen? ⟨b, 2, none⟩ = false ∧ w.frozen? ⟨b, 3, none⟩ = false) :=
  ⟨⟨h.cell 0, h.cell 1, h.cell 2, h.cell 3⟩, h.free 0, h.free 1, h.free 2, h.free 3⟩
theorem Box.six {w : World} {b : Nat} {t : TypeId} {x y z u p q : Value} (h : Box w b t #[x, y, z, u, p, q]) :
    (w.cell? ⟨b, 0, none⟩ = some x ∧ w.cell? ⟨b, 1, none⟩ = some y ∧ w.cell? ⟨b, 2, none⟩ = some z ∧ w.cell? ⟨b, 3, none⟩ = some u ∧ w.cell? ⟨b, 4, none⟩ = some p ∧ w.cell? ⟨b, 5, none⟩ = some q) ∧ (w.frozen? ⟨b, 0, none⟩ = false ∧ w.frozen? ⟨b, 1, none⟩ = false ∧ w.frozen? ⟨b, 2, none⟩ = false ∧ w.frozen? ⟨b, 3, none⟩ = false ∧ w.frozen? ⟨b, 4, none⟩ = false ∧ w.frozen? ⟨b, 5, none⟩ = false) :=
  ⟨⟨h.cell 0, h.cell 1, h.cell 2, h.cell 3, h.cell 4, h.cell 5⟩, h.free 0, h.free 1, h.free 2, h.free 3, h.free 4, h.free 5⟩

/-- the blocks that a struct of slices leads to -/
def fpA : Value → List Nat
  | .agg cs => cs.toList.flatMap fp
  | v => fp v
theorem nodup_one (v : Value) : (fp v).Nodup := by
  unfold fp
  cases v.ownBlock <;> simp
theorem nodup_fp {a b : Value} {m : Nat} (h1 : ∀ x ∈ fp a, x < m) (h2 : ∀ x ∈ fp b, m ≤ x) : (fp a ++ fp b).Nodup := by
  rw [List.nodup_append]
  exact ⟨nodup_one a, nodup_one b, fun x hx y hy e => by have := h1 x hx; have := h2 y hy; omega⟩
theorem OwnI.far {w w' : World} {base base' : Nat} {v : Value} {zs : List Int} {S : List Nat} (h : OwnI w base v zs) (ho : Only S w w') (hS : ∀ b ∈ S, b < base) (hb : base' ≤ base) : OwnI w' base' v zs := own_far h ho hS hb
theorem flat_get {α β : Type} (f : α → List β) (m : Nat) (hf : ∀ x, (f x).length = m) : ∀ (l : List α) (k j : Nat), j < m → (l.flatMap f)[k * m + j]? = (l[k]?).bind fun x => (f x)[j]?
  | [], k, j, _ => by simp
  | x :: l, 0, j, hj => by
    rw [List.flatMap_cons, Nat.zero_mul, Nat.zero_add, List.getElem?_append_left (by rw [hf]; exact hj)]
    rfl
  | x :: l, k + 1, j, hj => by
    rw [List.flatMap_cons, List.getElem?_append_right (by rw [hf, Nat.succ_mul]; omega), hf, show (k + 1) * m + j - m = k * m + j from by rw [Nat.succ_mul]; omega, flat_get f m hf l k j hj]
    simp
theorem flat_length {α β : Type} (f : α → List β) (m : Nat) (hf : ∀ x, (f x).length = m) (l : List α) : (l.flatMap f).length = l.length * m := by
  induction l with
  | nil => simp
  | cons x l ih => rw [List.flatMap_cons, List.length_append, hf, ih, List.length_cons, Nat.succ_mul]; omega

/-- append to a row of the call's own: the source nil, empty or not -/
theorem wpList_append_seq {P : Program} (w : World) {ops : Array Oper} {rest : List Oper} {o : Oper} {a : Act} {Q : Exit → Act → World → Prop} (hgd : o.guard = none) (s x : Operand) (t : TypeId)
    (ho : o.op = .call { callee := .builtin .append, args := #[s, x], argTypes := #[t, t] })
    (base : Nat) (e : TypeId) (i : TypeInfo) (z : Value) (size bytes : Nat) (ht : P.underlying t = some (.slice e)) (hi : P.info? e = some i) (hz : i.zero = some z)
    (hsize : i.size = size) (hby : i.bytes = bytes) (hzs : z.cells.size = size) (hsz : 0 < size)
    (v : Value) (n : Nat) (xs : List Value) (hs : a.eval s = v) (hown : w.ownsRow base e size v n xs)
    (u : Value) (m : Nat) (news : List Value) (hx : a.eval x = u) (hr : Seq w u m news) (hl : news.length = m * size) (h1 : ∀ y ∈ news, y.oneCell' = true)
    (h63 : n + m ≤ maxLen) (hbytes : (n + m) * bytes ≤ 140737488355328) (hbase : base ≤ w.heap.size)
    (h : ∀ v' w', w'.ownsRow base e size v' (n + m) (xs ++ news) → w.grownBy w' v.ownBlock → (v'.ownBlock = v.ownBlock ∨ v'.ownBlock = some w.heap.size) → wpList P ops Q rest (a.put o.dst v') w') : wpList P ops Q (o :: rest) a w := by
  obtain ⟨A, c, rfl, hnc, hcm, hA, hc⟩ := hr
  rcases A with _ | ad
  · obtain rfl := hA rfl
    obtain rfl : m = 0 := by omega
    obtain rfl : news = [] := List.eq_nil_of_length_eq_zero (by simpa using hl)
    exact wpList_append_own_none hgd s x t ho base e i size ht hi v n xs hs hown hx (h v w (by simpa using hown) (World.grownBy.refl w _) (.inl rfl))
  · refine wpList_append_own_at w hgd s x t ho base e i z size bytes ht hi hz hsize hby hzs hsz v n xs hs hown ad m c news hx hl ?_ h1 h63 hbytes hbase (fun v' w' q1 q2 _ q4 => h v' w' q1 q2 q4)
    intro j y hy
    have hm : 0 < m := by
      rcases Nat.eq_zero_or_pos m with h0 | h0
      · subst h0
        have : news = [] := List.eq_nil_of_length_eq_zero (by simpa using hl)
        subst this
        simp at hy
      · exact h0
    obtain ⟨b, o', e1, hb, hcell⟩ := hc hm
    injection e1 with e1
    subst e1
    have := hcell j y hy
    rwa [show (⟨b, o', none⟩ : Addr).add j = ⟨b, o' + j, none⟩ from by unfold Addr.add; split <;> simp_all]

/-- the marks from k on -/
def marksI (k : Int) (n : Nat) : List Int := (List.range n).map fun (i : Nat) => k + (i : Int)
theorem marksI_length (k : Int) (n : Nat) : (marksI k n).length = n := by simp [marksI]
theorem marksI_get {k : Int} {n i : Nat} (h : i < n) : (marksI k n)[i]? = some (k + i) := by simp [marksI, h]
theorem own_form {w : World} {base : Nat} {e : TypeId} {size : Nat} {v : Value} {n : Nat} {xs : List Value} (h : w.ownsRow base e size v n xs) :
    ∃ A c, v = .slice A n c ∧ n ≤ c ∧ c ≤ maxLen ∧ (0 < n → ∃ g, A = some ⟨g, 0, none⟩) := by
  rcases h.2 with ⟨rfl, rfl⟩ | ⟨g, cap, cur, rfl, hb, hg, hnc, hcm, hcs, htake⟩
  · exact ⟨none, 0, rfl, Nat.le_refl _, Nat.zero_le _, fun h => absurd h (by omega)⟩
  · exact ⟨_, cap, rfl, hnc, hcm, fun _ => ⟨g, rfl⟩⟩


/-! ### sizes -/
def lessOr (left : Int) (n : Nat) : Int := if (n : Int) ≤ left then left - n else -1
theorem sum_take_le (l : List Nat) (k : Nat) : (l.take k).sum ≤ l.sum := by
  rw [← List.sum_append_nat.symm.trans (congrArg List.sum (List.take_append_drop k l))]
  omega
theorem mem_le_sum (l : List Nat) (x : Nat) (h : x ∈ l) : x ≤ l.sum := by
  induction l with
  | nil => cases h
  | cons y l ih =>
    rw [List.sum_cons]
    rcases List.mem_cons.1 h with rfl | h'
    · omega
    · have := ih h'
      omega
theorem sum_snoc {α : Type} (f : α → Nat) {l : List α} {k : Nat} {x : α} (h : l[k]? = some x) : ((l.take (k + 1)).map f).sum = ((l.take k).map f).sum + f x := by
  rw [take_snoc h, List.map_append, List.sum_append_nat]
  simp
theorem sum_take (α : Type) (f : α → Nat) (l : List α) (k : Nat) : ((l.take k).map f).sum ≤ (l.map f).sum := by
  rw [List.map_take]
  exact sum_take_le _ _
theorem lessOr_bd {left : Int} {n : Nat} (h : 0 ≤ left) : -1 ≤ lessOr left n ∧ lessOr left n ≤ left := by
  unfold lessOr
  split <;> omega
theorem lessOr_add {left : Int} {n m : Nat} (h : 0 ≤ lessOr left n) : lessOr (lessOr left n) m = lessOr left (n + m) := by
  unfold lessOr at *
  split at h
  · rename_i h1
    rw [if_pos h1]
    split
    · rw [if_pos (by omega)]; omega
    · rw [if_neg (by omega)]
  · omega
theorem lessOr_neg {left : Int} {n m : Nat} (h : lessOr left n < 0) (h0 : 0 ≤ left) : lessOr left (n + m) = -1 := by
  unfold lessOr at *
  split at h
  · omega
  · rw [if_neg (by omega)]
end Go.Proofs.YtkekpolfdmmgeaaGreatDoor

/- The texts that the laws write as marks. -/
namespace Go.Proofs.YtkekpolfdmmgeaaGreatDoor
set_option linter.unusedVariables false
set_option linter.unusedSimpArgs false
open Go.RowKit

def dgc (q : Nat) : UInt8 := UInt8.ofNat (48 + q % 10)
theorem dgc_toNat (q : Nat) : (dgc q).toNat = 48 + q % 10 := by
  unfold dgc
  rw [UInt8.toNat_ofNat']
  omega
def digF : Nat → Nat → List UInt8 → List UInt8
  | 0, _, out => out
  | f + 1, q, out => if q = 0 then out else digF f (q / 10) (dgc q :: out)
def mt (k : Int) : ByteArray := ⟨(109 :: digF 20 k.toNat []).toArray⟩
theorem digF_zero (f : Nat) (out : List UInt8) : digF f 0 out = out := by cases f <;> simp [digF]
theorem ba_cons (c : UInt8) (l : List UInt8) : (⟨#[c]⟩ : ByteArray) ++ ⟨l.toArray⟩ = ⟨(c :: l).toArray⟩ := by
  apply ByteArray.ext
  simp
theorem conv_one (w : World) (c : UInt8) (n : Int) (hn : n = c.toNat) :
    (convert 22 9 (.slice (some ⟨w.heap.size, 0, none⟩) 1 1)).run Tryz.prog (w.alloc (.cells #[.int .u8 n] 5)) = .ok (.string ⟨#[c]⟩) (w.alloc (.cells #[.int .u8 n] 5)) := by
  subst hn
  exact run_convert_bytes_back (P := Tryz.prog) (w.alloc (.cells #[.int .u8 (c.toNat : Int)] 5)) 22 9 5 ⟨w.heap.size, 0, none⟩ 1 [c] Tryz.underlying22 Tryz.underlying5 Tryz.underlying9 (fun j hj => by
    obtain rfl : j = 0 := by simpa using hj
    simp [Addr.add])
theorem digF_length (f q : Nat) (out : List UInt8) : (digF f q out).length ≤ out.length + f := by
  induction f generalizing q out with
  | zero => simp [digF]
  | succ f ih =>
    rw [digF]
    split
    · omega
    · have := ih (q / 10) (dgc q :: out)
      simp at this
      omega
theorem mt_size (k : Int) : (mt k).size ≤ maxLen := by
  have := digF_length 20 k.toNat []
  have h : (mt k).size = (digF 20 k.toNat []).length + 1 := by
    show (109 :: digF 20 k.toNat []).toArray.size = _
    simp
  rw [h]
  unfold maxLen
  simp at this
  omega
def marksS (k : Int) (n : Nat) : List ByteArray := (List.range n).map fun (i : Nat) => mt (k + (i : Int))
theorem marksS_length (k : Int) (n : Nat) : (marksS k n).length = n := by simp [marksS]
theorem marksS_get {k : Int} {n i : Nat} (h : i < n) : (marksS k n)[i]? = some (mt (k + i)) := by simp [marksS, h]
theorem marksS_size (k : Int) (n : Nat) : ∀ z ∈ marksS k n, z.size ≤ maxLen := by
  intro z hz
  unfold marksS at hz
  obtain ⟨i, _, rfl⟩ := List.mem_map.1 hz
  exact mt_size _
end Go.Proofs.YtkekpolfdmmgeaaGreatDoor

/- Contracts of chapter 1: fractions compared; the constants. -/
namespace Go.Proofs.YtkekpolfdmmgeaaGreatDoor
set_option linter.unusedVariables false
set_option linter.unusedSimpArgs false
open Go.RowKit

def partB (a b : Int) : Bool := inB a (-1000000000000) 1000000000000 && inB b 1 1000000
theorem partB_true {a b : Int} (h : partB a b = true) : -1000000000000 ≤ a ∧ a ≤ 1000000000000 ∧ 1 ≤ b ∧ b ≤ 1000000 := by
  unfold partB at h
  rw [Bool.and_eq_true] at h
  have h1 := inB_true h.1
  have h2 := inB_true h.2
  exact ⟨h1.1, h1.2, h2.1, h2.2⟩
def sgn (n : Int) : Int := if 0 < n then 1 else if n < 0 then -1 else 0
def poMd (a b mode : Int) : Int := if mode = -1 then a / b else if mode = 0 then (2 * a + b) / (2 * b) else -(-a / b)

def cmpV (a b c d : Int) : Int := if partB a b && partB c d then sgn (a * d - c * b) else 0
theorem mul_bd {a d A D : Int} (h1 : -A ≤ a) (h2 : a ≤ A) (h3 : 0 ≤ d) (h4 : d ≤ D) : -(A * D) ≤ a * d ∧ a * d ≤ A * D := by
  have hA : 0 ≤ A := by omega
  constructor
  · have q1 : -A * d ≤ a * d := Int.mul_le_mul_of_nonneg_right h1 h3
    have q2 : A * d ≤ A * D := Int.mul_le_mul_of_nonneg_left h4 hA
    rw [Int.neg_mul] at q1
    omega
  · have q1 : a * d ≤ A * d := Int.mul_le_mul_of_nonneg_right h2 h3
    have q2 : A * d ≤ A * D := Int.mul_le_mul_of_nonneg_left h4 hA
    omega
theorem part_mul {a b c d : Int} (h1 : partB a b = true) (h2 : partB c d = true) : -1000000000000000000 ≤ a * d ∧ a * d ≤ 1000000000000000000 := by
  have q1 := partB_true h1
  have q2 := partB_true h2
  have := mul_bd (a := a) (d := d) (A := 1000000000000) (D := 1000000) (by omega) (by omega) (by omega) (by omega)
  omega
end Go.Proofs.YtkekpolfdmmgeaaGreatDoor
