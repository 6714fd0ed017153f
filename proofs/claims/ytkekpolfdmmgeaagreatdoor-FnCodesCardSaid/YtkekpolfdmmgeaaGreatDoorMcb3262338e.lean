/- Contracts of functions that the proof leans on. No condition. -/
import Derived.Test.YtkekpolfdmmgeaaGreatDoorM86aec43b08
import Derived.Lib.Split
import Derived.Lib.CountLaws
import Derived.Lib.IndexMore
import Derived.Lib.ItoaNum
import Derived.Lib.Join
import Derived.Lib.Strings
import Derived.Test.YtkekpolfdmmgeaaGreatDoorShelf
import Derived.Deep.RegionHeld3
import Derived.Deep.DeepCutAuto
/- Texts, plain: splitting at a byte, joining, numerals. -/
namespace Go.Proofs.YtkekpolfdmmgeaaGreatDoor
set_option linter.unnecessarySimpa false
open Go.Lib
set_option linter.unusedVariables false
set_option linter.unusedSimpArgs false

/-! ### splitting -/
def splitOn (b : UInt8) : List UInt8 → List (List UInt8)
  | [] => [[]]
  | c :: r => if c = b then [] :: splitOn b r else match splitOn b r with
    | [] => [[c]]
    | h :: t => (c :: h) :: t
def prep (p : List UInt8) : List (List UInt8) → List (List UInt8)
  | [] => [p]
  | h :: t => (p ++ h) :: t
theorem splitOn_ne (b : UInt8) (l : List UInt8) : splitOn b l ≠ [] := by
  cases l with
  | nil => simp [splitOn]
  | cons c r =>
    unfold splitOn
    split
    · simp
    · split <;> simp
theorem prep_nil {L : List (List UInt8)} (h : L ≠ []) : prep [] L = L := by
  cases L with
  | nil => exact absurd rfl h
  | cons x t => simp [prep]
theorem splitOn_cons_ne {b c : UInt8} (h : c ≠ b) (r : List UInt8) : splitOn b (c :: r) = prep [c] (splitOn b r) := by
  rw [splitOn, if_neg h]
  cases hs : splitOn b r with
  | nil => rfl
  | cons x t => rfl
theorem splitOn_cons_eq (b : UInt8) (r : List UInt8) : splitOn b (b :: r) = [] :: splitOn b r := by
  rw [splitOn, if_pos rfl]
theorem prep_prep (p q : List UInt8) (L : List (List UInt8)) : prep p (prep q L) = prep (p ++ q) L := by
  cases L <;> simp [prep]
theorem splitOn_pre {b : UInt8} : ∀ {p : List UInt8}, b ∉ p → ∀ l, splitOn b (p ++ l) = prep p (splitOn b l)
  | [], _, l => by rw [List.nil_append, prep_nil (splitOn_ne _ _)]
  | c :: p, h, l => by
    have h1 : c ≠ b := fun e => h (by simp [e])
    have h2 : b ∉ p := fun e => h (by simp [e])
    rw [List.cons_append, splitOn_cons_ne h1, splitOn_pre h2, prep_prep]
    rfl
theorem splitOn_none {b : UInt8} {p : List UInt8} (h : b ∉ p) : splitOn b p = [p] := by
  have := splitOn_pre h []
  rw [List.append_nil] at this
  rw [this]
  simp [splitOn, prep]
theorem splitOn_hit {b : UInt8} {p : List UInt8} (h : b ∉ p) (l : List UInt8) : splitOn b (p ++ b :: l) = p :: splitOn b l := by
  rw [splitOn_pre h, splitOn_cons_eq]
  simp [prep]
theorem splitOn_snoc (b : UInt8) (p : List UInt8) : splitOn b (p ++ [b]) = splitOn b p ++ [[]] := by
  induction p with
  | nil => simp [splitOn]
  | cons c p ih =>
    by_cases h : c = b
    · subst h
      rw [List.cons_append, splitOn_cons_eq, splitOn_cons_eq, ih]
      rfl
    · rw [List.cons_append, splitOn_cons_ne h, splitOn_cons_ne h, ih]
      cases hs : splitOn b p with
      | nil => exact absurd hs (splitOn_ne _ _)
      | cons x t => rfl
theorem splitOn_last {b : UInt8} {p : List UInt8} {c : UInt8} (h : c ≠ b) : ∃ L x, splitOn b (p ++ [c]) = L ++ [x ++ [c]] := by
  induction p with
  | nil => exact ⟨[], [], by simp [splitOn, h]⟩
  | cons d p ih =>
    obtain ⟨L, x, e⟩ := ih
    by_cases hd : d = b
    · subst hd
      exact ⟨[] :: L, x, by rw [List.cons_append, splitOn_cons_eq, e]; rfl⟩
    · cases L with
      | nil => exact ⟨[], d :: x, by rw [List.cons_append, splitOn_cons_ne hd, e]; rfl⟩
      | cons y L => exact ⟨(d :: y) :: L, x, by rw [List.cons_append, splitOn_cons_ne hd, e]; rfl⟩
theorem splitOn_join (b : UInt8) (l : List UInt8) : join (splitOn b l) [b] = l := by
  induction l with
  | nil => rfl
  | cons c r ih =>
    by_cases h : c = b
    · subst h
      rw [splitOn_cons_eq, join_cons]
      cases hs : splitOn c r with
      | nil => exact absurd hs (splitOn_ne _ _)
      | cons x t =>
        rw [hs, join_cons] at ih
        have e : joinTail [c] (x :: t) = [c] ++ x ++ joinTail [c] t := by simp [joinTail]
        rw [e, List.append_assoc, ih]
        rfl
    · rw [splitOn_cons_ne h]
      cases hs : splitOn b r with
      | nil => exact absurd hs (splitOn_ne _ _)
      | cons x t =>
        rw [hs, join_cons] at ih
        rw [prep, join_cons, ← ih]
        rfl
theorem splitOn_mem {b : UInt8} : ∀ {l : List UInt8} {x : List UInt8}, x ∈ splitOn b l → b ∉ x
  | [], x, h => by simp [splitOn] at h; simp [h]
  | c :: r, x, h => by
    by_cases hc : c = b
    · subst hc
      rw [splitOn_cons_eq] at h
      rcases List.mem_cons.1 h with e | e
      · simp [e]
      · exact splitOn_mem e
    · rw [splitOn_cons_ne hc] at h
      cases hs : splitOn b r with
      | nil => exact absurd hs (splitOn_ne _ _)
      | cons y t =>
        rw [hs, prep] at h
        rcases List.mem_cons.1 h with e | e
        · have : b ∉ y := splitOn_mem (l := r) (by rw [hs]; exact List.mem_cons_self)
          subst e
          simp [this, Ne.symm hc]
        · exact splitOn_mem (l := r) (by rw [hs]; exact List.mem_cons_of_mem _ e)
/-- Words without the byte, joined by it, split into themselves. -/
theorem splitOn_of_join {b : UInt8} : ∀ {L : List (List UInt8)}, L ≠ [] → (∀ x ∈ L, b ∉ x) → splitOn b (join L [b]) = L
  | [], h, _ => absurd rfl h
  | [x], _, h => by rw [join_one]; exact splitOn_none (h x (by simp))
  | x :: y :: t, _, h => by
    have e : join (x :: y :: t) [b] = x ++ b :: join (y :: t) [b] := by
      rw [join_cons, join_cons]
      simp [joinTail]
    rw [e, splitOn_hit (h x (by simp)), splitOn_of_join (by simp) (fun z hz => h z (List.mem_cons_of_mem _ hz))]

theorem index_one (b : UInt8) (s : List UInt8) : (index s [b] = -1 ∧ b ∉ s) ∨ ∃ i : Nat, index s [b] = i ∧ i < s.length ∧ b ∉ s.take i ∧ s = s.take i ++ b :: s.drop (i + 1) := by
  rcases index_spec s [b] with ⟨h, hn⟩ | ⟨i, h, hi, ho, hn⟩
  · refine .inl ⟨h, fun hm => ?_⟩
    obtain ⟨j, hj⟩ := List.getElem?_of_mem hm
    have hlt := (List.getElem?_eq_some_iff.1 hj).1
    have := hn j (by omega)
    unfold occAt at this
    rw [List.drop_eq_getElem_cons hlt] at this
    have e := (List.getElem?_eq_some_iff.1 hj).2
    simp [List.isPrefixOf, e] at this
  · have hh := occAt_head (t := []) rfl ho
    obtain ⟨hlt, e⟩ := List.getElem?_eq_some_iff.1 hh
    refine .inr ⟨i, h, hlt, fun hm => ?_, ?_⟩
    · obtain ⟨j, hj⟩ := List.getElem?_of_mem hm
      have hji : j < i := by
        have := (List.getElem?_eq_some_iff.1 hj).1
        rw [List.length_take] at this
        omega
      rw [List.getElem?_take_of_lt hji] at hj
      have := hn j hji
      have hl := (List.getElem?_eq_some_iff.1 hj).1
      unfold occAt at this
      rw [List.drop_eq_getElem_cons hl] at this
      have e := (List.getElem?_eq_some_iff.1 hj).2
      simp [List.isPrefixOf, e] at this
    · conv => lhs; rw [← List.take_append_drop i s]
      rw [List.drop_eq_getElem_cons hlt, e]
theorem splitK_one (b : UInt8) : ∀ (n : Nat) (s : List UInt8), s.length ≤ n → splitK [b] 0 (count s [b]) s = splitOn b s
  | n, s, hl => by
    rcases index_one b s with ⟨h, hn⟩ | ⟨i, h, hi, hn, hs⟩
    · rw [count_miss h, splitOn_none hn]
      rfl
    · have hd : (s.drop (i + 1)).length < s.length := by rw [List.length_drop]; omega
      cases n with
      | zero => omega
      | succ n =>
        have ih := splitK_one b n (s.drop (i + 1)) (by omega)
        rw [count_hit (by simp) h, Nat.add_comm, splitK, if_neg (by rw [h]; intro e; have := beq_iff_eq.1 e; omega)]
        conv => rhs; rw [hs, splitOn_hit hn]
        have e : (index s [b]).toNat = i := by rw [h]; simp
        rw [e, Nat.add_zero]
        have e2 : i + [b].length = i + 1 := rfl
        rw [e2, ih]
theorem splitB_one (b : UInt8) (s : ByteArray) : (splitB ⟨#[b]⟩ 0 (countB s ⟨#[b]⟩) s).map (·.data.toList) = splitOn b s.data.toList := by
  rw [splitB_data]
  exact splitK_one b _ s.data.toList (Nat.le_refl _)
theorem splitOn_length_count (b : UInt8) (s : List UInt8) : (splitOn b s).length = s.count b + 1 := by
  induction s with
  | nil => rfl
  | cons c r ih =>
    by_cases h : c = b
    · subst h
      rw [splitOn_cons_eq, List.length_cons, ih, List.count_cons_self]
    · rw [splitOn_cons_ne h, List.count_cons_of_ne h]
      cases hs : splitOn b r with
      | nil => exact absurd hs (splitOn_ne _ _)
      | cons x t => rw [hs] at ih; simpa [prep] using ih
theorem splitOn_length_le (b : UInt8) (s : List UInt8) : (splitOn b s).length ≤ s.length + 1 := by
  rw [splitOn_length_count]
  have := List.count_le_length (a := b) (l := s)
  omega

/-! ### joining -/
theorem join_snoc (L : List (List UInt8)) (y sep : List UInt8) (h : L ≠ []) : join (L ++ [y]) sep = join L sep ++ sep ++ y := by
  cases L with
  | nil => exact absurd rfl h
  | cons x t =>
    rw [List.cons_append, join_cons, join_cons]
    simp [joinTail]

/-! ### numerals -/
def isDg (b : UInt8) : Bool := 48 ≤ b && b ≤ 57
/-- The numeral's value. -/
def dval (l : List UInt8) : Nat := l.foldl (fun n b => 10 * n + (b.toNat - 48)) 0
/-- A canonical numeral of at most k digits. -/
def readNum (k : Nat) (l : List UInt8) : Option Nat :=
  if l.length = 0 ∨ k < l.length ∨ (1 < l.length ∧ l.head? = some 48) ∨ l.all isDg = false then none else some (dval l)
theorem dval_snoc (l : List UInt8) (b : UInt8) : dval (l ++ [b]) = 10 * dval l + (b.toNat - 48) := by
  simp [dval]
theorem isDg_of {d : Nat} (h : d < 10) : isDg (UInt8.ofNat (48 + d)) = true := by
  have : ∀ d : Fin 10, isDg (UInt8.ofNat (48 + d.val)) = true := by decide
  exact this ⟨d, h⟩
theorem toNat_of {d : Nat} (h : d < 10) : (UInt8.ofNat (48 + d)).toNat = 48 + d := by
  have : ∀ d : Fin 10, (UInt8.ofNat (48 + d.val)).toNat = 48 + d.val := by decide
  exact this ⟨d, h⟩
theorem isDg_iff (b : UInt8) : isDg b = true ↔ 48 ≤ b.toNat ∧ b.toNat ≤ 57 := by
  unfold isDg
  simp [UInt8.le_iff_toNat_le]
theorem of_isDg {b : UInt8} (h : isDg b = true) : b = UInt8.ofNat (48 + (b.toNat - 48)) ∧ b.toNat - 48 < 10 := by
  have h' := (isDg_iff b).1 h
  refine ⟨?_, by omega⟩
  rw [show 48 + (b.toNat - 48) = b.toNat by omega]
  simp
theorem decDigits_small {u : Nat} (h : u < 10) : decDigits u = [UInt8.ofNat (48 + u)] := decDigits_one h
theorem decDigits_big {u : Nat} (h : ¬ u < 10) : decDigits u = decDigits (u / 10) ++ [UInt8.ofNat (48 + u % 10)] := by rw [decDigits, dif_neg h]
theorem decDigits_ne (u : Nat) : decDigits u ≠ [] := by
  by_cases h : u < 10
  · rw [decDigits_small h]; simp
  · rw [decDigits_big h]; simp
theorem decDigits_all (u : Nat) : (decDigits u).all isDg = true := by
  induction u using Nat.strongRecOn with
  | _ u ih =>
    by_cases h : u < 10
    · rw [decDigits_small h, List.all_cons, isDg_of h]; rfl
    · rw [decDigits_big h, List.all_append, ih (u / 10) (by omega), List.all_cons, isDg_of (Nat.mod_lt u (by decide : 0 < 10))]; rfl
theorem decDigits_val (u : Nat) : dval (decDigits u) = u := by
  induction u using Nat.strongRecOn with
  | _ u ih =>
    by_cases h : u < 10
    · rw [decDigits_small h]
      show 10 * 0 + ((UInt8.ofNat (48 + u)).toNat - 48) = u
      rw [toNat_of h]
      omega
    · rw [decDigits_big h, dval_snoc, ih (u / 10) (by omega), toNat_of (Nat.mod_lt u (by decide : 0 < 10))]
      omega
theorem decDigits_head (u : Nat) (h : 0 < u) : (decDigits u).head? ≠ some 48 := by
  induction u using Nat.strongRecOn with
  | _ u ih =>
    by_cases h' : u < 10
    · rw [decDigits_small h']
      have : ∀ d : Fin 10, 0 < d.val → ([UInt8.ofNat (48 + d.val)] : List UInt8).head? ≠ some 48 := by decide
      exact this ⟨u, h'⟩ h
    · rw [decDigits_big h']
      have hh := ih (u / 10) (by omega) (by omega)
      cases hd : decDigits (u / 10) with
      | nil => exact absurd hd (decDigits_ne _)
      | cons c r => rw [hd] at hh; simpa using hh
theorem decDigits_len {u k : Nat} (h : u < 10 ^ (k + 1)) : (decDigits u).length ≤ k + 1 := by
  induction k generalizing u with
  | zero => rw [decDigits_small (by simpa using h)]; simp
  | succ k ih =>
    by_cases h' : u < 10
    · rw [decDigits_small h']; simp
    · rw [decDigits_big h', List.length_append]
      have := ih (u := u / 10) (by rw [Nat.pow_succ] at h; omega)
      simp; omega
theorem readNum_dec {u k : Nat} (h : u < 10 ^ (k + 1)) : readNum (k + 1) (decDigits u) = some u := by
  unfold readNum
  rw [if_neg, decDigits_val]
  rintro (h1 | h1 | ⟨h1, h2⟩ | h1)
  · exact decDigits_ne u (List.eq_nil_of_length_eq_zero h1)
  · have := decDigits_len h; omega
  · by_cases h0 : u = 0
    · subst h0
      rw [decDigits_small (by decide)] at h1
      simp at h1
    · exact decDigits_head u (by omega) h2
  · rw [decDigits_all] at h1; cases h1
theorem snocInd {p : List UInt8 → Prop} (h0 : p []) (h1 : ∀ l b, p l → p (l ++ [b])) (l : List UInt8) : p l := by
  have h : ∀ r : List UInt8, p r.reverse := by
    intro r
    induction r with
    | nil => exact h0
    | cons b r ih => rw [List.reverse_cons]; exact h1 _ _ ih
  have := h l.reverse
  rwa [List.reverse_reverse] at this
theorem dval_pos : ∀ (l : List UInt8), l.all isDg = true → l ≠ [] → l.head? ≠ some 48 → 0 < dval l := by
  intro l
  induction l using snocInd with
  | h0 => intro _ h; exact absurd rfl h
  | h1 l b ih =>
    intro ha _ hh
    rw [dval_snoc]
    rw [List.all_append] at ha
    simp at ha
    cases l with
    | nil =>
      have hb := (isDg_iff b).1 ha.2
      have : b ≠ 48 := by simpa using hh
      have : b.toNat ≠ 48 := fun e => this (by rw [← UInt8.toNat_inj]; exact e)
      simp [dval]; omega
    | cons c r =>
      have := ih (List.all_eq_true.2 ha.1) (by simp) (by simpa using hh)
      omega
/-- What is read is the value's numeral. -/
theorem dec_of_read {k : Nat} {l : List UInt8} {u : Nat} (h : readNum k l = some u) : l = decDigits u ∧ l.length ≤ k := by
  unfold readNum at h
  split at h
  · cases h
  · rename_i hn
    simp only [not_or] at hn
    obtain ⟨h1, h2, h3, h4⟩ := hn
    have ha : l.all isDg = true := by simpa using h4
    have hu : dval l = u := Option.some.inj h
    refine ⟨?_, by omega⟩
    subst hu
    clear h2 h4 h
    induction l using snocInd with
    | h0 => simp at h1
    | h1 l b ih =>
      rw [List.all_append] at ha
      simp at ha
      obtain ⟨eb, hb⟩ := of_isDg ha.2
      rw [dval_snoc]
      cases l with
      | nil =>
        have e : 10 * dval [] + (b.toNat - 48) = b.toNat - 48 := by simp [dval]
        rw [e, decDigits_small hb, ← eb]
        rfl
      | cons c r =>
        have hall : (c :: r).all isDg = true := List.all_eq_true.2 ha.1
        have hc : (c :: r).head? ≠ some 48 := fun e => h3 ⟨by simp, by simpa using e⟩
        have hp := dval_pos (c :: r) hall (by simp) hc
        have ih' := ih (by simp) (fun e => hc e.2) hall
        rw [decDigits_big (by omega), show (10 * dval (c :: r) + (b.toNat - 48)) / 10 = dval (c :: r) by omega, show (10 * dval (c :: r) + (b.toNat - 48)) % 10 = b.toNat - 48 by omega, ← ih', ← eb]
end Go.Proofs.YtkekpolfdmmgeaaGreatDoor

/- Texts, plain: the text of points, and reading it. -/
namespace Go.Proofs.YtkekpolfdmmgeaaGreatDoor
set_option linter.unusedVariables false
set_option linter.unusedSimpArgs false
set_option linter.unnecessarySimpa false
open Go.Lib

def ptN (u : Nat) : List UInt8 := decDigits (u / 100) ++ 46 :: (decDigits (u / 10 % 10) ++ decDigits (u % 10))
def ptxt (n : Int) : List UInt8 := if n < 0 then 45 :: ptN n.natAbs else ptN n.toNat
def ptGood (n : Int) : Prop := -1000000 ≤ n ∧ n ≤ 1000000
def IsRead (s : List UInt8) (v : Int) (ok : Bool) : Prop := (ok = true ∧ ptGood v ∧ ptxt v = s) ∨ (ok = false ∧ v = 0 ∧ ∀ n, ptGood n → ptxt n ≠ s)
theorem dg_notin {u : Nat} {b : UInt8} (h : isDg b = false) : b ∉ decDigits u := by
  intro hm
  have := List.all_eq_true.1 (decDigits_all u) b hm
  rw [h] at this
  cases this
theorem ptN_split (u : Nat) : splitOn 46 (ptN u) = [decDigits (u / 100), decDigits (u / 10 % 10) ++ decDigits (u % 10)] := by
  unfold ptN
  rw [splitOn_hit (dg_notin (by decide)), splitOn_none]
  intro hm
  rcases List.mem_append.1 hm with h | h
  · exact dg_notin (by decide) h
  · exact dg_notin (by decide) h
theorem ptN_head (u : Nat) : ∃ c r, ptN u = c :: r ∧ isDg c = true := by
  unfold ptN
  cases h : decDigits (u / 100) with
  | nil => exact absurd h (decDigits_ne _)
  | cons c r =>
    refine ⟨c, r ++ 46 :: (decDigits (u / 10 % 10) ++ decDigits (u % 10)), rfl, ?_⟩
    have := decDigits_all (u / 100)
    rw [h] at this
    simp at this
    exact this.1
theorem ptN_ne (u : Nat) (r : List UInt8) : ptN u ≠ 45 :: r := by
  obtain ⟨c, r', e, hc⟩ := ptN_head u
  rw [e]
  intro h
  injection h with h1 h2
  subst h1
  revert hc
  decide
theorem ptN_inj {u v : Nat} (h : ptN u = ptN v) : u = v := by
  have h1 : splitOn 46 (ptN u) = splitOn 46 (ptN v) := by rw [h]
  rw [ptN_split, ptN_split] at h1
  injection h1 with a b
  injection b with b _
  have ha := congrArg dval a
  rw [decDigits_val, decDigits_val] at ha
  have small : ∀ w : Nat, decDigits (w / 10 % 10) ++ decDigits (w % 10) = [UInt8.ofNat (48 + w / 10 % 10), UInt8.ofNat (48 + w % 10)] := by
    intro w
    rw [decDigits_small (Nat.mod_lt _ (by decide)), decDigits_small (Nat.mod_lt _ (by decide))]
    rfl
  rw [small u, small v] at b
  injection b with b1 b2
  injection b2 with b2 _
  have c1 := congrArg UInt8.toNat b1
  have c2 := congrArg UInt8.toNat b2
  rw [toNat_of (Nat.mod_lt _ (by decide)), toNat_of (Nat.mod_lt _ (by decide))] at c1
  rw [toNat_of (Nat.mod_lt _ (by decide)), toNat_of (Nat.mod_lt _ (by decide))] at c2
  omega
theorem ptxt_inj {a b : Int} (h : ptxt a = ptxt b) : a = b := by
  unfold ptxt at h
  by_cases ha : a < 0 <;> by_cases hb : b < 0
  · rw [if_pos ha, if_pos hb] at h
    injection h with _ h
    have := ptN_inj h
    omega
  · rw [if_pos ha, if_neg hb] at h
    exact absurd h.symm (ptN_ne _ _)
  · rw [if_neg ha, if_pos hb] at h
    exact absurd h (ptN_ne _ _)
  · rw [if_neg ha, if_neg hb] at h
    have := ptN_inj h
    omega
theorem IsRead.same {s : List UInt8} {v v' : Int} {ok ok' : Bool} (h : IsRead s v ok) (h' : IsRead s v' ok') : v = v' ∧ ok = ok' := by
  rcases h with ⟨rfl, g, e⟩ | ⟨rfl, rfl, n⟩ <;> rcases h' with ⟨rfl, g', e'⟩ | ⟨rfl, rfl, n'⟩
  · exact ⟨ptxt_inj (e.trans e'.symm), rfl⟩
  · exact absurd e (n' _ g)
  · exact absurd e' (n _ g')
  · exact ⟨rfl, rfl⟩
/-- What stands behind the sign, and whether there is one. -/
theorem ptxt_sign (n : Int) : trimPrefix (ptxt n) [45] = ptN n.natAbs ∧ hasPrefix (ptxt n) [45] = decide (n < 0) := by
  unfold ptxt trimPrefix hasPrefix
  by_cases h : n < 0
  · rw [if_pos h]
    simp [List.isPrefixOf, h]
  · rw [if_neg h]
    obtain ⟨c, r, e, hc⟩ := ptN_head n.toNat
    have hne : (45 == c) = false := by
      rw [beq_eq_false_iff_ne]
      rintro rfl
      revert hc
      decide
    have e2 : n.natAbs = n.toNat := by omega
    rw [e2, e]
    simp [List.isPrefixOf, hne, h]
theorem ptN_cut (u : Nat) : cut (ptN u) [46] = (decDigits (u / 100), decDigits (u / 10 % 10) ++ decDigits (u % 10), true) := by
  rcases index_one 46 (ptN u) with ⟨_, h⟩ | ⟨i, hi, hlt, hn, hs⟩
  · exact absurd (by simp [ptN]) h
  · have h2 : splitOn 46 (ptN u) = (ptN u).take i :: splitOn 46 ((ptN u).drop (i + 1)) := by
      conv => lhs; rw [hs, splitOn_hit hn]
    rw [ptN_split] at h2
    injection h2 with a b
    have e3 : splitOn 46 ((ptN u).drop (i + 1)) = [(ptN u).drop (i + 1)] := by
      have hj := splitOn_join 46 ((ptN u).drop (i + 1))
      rw [← b, join_one] at hj
      rw [← b, hj]
    rw [e3] at b
    injection b with b _
    unfold cut
    rw [if_pos (by omega), hi]
    simp only [Int.toNat_natCast, List.length_cons, List.length_nil]
    rw [← a, ← b]
theorem two_digits (u : Nat) : decDigits (u / 10 % 10) ++ decDigits (u % 10) = [UInt8.ofNat (48 + u / 10 % 10), UInt8.ofNat (48 + u % 10)] := by
  rw [decDigits_small (Nat.mod_lt _ (by decide)), decDigits_small (Nat.mod_lt _ (by decide))]
  rfl
/-- The cents, read without a leading zero. -/
theorem cents_read (u : Nat) : readNum 12 (trimPrefix (decDigits (u / 10 % 10) ++ decDigits (u % 10)) [48]) = some (u % 100) := by
  rw [two_digits]
  have h : ∀ a b : Fin 10, readNum 12 (trimPrefix [UInt8.ofNat (48 + a.val), UInt8.ofNat (48 + b.val)] [48]) = some (a.val * 10 + b.val) := by decide
  have := h ⟨u / 10 % 10, Nat.mod_lt _ (by decide)⟩ ⟨u % 10, Nat.mod_lt _ (by decide)⟩
  simp only at this
  rw [this]
  congr 1
  omega
end Go.Proofs.YtkekpolfdmmgeaaGreatDoor

/- Contracts of chapter 1: fractions compared; the constants. -/
namespace Go.Proofs.YtkekpolfdmmgeaaGreatDoor
set_option linter.unusedVariables false
set_option linter.unusedSimpArgs false
open Go.RowKit

def partB (a b : Int) : Bool := inB a (-1000000000000) 1000000000000 && inB b 1 1000000
theorem partB_true {a b : Int} (h : partB a b = true) : -1000000000000 ≤ a ∧ a ≤ 1000000000000 ∧ 1 ≤ b ∧ b ≤ 1000000 := by
  unfold partB at h
  rw [Bool.and_eq_true] at h
  have h1 := inB_true h.1
  have h2 := inB_true h.2
  exact ⟨h1.1, h1.2, h2.1, h2.2⟩
def sgn (n : Int) : Int := if 0 < n then 1 else if n < 0 then -1 else 0
def poMd (a b mode : Int) : Int := if mode = -1 then a / b else if mode = 0 then (2 * a + b) / (2 * b) else -(-a / b)

def cmpV (a b c d : Int) : Int := if partB a b && partB c d then sgn (a * d - c * b) else 0
theorem mul_bd {a d A D : Int} (h1 : -A ≤ a) (h2 : a ≤ A) (h3 : 0 ≤ d) (h4 : d ≤ D) : -(A * D) ≤ a * d ∧ a * d ≤ A * D := by
  have hA : 0 ≤ A := by omega
  constructor
  · have q1 : -A * d ≤ a * d := Int.mul_le_mul_of_nonneg_right h1 h3
    have q2 : A * d ≤ A * D := Int.mul_le_mul_of_nonneg_left h4 hA
    rw [Int.neg_mul] at q1
    omega
  · have q1 : a * d ≤ A * d := Int.mul_le_mul_of_nonneg_right h2 h3
    have q2 : A * d ≤ A * D := Int.mul_le_mul_of_nonneg_left h4 hA
    omega
theorem part_mul {a b c d : Int} (h1 : partB a b = true) (h2 : partB c d = true) : -1000000000000000000 ≤ a * d ∧ a * d ≤ 1000000000000000000 := by
  have q1 := partB_true h1
  have q2 := partB_true h2
  have := mul_bd (a := a) (d := d) (A := 1000000000000) (D := 1000000) (by omega) (by omega) (by omega) (by omega)
  omega
end Go.Proofs.YtkekpolfdmmgeaaGreatDoor

/- Contracts of chapter 1: lowest terms, sums of fractions, rounding. -/
namespace Go.Proofs.YtkekpolfdmmgeaaGreatDoor
set_option linter.unusedVariables false
set_option linter.unusedSimpArgs false
open Go.RowKit

theorem gcd_step (m k : Nat) : Nat.gcd k (m % k) = Nat.gcd m k := by rw [Nat.gcd_comm k, ← Nat.gcd_rec, Nat.gcd_comm]
theorem gcd_pos {a b : Int} (h : 1 ≤ b) : 1 ≤ Int.gcd a b := by
  have : Int.gcd a b ≠ 0 := by
    intro h0
    rw [Int.gcd_eq_zero_iff] at h0
    omega
  omega
def lowT (a b : Int) : Int := if partB a b then a.tdiv (Int.gcd a b) else 0
def lowB (a b : Int) : Int := if partB a b then b / (Int.gcd a b) else 0
def adN (a b c d : Int) : Int := a * d + c * b
def adD (b d : Int) : Int := b * d
def adT (a b c d : Int) : Int := (adN a b c d).tdiv (Int.gcd (adN a b c d) (adD b d))
def adQ (a b c d : Int) : Int := (adD b d) / (Int.gcd (adN a b c d) (adD b d))
def addOk (a b c d : Int) : Bool := partB a b && partB c d && partB (adT a b c d) (adQ a b c d)
def addT (a b c d : Int) : Int := if addOk a b c d then adT a b c d else 0
def addB (a b c d : Int) : Int := if addOk a b c d then adQ a b c d else 0
theorem ad_bd {a b c d : Int} (h1 : partB a b = true) (h2 : partB c d = true) :
    (-4611686018427387904 ≤ a * d + c * b ∧ a * d + c * b ≤ 4611686018427387904 ∧ 1 ≤ b * d ∧ b * d ≤ 4611686018427387904) := by
  have q1 := part_mul h1 h2
  have q2 := part_mul h2 h1
  have e1 := partB_true h1
  have e2 := partB_true h2
  have q3 := mul_bd (a := b) (d := d) (A := 1000000) (D := 1000000) (by omega) (by omega) (by omega) (by omega)
  have q4 : 1 * 1 ≤ b * d := Int.mul_le_mul (by omega) (by omega) (by omega) (by omega)
  omega
theorem fdiv_of (a b : Int) (hb : 1 ≤ b) : a / b = if a.tmod b < 0 then a.tdiv b - 1 else a.tdiv b := by
  have h1 := Int.mul_tdiv_add_tmod a b
  have h2 : (a.tmod b) < b := Int.tmod_lt_of_pos a (by omega)
  have h3 : -b < a.tmod b := by
    have h := Int.tmod_lt_of_pos (-a) (show 0 < b by omega)
    rw [Int.neg_tmod] at h
    omega
  split
  · rw [Int.ediv_eq_iff_of_pos (by omega)]
    rw [Int.sub_mul]
    have := Int.mul_comm b (a.tdiv b)
    constructor <;> omega
  · rw [Int.ediv_eq_iff_of_pos (by omega)]
    have := Int.mul_comm b (a.tdiv b)
    constructor <;> omega
theorem tdiv_bd (a b A : Int) (h1 : -A ≤ a) (h2 : a ≤ A) : -A ≤ a.tdiv b ∧ a.tdiv b ≤ A := by
  have h3 : (a.tdiv b).natAbs = a.natAbs / b.natAbs := Int.natAbs_tdiv a b
  have h4 := Nat.div_le_self a.natAbs b.natAbs
  omega
theorem ediv_bd (a b A : Int) (hb : 1 ≤ b) (h1 : -A ≤ a) (h2 : a ≤ A) : -A - 1 ≤ a / b ∧ a / b ≤ A := by
  have h3 := fdiv_of a b hb
  have h4 := tdiv_bd a b A h1 h2
  split at h3 <;> omega
def rndOk (a b mode : Int) : Bool := partB a b && inB mode (-1) 1
def rndV (a b mode : Int) : Int := if rndOk a b mode then poMd a b mode else 0
end Go.Proofs.YtkekpolfdmmgeaaGreatDoor

/- Contracts of chapter 1: lists of points. -/
namespace Go.Proofs.YtkekpolfdmmgeaaGreatDoor
set_option linter.unusedVariables false
set_option linter.unusedSimpArgs false
open Go.RowKit
theorem sum_bd (zs : List Int) (M : Int) (hM : 0 ≤ M) (h : ∀ z ∈ zs, -M ≤ z ∧ z ≤ M) (k : Nat) : -((k : Int) * M) ≤ (zs.take k).sum ∧ (zs.take k).sum ≤ (k : Int) * M := by
  induction zs generalizing k with
  | nil =>
    have : 0 ≤ (k : Int) * M := Int.mul_nonneg (by omega) hM
    simp
    omega
  | cons z zs ih =>
    cases k with
    | zero => simp
    | succ k =>
      have h1 := h z (by simp)
      have h2 := ih (fun y hy => h y (by simp [hy])) k
      have h3 : ((k + 1 : Nat) : Int) * M = (k : Int) * M + M := by rw [Int.natCast_add, Int.add_mul]; simp
      rw [List.take_succ_cons, List.sum_cons, h3]
      omega
theorem ints_one (w : World) (x : Int) (t : TypeId) : Ints (w.alloc (.cells #[.int .i64 x] t)) (.slice (some ⟨w.heap.size, 0, none⟩) 1 1) [x] :=
  ⟨_, 1, rfl, Nat.le_refl _, by decide, (fun h => by cases h), fun _ => ⟨w.heap.size, 0, rfl, by simp, fun j u hu => by
    have hj : j = 0 := by
      have := (List.getElem?_eq_some_iff.1 hu).1
      simpa using this
    subst hj
    simp at hu
    subst hu
    simp⟩⟩
theorem ints_new (w : World) (b : Nat) (hb : b = w.heap.size) (x : Int) (t : TypeId) : Ints (w.alloc (.cells #[.int .i64 x] t)) (.slice (some ⟨b, 0, none⟩) 1 1) [x] := by
  subst hb
  exact ints_one w x t
def ptsB (zs : List Int) : Bool := decide (zs.length ≤ 60) && zs.all (inB · (-1000000) 1000000)
theorem ptsB_true {zs : List Int} (h : ptsB zs = true) : zs.length ≤ 60 ∧ zs.all (inB · (-1000000) 1000000) = true := by
  unfold ptsB at h
  rw [Bool.and_eq_true] at h
  exact ⟨by simpa using h.1, h.2⟩
end Go.Proofs.YtkekpolfdmmgeaaGreatDoor

/- Points: their text, the reference's and the program's. -/
namespace Go.Proofs.YtkekpolfdmmgeaaGreatDoor
set_option linter.unusedVariables false
set_option linter.unusedSimpArgs false
set_option linter.unnecessarySimpa false
open Go.RowKit Go.Lib

def tx (l : List UInt8) : ByteArray := ⟨l.toArray⟩
theorem tx_data (l : List UInt8) : (tx l).data.toList = l := rfl
theorem tx_toList (l : List UInt8) : (tx l).toList = l := by rw [toList_data]; rfl
theorem tx_of (s : ByteArray) : tx s.data.toList = s := mk_data s
theorem tx_app (a b : List UInt8) : tx a ++ tx b = tx (a ++ b) := by
  apply ByteArray.ext
  simp [tx]
theorem tx_size (l : List UInt8) : (tx l).size = l.length := by rw [size_eq]; rfl
theorem tx_inj {a b : List UInt8} (h : tx a = tx b) : a = b := by rw [← tx_data a, ← tx_data b, h]
theorem conv_box {W : World} {g : Nat} {c : UInt8} {n : Int} (h : W.cell? ⟨g, 0, none⟩ = some (.int .u8 n)) (hn : n = c.toNat) :
    (convert 22 9 (.slice (some ⟨g, 0, none⟩) 1 1)).run Tryz.prog W = .ok (.string ⟨#[c]⟩) W := by
  subst hn
  exact run_convert_bytes_back (P := Tryz.prog) W 22 9 5 ⟨g, 0, none⟩ 1 [c] Tryz.underlying22 Tryz.underlying5 Tryz.underlying9 (fun j hj => by
    obtain rfl : j = 0 := by simpa using hj
    simpa [Addr.add] using h)
def numT (n : Nat) : ByteArray := tx (decDigits n)
theorem numT_small {n : Nat} (h : n < 10) : numT n = ⟨#[UInt8.ofNat (48 + n)]⟩ := by unfold numT; rw [decDigits_small h]; rfl
theorem numT_big {n : Nat} (h : ¬ n < 10) : numT n = numT (n / 10) ++ ⟨#[UInt8.ofNat (48 + n % 10)]⟩ := by
  unfold numT
  rw [decDigits_big h, ← tx_app]
  rfl
theorem ret_str {a b : ByteArray} (h : a = b) : Ending.returned (.string a) = .returned (.string b) := by rw [h]
theorem cat_run {x y z : ByteArray} (hz : x ++ y = z) (h : x.size + y.size ≤ 1099511627776) : Op.stringOp .add x y = pure (.string z) := by
  subst hz
  unfold Op.stringOp
  have : ¬ ((x.size + y.size : Nat) : Int) > IntKind.i64.max := by
    have : IntKind.i64.max = 9223372036854775807 := by decide
    omega
  simp only [if_neg this]
theorem numT_len {n : Nat} (h : n ≤ 1000000000) : (numT n).size ≤ 10 := by
  unfold numT
  rw [tx_size]
  exact decDigits_len (k := 9) (by omega)
set_option maxRecDepth 100000 in
set_option maxHeartbeats 2000000 in
theorem l1Num_any (n : Nat) : n ≤ 1000000000 → ∀ w : World, Calls Tryz.prog 127 #[.int .i64 (n : Int)] w fun e w' => e = .returned (.string (numT n)) ∧ Kept w w' := by
  induction n using Nat.strongRecOn with
  | _ n ih =>
    intro hn w
    by_cases h10 : n < 10
    · have HN := Lib.hid (numT_small h10)
      have hq : (48 + (n : Int)) = ((UInt8.ofNat (48 + n)).toNat : Int) := by rw [toNat_of h10]; omega
      have HQ := Lib.hid hq
      clear ih hq
      generalize hcc : UInt8.ofNat (48 + n) = cc at *
      have HCC := Lib.hid hcc
      clear hcc
      have hcv := conv_box (W := w.alloc (.cells #[.int .u8 (48 + (n : Int))] 5)) (g := w.heap.size) (c := cc) (n := 48 + (n : Int)) (by simp) HQ.out
      go_enter Tryz.func127, Tryz.ntmps127
      go_wp2_with fail
      go_ret
      exact ⟨ret_str (HN.out.trans (by first | rfl | rw [HCC.out])).symm, (Kept.refl w).alloc _⟩
    · have HN := Lib.hid (numT_big h10)
      have e10 : ((n / 10 : Nat) : Int) = (n : Int) / 10 := by omega
      have c := ih (n / 10) (by omega) (by omega)
      rw [e10] at c
      have C := Lib.hid c
      have hm : n % 10 < 10 := Nat.mod_lt _ (by decide)
      have hd0 : (0 : Int) ≤ (n : Int) % 10 := by omega
      have hd1 : (n : Int) % 10 < 10 := by omega
      have hq : (48 + (n : Int) % 10) = ((UInt8.ofNat (48 + n % 10)).toNat : Int) := by rw [toNat_of hm]; omega
      have HQ := Lib.hid hq
      clear ih c e10 hq
      generalize hcc : UInt8.ofNat (48 + n % 10) = cc at *
      have HCC := Lib.hid hcc
      clear hcc
      have hcv := conv_box (W := (w.alloc (.cells #[.int .u8 (48 + (n : Int) % 10)] 5)).drew) (g := w.heap.size) (c := cc) (n := 48 + (n : Int) % 10) (by simp) HQ.out
      have hct : Op.stringOp .add (numT (n / 10)) ⟨#[cc]⟩ = pure (.string (numT n)) := cat_run HN.out.symm (by have := numT_len (n := n / 10) (by omega); have e : (⟨#[cc]⟩ : ByteArray).size = 1 := rfl; omega)
      have ht : (n : Int).tmod 10 = (n : Int) % 10 := Int.tmod_eq_emod_of_nonneg (by omega)
      have hw1 : IntKind.i64.wrap ((n : Int) / 10) = (n : Int) / 10 := IntWalk.i64_in _ (by omega)
      have hw8 : IntKind.u8.wrap (48 + (n : Int) % 10) = 48 + (n : Int) % 10 := IntWalk.u8_in _ (by omega)
      have hwq : IntKind.i64.wrap (48 + (n : Int) % 10) = 48 + (n : Int) % 10 := IntWalk.i64_in _ (by omega)
      go_enter Tryz.func127, Tryz.ntmps127
      go_wp2_with fail
      go_region_with (first | (go_at_call 127; (with_reducible refine (C.out w.drew).mono ?_); rintro e w1 ⟨rfl, k1⟩; have kk : Kept w (w1.alloc (.cells #[.int .u8 (48 + (n : Int) % 10)] 5)) := ((Kept.refl w).drew.trans k1).alloc _; have hcv1 := conv_box (W := w1.alloc (.cells #[.int .u8 (48 + (n : Int) % 10)] 5)) (g := w1.heap.size) (c := cc) (n := 48 + (n : Int) % 10) (by simp) HQ.out) | (go_at_call 127; (with_reducible refine (C.out (w.alloc (.cells #[.int .u8 (48 + (n : Int) % 10)] 5)).drew).mono ?_); rintro e w1 ⟨rfl, k1⟩; have kk : Kept w w1 := ((Kept.refl w).alloc _).drew.trans k1; have hcv2 := conv_box (W := w1) (g := w.heap.size) (c := cc) (n := 48 + (n : Int) % 10) ((k1.cell (p := ⟨w.heap.size, 0, none⟩) (by simp)).trans (by simp)) HQ.out))
      all_goals
        go_wp2_with fail
        go_ret
        exact ⟨rfl, kk⟩
end Go.Proofs.YtkekpolfdmmgeaaGreatDoor

/- Points: PointsText, both sides and the law. -/
namespace Go.Proofs.YtkekpolfdmmgeaaGreatDoor
set_option linter.unusedVariables false
set_option linter.unusedSimpArgs false
set_option linter.unnecessarySimpa false
open Go.RowKit Go.Lib

theorem kept_grow (w : World) (k : Nat) (os : Array Obj) : Kept w (Go.Sort.grow (w.drewN k) os) :=
  ⟨rfl, rfl, rfl, by simp [Go.Sort.grow, World.drewN], fun i hi => by
    show (w.heap ++ os)[i]? = w.heap[i]?
    rw [Array.getElem?_append, if_pos hi]⟩
/-- the library's table of powers of ten reads as its initialiser lays it -/
def HasTab (w : World) : Prop := TabIs Tryz.prog w "internal/strconv.uint64pow10" .u64 pow10Tab ∧ 2 < w.heap.size
theorem HasTab.kept {w w' : World} (h : HasTab w) (k : Kept w w') : HasTab w' := by
  refine ⟨?_, Nat.lt_of_lt_of_le h.2 k.size⟩
  have hg : Tryz.prog.globalNamed "internal/strconv.uint64pow10" = some 2 := by kernel_rfl
  have h1 := h.1
  unfold TabIs World.var? at h1 ⊢
  rw [hg] at h1 ⊢
  simp only [Option.bind_eq_bind, Option.bind_some] at h1 ⊢
  rw [k.block _ h.2]
  exact h1
theorem itoa_nat (n : Nat) : itoa (n : Int) = decDigits n := by
  unfold itoa
  rw [if_neg (by omega)]
  simp
theorem itoa_any (n : Nat) (w : World) (h : HasTab w) (hn : n ≤ 1000000000000) :
    Calls Tryz.prog 97 #[.int .i64 (n : Int)] w fun e w' => e = .returned (.string (numT n)) ∧ Kept w w' := by
  refine (Tryz.strconv_Itoa (n : Int) (by omega) (by omega) w h.1).mono ?_
  rintro e w' ⟨rfl, k, os, rfl⟩
  exact ⟨by rw [itoa_nat]; rfl, kept_grow w k os⟩
def ptT (n : Int) : ByteArray := tx (ptxt n)
theorem ptT_nat {n : Int} {u : Nat} (hn : n = u) : ptT n = numT (u / 100) ++ ⟨#[46]⟩ ++ numT (u / 10 % 10) ++ numT (u % 10) := by
  subst hn
  unfold ptT ptxt
  rw [if_neg (by omega), Int.toNat_natCast]
  unfold ptN numT
  show _ = tx _ ++ tx [46] ++ tx _ ++ tx _
  rw [tx_app, tx_app, tx_app]
  simp
theorem ptT_neg {n : Int} {u : Nat} (hn : n = -(u : Int)) (hu : 0 < u) : ptT n = ⟨#[45]⟩ ++ ptT u := by
  unfold ptT ptxt
  rw [if_pos (by omega), if_neg (by omega), Int.toNat_natCast]
  show _ = tx [45] ++ tx _
  rw [tx_app, show n.natAbs = u by omega]
  rfl
theorem numT_one {n : Nat} (h : n < 10) : (numT n).size = 1 := by rw [numT_small h]; rfl
def ptV (n : Int) : ByteArray := if inB n (-1000000) 1000000 then ptT n else ⟨#[]⟩
theorem ptV_yes {n : Int} (h : inB n (-1000000) 1000000 = true) : ptV n = ptT n := by unfold ptV; rw [h]; rfl
theorem ptV_no {n : Int} (h : inB n (-1000000) 1000000 = false) : ptV n = ⟨#[]⟩ := by unfold ptV; rw [h]; rfl
theorem ret_sb {a a' : ByteArray} {b b' : Bool} (h : a = a') (h2 : b = b') : Ending.returned (.tuple #[.string a, .bool b]) = .returned (.tuple #[.string a', .bool b']) := by rw [h, h2]
end Go.Proofs.YtkekpolfdmmgeaaGreatDoor

/- Draws of texts of points. -/
namespace Go.Proofs.YtkekpolfdmmgeaaGreatDoor
set_option linter.unusedVariables false
set_option linter.unusedSimpArgs false
set_option linter.unnecessarySimpa false
open Go.RowKit Go.Lib

theorem ptT_wide {n : Int} (h : -2000000 ≤ n ∧ n ≤ 2000000) : (ptT n).size ≤ 20 := by
  have hN : ∀ u : Nat, u ≤ 2000000 → (ptT (u : Int)).size ≤ 13 := fun u hu => by
    have s1 := numT_len (n := u / 100) (by omega)
    have s2 : (numT (u / 10 % 10)).size = 1 := numT_one (by omega)
    have s3 : (numT (u % 10)).size = 1 := numT_one (by omega)
    have s4 : (⟨#[46]⟩ : ByteArray).size = 1 := rfl
    rw [ptT_nat (n := (u : Int)) (u := u) rfl, ByteArray.size_append, ByteArray.size_append, ByteArray.size_append]
    omega
  by_cases hneg : n < 0
  · obtain ⟨u, rfl⟩ : ∃ u : Nat, n = -(u : Int) := ⟨n.natAbs, by omega⟩
    have s5 : (⟨#[45]⟩ : ByteArray).size = 1 := rfl
    have := hN u (by omega)
    rw [ptT_neg (n := -(u : Int)) rfl (by omega), ByteArray.size_append]
    omega
  · obtain ⟨u, rfl⟩ : ∃ u : Nat, n = (u : Int) := ⟨n.toNat, by omega⟩
    have := hN u (by omega)
    omega
/-- a list and a number -/
def RowIPost (w : World) (e : Ending) (w' : World) : Prop := ∃ v' zs n, e = .returned (.tuple #[v', .int .i64 n]) ∧ OwnI w' w.heap.size v' zs ∧ zs.length ≤ 61
theorem ext_size (x : ByteArray) (a b : Nat) (h : b ≤ x.size) : (x.extract a b).size = b - a := by rw [ByteArray.size_extract]; omega
set_option maxRecDepth 100000 in
set_option maxHeartbeats 8000000 in
theorem spoilt_any (p m : Nat) (t wi : ByteArray) (w : World) (h : Cur w p m) (hm : m ≤ 1000000000) (ht : t.size ≤ 1000000) (hw0 : 0 < wi.size) (hw1 : wi.size ≤ 1000) :
    Calls Tryz.prog 66 #[.pointer (some ⟨p, 0, none⟩), .string t, .string wi] w fun e w' => (∃ x : ByteArray, e = .returned (.string x) ∧ x.size ≤ t.size + 2) ∧ Cur w' p (m + 20) ∧ Only [p] w w' := by
  have C0 := Lib.hid h
  clear h
  go_enter Tryz.func66, Tryz.ntmps66
  go_wp2_with fail
  with_reducible refine (pick_any p _ 2 w C0.out (by omega) (by omega)).mono ?_
  rintro e w1 ⟨x1, rfl, ⟨lo1, hi1⟩, c1, on1⟩
  have hi2 : x1 < 2 := hi1 (by omega)
  obtain ⟨k0, rfl⟩ : ∃ k : Nat, x1 = (k : Int) := ⟨x1.toNat, by omega⟩
  have C1 := Lib.hid c1
  have N1 := Lib.hid on1
  clear c1 on1 hi1
  go_wp2_with fail
  go_loopw [1, 7] (fun s1 s7 wr => ∃ (k : Nat) (x : ByteArray), s7 = .int .i64 k ∧ s1 = .string x ∧ k ≤ 2 ∧ x.size + k ≤ t.size + 2 ∧ Cur wr p (m + 2 + 6 * (2 - k)) ∧ Only [p] w wr) (fun _ i _ => (RowKit.intOf i).toNat)
  case atStart => exact ⟨k0 + 1, t, by (first | rfl | (congr 1; omega)), rfl, by omega, by omega, C1.out.le (by omega), N1.out⟩
  case round =>
    clear C1 N1
    obtain ⟨k, x, rfl, rfl, hk2, hxs, hc, hon⟩ := hrel
    have HC := Lib.hid hc
    have HON := Lib.hid hon
    clear hc hon
    by_cases hk : 0 < k
    · have hk' : (0 : Int) < (k : Int) := by omega
      by_cases hx : 0 < x.size
      · have hx' : (0 : Int) < (x.size : Int) := by omega
        go_wp2_with fail
        with_reducible refine (pick_any p _ x.size wr HC.out (by omega) (by omega)).mono ?_
        rintro e w2 ⟨x2, rfl, ⟨lo2, hi2⟩, c2, on2⟩
        obtain ⟨i, rfl⟩ : ∃ i : Nat, x2 = (i : Int) := ⟨x2.toNat, by omega⟩
        have hix : i < x.size := by have := hi2 (by omega); omega
        have C2 := Lib.hid c2
        have N2 := Lib.hid (HON.out.trans on2)
        clear c2 on2 hi2
        go_wp2_with fail
        with_reducible refine (pick_any p _ wi.size w2 C2.out (by omega) (by omega)).mono ?_
        rintro e w3 ⟨x3, rfl, ⟨lo3, hi3⟩, c3, on3⟩
        obtain ⟨j, rfl⟩ : ∃ j : Nat, x3 = (j : Int) := ⟨x3.toNat, by omega⟩
        have hjw : j < wi.size := by have := hi3 (by omega); omega
        have C3 := Lib.hid (c3.kept ((Kept.refl w3).alloc (.cells #[.int .u8 ((wi[j]'hjw).toNat : Int)] 5)))
        have N3 := Lib.hid ((N2.out.trans on3).trans (((Kept.refl w3).alloc (.cells #[.int .u8 ((wi[j]'hjw).toNat : Int)] 5)).only [p]))
        have hcv : (convert 22 9 (.slice (some ⟨w3.heap.size, 0, none⟩) 1 1)).run Tryz.prog (w3.alloc (.cells #[.int .u8 ((wi[j]'hjw).toNat : Int)] 5)) = .ok (.string (tx [wi[j]'hjw])) (w3.alloc (.cells #[.int .u8 ((wi[j]'hjw).toNat : Int)] 5)) := conv_box (W := w3.alloc (.cells #[.int .u8 ((wi[j]'hjw).toNat : Int)] 5)) (g := w3.heap.size) (c := wi[j]'hjw) (n := ((wi[j]'hjw).toNat : Int)) (by simp) rfl
        clear c3 on3 hi3
        go_wp2_with fail
        clear hcv
        obtain ⟨w4, hw4⟩ : ∃ u : World, u = w3.alloc (.cells #[.int .u8 ((wi[j]'hjw).toNat : Int)] 5) := ⟨_, rfl⟩
        rw [← hw4] at C3 N3 ⊢
        clear hw4
        obtain ⟨y, hy⟩ : ∃ y : ByteArray, y = tx [wi[j]'hjw] := ⟨_, rfl⟩
        have hys : y.size = 1 := by rw [hy]; rfl
        rw [← hy]
        clear hy
        with_reducible refine (pick_any p _ 3 w4 C3.out (by omega) (by omega)).mono ?_
        rintro e w5 ⟨q, rfl, ⟨lo5, hi5⟩, c5, on5⟩
        have hq3 : q < 3 := hi5 (by omega)
        have C5 := Lib.hid c5
        have N5 := Lib.hid (N3.out.trans on5)
        clear c5 on5 hi5 C3 N3
        have g1 : (i : Int) ≤ (x.size : Int) := by omega
        have g2 : (i : Int) + 1 ≤ (x.size : Int) := by omega
        have e1 := ext_size x 0 i (by omega)
        have e2 := ext_size x i x.size (Nat.le_refl _)
        have e3 := ext_size x (i + 1) x.size (Nat.le_refl _)
        have A1 := Lib.hid (cat_run (x := x.extract 0 i) (y := y) rfl (by omega))
        have A2 := Lib.hid (cat_run (x := x.extract 0 i ++ y) (y := x.extract i x.size) rfl (by rw [ByteArray.size_append]; omega))
        have A3 := Lib.hid (cat_run (x := x.extract 0 i ++ y) (y := x.extract (i + 1) x.size) rfl (by rw [ByteArray.size_append]; omega))
        have A4 := Lib.hid (cat_run (x := x.extract 0 i) (y := x.extract (i + 1) x.size) rfl (by omega))
        have a1 := A1.out
        have a2 := A2.out
        have a3 := A3.out
        have a4 := A4.out
        have SZ : Hid ((x.extract 0 i ++ y ++ x.extract i x.size).size = x.size + 1 ∧ (x.extract 0 i ++ y ++ x.extract (i + 1) x.size).size = x.size ∧ (x.extract 0 i ++ x.extract (i + 1) x.size).size = x.size - 1) := Lib.hid (by simp only [ByteArray.size_append]; omega)
        clear A1 A2 A3 A4 e1 e2 e3
        by_cases q0 : q = 0
        · have tq0 : (q == 0) = true := by rw [q0]; rfl
          clear q0
          go_wp2_with fail
          go_quiet (fail)
          go_wp2_with fail
          go_roundw
          case rel => exact ⟨k - 1, _, by (first | go_num | (congr 1; omega)), rfl, by omega, by have := SZ.out.1; omega, (C5.out.kept ((Kept.refl _).drewN _)).le (by omega), N5.out.trans (((Kept.refl _).drewN _).only _)⟩
          case measure => simp [RowKit.intOf]; omega
        · have tq0 : (q == 0) = false := beq_eq_false_iff_ne.2 q0
          by_cases q1 : q = 1
          · have tq1 : (q == 1) = true := by rw [q1]; rfl
            clear q0 q1
            go_wp2_with fail
            go_quiet (fail)
            go_wp2_with fail
            go_roundw
            case rel => exact ⟨k - 1, _, by (first | go_num | (congr 1; omega)), rfl, by omega, by have := SZ.out.2.1; omega, (C5.out.kept ((Kept.refl _).drewN _)).le (by omega), N5.out.trans (((Kept.refl _).drewN _).only _)⟩
            case measure => simp [RowKit.intOf]; omega
          · have tq1 : (q == 1) = false := beq_eq_false_iff_ne.2 q1
            clear q0 q1
            go_wp2_with fail
            go_quiet (fail)
            go_wp2_with fail
            go_roundw
            case rel => exact ⟨k - 1, _, by (first | go_num | (congr 1; omega)), rfl, by omega, by have := SZ.out.2.2; omega, (C5.out.kept ((Kept.refl _).drewN _)).le (by omega), N5.out.trans (((Kept.refl _).drewN _).only _)⟩
            case measure => simp [RowKit.intOf]; omega
      · have hx' : ¬ (0 : Int) < (x.size : Int) := by omega
        go_wp2_with fail
        go_ret
        exact ⟨⟨x, rfl, by omega⟩, HC.out.le (by omega), HON.out⟩
    · have hk' : ¬ (0 : Int) < (k : Int) := by omega
      go_wp2_with fail
      go_ret
      exact ⟨⟨x, rfl, by omega⟩, HC.out.le (by omega), HON.out⟩
end Go.Proofs.YtkekpolfdmmgeaaGreatDoor

/- Items in memory. -/
namespace Go.Proofs.YtkekpolfdmmgeaaGreatDoor
set_option linter.unusedVariables false
set_option linter.unusedSimpArgs false
open Go.RowKit

structure ItemD where
  names : List ByteArray
  marks : List Int
  late : Bool
def ItemAt (w : World) (v : Value) (it : ItemD) : Prop := ∃ nv mv, v = .agg #[nv, mv, .bool it.late] ∧ Strs w nv it.names ∧ Ints w mv it.marks
theorem fpA_item (a b : Value) (c : Bool) : fpA (.agg #[a, b, .bool c]) = fp a ++ fp b := by
  simp [fpA, fp, Value.ownBlock]
def OwnT (w : World) (base : Nat) (v : Value) (it : ItemD) : Prop :=
  ∃ nv mv, v = .agg #[nv, mv, .bool it.late] ∧ OwnS w base nv it.names ∧ OwnI w base mv it.marks ∧ (fpA v).Nodup
theorem ItemAt.kept {w w' : World} {v : Value} {it : ItemD} (h : ItemAt w v it) (hk : Kept w w') : ItemAt w' v it := by
  obtain ⟨nv, mv, e, h1, h2⟩ := h
  exact ⟨nv, mv, e, h1.kept hk, h2.kept hk⟩
theorem OwnT.item {w : World} {base : Nat} {v : Value} {it : ItemD} (h : OwnT w base v it) : ItemAt w v it := by
  obtain ⟨nv, mv, e, h1, h2, _⟩ := h
  exact ⟨nv, mv, e, h1.strs, h2.ints⟩
theorem info_item : (Tryz.prog.info? 64).map (fun i => (i.zero, i.size, i.bytes)) = some (some (.agg #[.slice none 0 0, .slice none 0 0, .bool false]), 3, 56) := by kernel_rfl

/-- the three cells of an item -/
def row3 (p : (Value × Value) × ItemD) : List Value := [p.1.1, p.1.2, .bool p.2.late]
def ItemsA (w : World) (A : Option Addr) (its : List ItemD) (cs : List (Value × Value)) : Prop :=
  cs.length = its.length ∧ SeqA w A its.length ((cs.zip its).flatMap row3) ∧ ∀ (k : Nat) (nv mv : Value) (it : ItemD), cs[k]? = some (nv, mv) → its[k]? = some it → Strs w nv it.names ∧ Ints w mv it.marks
def ItemsAt (w : World) (v : Value) (its : List ItemD) : Prop :=
  ∃ cs : List (Value × Value), cs.length = its.length ∧ Seq w v its.length ((cs.zip its).flatMap row3) ∧ ∀ (k : Nat) (nv mv : Value) (it : ItemD), cs[k]? = some (nv, mv) → its[k]? = some it → Strs w nv it.names ∧ Ints w mv it.marks
theorem ItemsAt.kept {w w' : World} {v : Value} {its : List ItemD} (h : ItemsAt w v its) (hk : Kept w w') : ItemsAt w' v its := by
  obtain ⟨cs, e, h1, h2⟩ := h
  exact ⟨cs, e, h1.kept hk, fun k nv mv it q1 q2 => ⟨(h2 k nv mv it q1 q2).1.kept hk, (h2 k nv mv it q1 q2).2.kept hk⟩⟩
theorem ItemsA.kept {w w' : World} {A : Option Addr} {its : List ItemD} {cs : List (Value × Value)} (h : ItemsA w A its cs) (hk : Kept w w') : ItemsA w' A its cs :=
  ⟨h.1, h.2.1.kept hk, fun k nv mv it q1 q2 => ⟨(h.2.2 k nv mv it q1 q2).1.kept hk, (h.2.2 k nv mv it q1 q2).2.kept hk⟩⟩
theorem ItemsAt.out {w : World} {v : Value} {its : List ItemD} (h : ItemsAt w v its) : ∃ A c cs, v = .slice A its.length c ∧ its.length ≤ c ∧ c ≤ maxLen ∧ ItemsA w A its cs := by
  obtain ⟨cs, e, h1, h2⟩ := h
  obtain ⟨A, c, rfl, hnc, hcm, hsa⟩ := h1.out
  exact ⟨A, c, cs, rfl, hnc, hcm, e, hsa, h2⟩
/-- an item of a list, its three cells -/
theorem items_at {w : World} {A : Option Addr} {its : List ItemD} {cs : List (Value × Value)} (hA : ItemsA w A its cs) {k : Nat} (hk : k < its.length) :
    ∃ b o A1 c1 A2 c2 it, A = some ⟨b, o, none⟩ ∧ b < w.heap.size ∧ its[k]? = some it ∧ cs[k]? = some (.slice A1 it.names.length c1, .slice A2 it.marks.length c2) ∧ ItemAt w (.agg #[.slice A1 it.names.length c1, .slice A2 it.marks.length c2, .bool it.late]) it ∧
      w.cell? ⟨b, o + k * 3, none⟩ = some (.slice A1 it.names.length c1) ∧ w.cell? ⟨b, o + k * 3 + 1, none⟩ = some (.slice A2 it.marks.length c2) ∧ w.cell? ⟨b, o + k * 3 + 2, none⟩ = some (.bool it.late) := by
  obtain ⟨hl, h, hc⟩ := hA
  obtain ⟨b, o, e, hb, hcell⟩ := h (by omega)
  have h1 : its[k]? = some its[k] := List.getElem?_eq_getElem hk
  obtain ⟨nv, mv, h2⟩ : ∃ nv mv, cs[k]? = some (nv, mv) := ⟨_, _, List.getElem?_eq_getElem (by omega)⟩
  have h3 := hc k nv mv its[k] h2 h1
  have hz : (cs.zip its)[k]? = some ((nv, mv), its[k]) := by rw [List.getElem?_zip_eq_some]; exact ⟨h2, h1⟩
  have hf := flat_get row3 3 (fun _ => rfl) (cs.zip its) k
  have q0 := hcell (k * 3) nv (by have := hf 0 (by omega); rw [Nat.add_zero, hz] at this; exact this)
  have q1 := hcell (k * 3 + 1) mv (by have := hf 1 (by omega); rw [hz] at this; exact this)
  have q2 := hcell (k * 3 + 2) (.bool its[k].late) (by have := hf 2 (by omega); rw [hz] at this; exact this)
  rw [← Nat.add_assoc] at q1 q2
  have hit : ItemAt w (.agg #[nv, mv, .bool its[k].late]) its[k] := ⟨_, _, rfl, h3.1, h3.2⟩
  obtain ⟨A1, c1, rfl, _⟩ := h3.1.1.out
  obtain ⟨A2, c2, rfl, _⟩ := h3.2.out
  exact ⟨b, o, A1, c1, A2, c2, its[k], e, hb, h1, h2, hit, q0, q1, q2⟩


/-! ### sizes -/
def strsSize (zs : List ByteArray) : Nat := zs.length + (zs.map ByteArray.size).sum
def ItemD.size (it : ItemD) : Nat := strsSize it.names + it.marks.length
def itemsSize (its : List ItemD) : Nat := its.length + (its.map ItemD.size).sum
theorem item_size_le {its : List ItemD} {k : Nat} {it : ItemD} (h : its[k]? = some it) : it.size ≤ itemsSize its := by
  have := mem_le_sum (its.map ItemD.size) it.size (List.mem_map_of_mem (List.mem_of_getElem? h))
  unfold itemsSize
  omega
theorem item_parts (it : ItemD) : it.names.length ≤ it.size ∧ it.marks.length ≤ it.size := by
  unfold ItemD.size strsSize
  omega
/-! ### lists of items that the call owns -/
theorem OwnS.far {w w' : World} {base base' : Nat} {v : Value} {zs : List ByteArray} {S : List Nat} (h : OwnS w base v zs) (ho : Only S w w') (hS : ∀ b ∈ S, b < base) (hb : base' ≤ base) : OwnS w' base' v zs := ⟨own_far h.1 ho hS hb, h.2⟩
def fpL (cs : List (Value × Value)) : List Nat := cs.flatMap fun p => fp p.1 ++ fp p.2
theorem fpL_snoc (cs : List (Value × Value)) (a b : Value) : fpL (cs ++ [(a, b)]) = fpL cs ++ (fp a ++ fp b) := by simp [fpL]
def OwnL (w : World) (base : Nat) (v : Value) (its : List ItemD) (S : List Nat) : Prop :=
  ∃ cs : List (Value × Value), cs.length = its.length ∧ w.ownsRow base 64 3 v its.length ((cs.zip its).flatMap row3) ∧
    (∀ (k : Nat) (nv mv : Value) (it : ItemD), cs[k]? = some (nv, mv) → its[k]? = some it → OwnS w base nv it.names ∧ OwnI w base mv it.marks) ∧ S = fp v ++ fpL cs ∧ S.Nodup ∧ ∀ b ∈ S, base ≤ b ∧ b < w.heap.size
theorem OwnL.items {w : World} {base : Nat} {v : Value} {its : List ItemD} {S : List Nat} (h : OwnL w base v its S) : ItemsAt w v its := by
  obtain ⟨cs, h1, h2, h3, _⟩ := h
  exact ⟨cs, h1, Seq.of_own h2, fun k nv mv it q1 q2 => ⟨(h3 k nv mv it q1 q2).1.strs, (h3 k nv mv it q1 q2).2.ints⟩⟩
theorem mem_fpL {cs : List (Value × Value)} {k : Nat} {nv mv : Value} (h : cs[k]? = some (nv, mv)) {b : Nat} (hb : b ∈ fp nv ∨ b ∈ fp mv) : b ∈ fpL cs := by
  unfold fpL
  rw [List.mem_flatMap]
  exact ⟨(nv, mv), List.mem_of_getElem? h, by simpa using hb⟩
theorem OwnL.only {w w' : World} {base : Nat} {v : Value} {its : List ItemD} {S T : List Nat} (h : OwnL w base v its S) (ho : Only T w w') (hd : ∀ b ∈ S, b ∉ T) : OwnL w' base v its S := by
  obtain ⟨cs, h1, h2, h3, rfl, h5, h6⟩ := h
  refine ⟨cs, h1, own_only h2 ho (fun b hb => hd b (List.mem_append_left _ hb)), fun k nv mv it q1 q2 => ⟨(h3 k nv mv it q1 q2).1.only ho (fun b hb => hd b (List.mem_append_right _ (mem_fpL q1 (.inl hb)))), (h3 k nv mv it q1 q2).2.only ho (fun b hb => hd b (List.mem_append_right _ (mem_fpL q1 (.inr hb))))⟩, rfl, h5, fun b hb => ⟨(h6 b hb).1, Nat.lt_of_lt_of_le (h6 b hb).2 ho.size⟩⟩
theorem OwnL.kept {w w' : World} {base : Nat} {v : Value} {its : List ItemD} {S : List Nat} (h : OwnL w base v its S) (hk : Kept w w') : OwnL w' base v its S := h.only (hk.only []) (fun _ _ => List.not_mem_nil)
theorem set3_take {xs ys : List Value} {k n : Nat} {a b c : Value} (hl : xs.length = n * 3) (hk : k < n) (ht : xs.take (k * 3) = ys) :
    (((xs.set (k * 3) a).set (k * 3 + 1) b).set (k * 3 + 2) c).take ((k + 1) * 3) = ys ++ [a, b, c] := by
  have h1 : k * 3 + 2 < xs.length := by omega
  rw [show (k + 1) * 3 = k * 3 + 2 + 1 from by omega]
  rw [take_snoc (x := c) (by rw [List.getElem?_set_self (by simp; omega)]), List.take_set_of_le (Nat.le_refl _)]
  rw [take_snoc (x := b) (by rw [List.getElem?_set_self (by simp; omega)]), List.take_set_of_le (Nat.le_refl _)]
  rw [take_snoc (x := a) (by rw [List.getElem?_set_self (by omega)]), List.take_set_of_le (Nat.le_refl _), ht]
  simp
theorem zip_snoc {cs : List (Value × Value)} {its : List ItemD} {p : Value × Value} {it : ItemD} (h : its[cs.length]? = some it) : (cs ++ [p]).zip its = cs.zip its ++ [(p, it)] := by
  induction cs generalizing its with
  | nil =>
    cases its with
    | nil => simp at h
    | cons x l => simp at h; simp [h]
  | cons q cs ih =>
    cases its with
    | nil => simp at h
    | cons x l =>
      simp at h
      simp [ih h]
theorem getElem?_snoc {α : Type} {l : List α} {x y : α} {k : Nat} (h : (l ++ [x])[k]? = some y) : (l[k]? = some y) ∨ (k = l.length ∧ x = y) := by
  rcases Nat.lt_trichotomy k l.length with h1 | h1 | h1
  · rw [List.getElem?_append_left h1] at h
    exact .inl h
  · subst h1
    simp at h
    exact .inr ⟨rfl, h⟩
  · rw [List.getElem?_eq_none (by simp; omega)] at h
    cases h
end Go.Proofs.YtkekpolfdmmgeaaGreatDoor
