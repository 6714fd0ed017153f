/- Contracts of functions that the proof leans on. No condition. -/
import Derived.Test.YtkekpolfdmmgeaaGreatDoorM4ceb8670de
import Derived.Deep.RegionHeld3
import Derived.Deep.DeepCutAuto
/- Texts, plain: the text of an item and of a list of items, and parsing them. -/
namespace Go.Proofs.YtkekpolfdmmgeaaGreatDoor
set_option linter.unusedVariables false
set_option linter.unusedSimpArgs false
set_option linter.unnecessarySimpa false
open Go.Lib

def signL (m : Int) : List UInt8 := if m = 1 then [60] else if m = 2 then [101] else if m = 3 then [42] else []
def wordI (p : ByteArray × Int) : List UInt8 := p.1.data.toList ++ signL p.2
def itW (it : ItemD) : List (List UInt8) := (it.names.zip it.marks).map wordI
def lateL (b : Bool) : List UInt8 := if b then [32, 120] else []
def itTxt (it : ItemD) : List UInt8 := join (itW it) [43] ++ lateL it.late
def endM (w : List UInt8) : Int := match w.getLast? with
  | some b => if b = 60 then 1 else if b = 101 then 2 else if b = 42 then 3 else 0
  | none => 0
def cutM (w : List UInt8) : List UInt8 := if endM w = 0 then w else w.dropLast
def nameM (w : List UInt8) : ByteArray := ⟨(cutM w).toArray⟩
def itP (s : List UInt8) : ItemD := ⟨(splitOn 43 (trimSuffix s [32, 120])).map nameM, (splitOn 43 (trimSuffix s [32, 120])).map endM, hasSuffix s [32, 120]⟩
theorem endM_snoc (w : List UInt8) (b : UInt8) : endM (w ++ [b]) = if b = 60 then 1 else if b = 101 then 2 else if b = 42 then 3 else 0 := by
  unfold endM
  simp
theorem endM_nil : endM [] = 0 := rfl
theorem wordI_P (w : List UInt8) : wordI (nameM w, endM w) = w := by
  unfold wordI nameM cutM
  induction w using snocInd with
  | h0 => rfl
  | h1 w b _ =>
    simp only [endM_snoc]
    by_cases h1 : b = 60
    · subst h1; simp [signL]
    · by_cases h2 : b = 101
      · subst h2; simp [signL]
      · by_cases h3 : b = 42
        · subst h3; simp [signL]
        · simp [h1, h2, h3, signL]
theorem suffix_back (s p : List UInt8) : trimSuffix s p ++ (if hasSuffix s p then p else []) = s := by
  unfold trimSuffix hasSuffix
  split
  · rename_i h
    have hs := List.isSuffixOf_iff_suffix.1 h
    obtain ⟨t, rfl⟩ := hs
    simp
  · simp
theorem zip_maps {α β γ : Type} (f : α → β) (g : α → γ) : ∀ L : List α, (L.map f).zip (L.map g) = L.map fun x => (f x, g x)
  | [] => rfl
  | x :: L => by simp [zip_maps f g L]
/-- The text of what is parsed. -/
theorem itTxt_P (s : List UInt8) : itTxt (itP s) = s := by
  unfold itTxt itW itP
  simp only [zip_maps, List.map_map]
  have e : (wordI ∘ fun x => (nameM x, endM x)) = id := by funext w; exact wordI_P w
  rw [e, List.map_id, splitOn_join]
  exact suffix_back s [32, 120]

theorem nmB_cases {c : UInt8} (h : nmB c = true) : c ≠ 60 ∧ c ≠ 101 ∧ c ≠ 42 ∧ c ≠ 43 ∧ c ≠ 120 ∧ c ≠ 10 ∧ c ≠ 32 := by
  have hk : ∀ k : UInt8, nmB k = false → c ≠ k := fun k hk e => by rw [e, hk] at h; cases h
  exact ⟨hk _ (by decide), hk _ (by decide), hk _ (by decide), hk _ (by decide), hk _ (by decide), hk _ (by decide), hk _ (by decide)⟩
theorem name_of {s : ByteArray} (h : nameB s = true) : (∀ c ∈ s.data.toList, nmB c = true) ∧ s.data.toList ≠ [] := by
  unfold nameB at h
  simp only [Bool.and_eq_true] at h
  refine ⟨fun c hc => List.all_eq_true.1 h.1 c hc, fun e => ?_⟩
  have h2 := h.2
  unfold inB at h2
  rw [size_eq, e] at h2
  simp at h2
theorem sign_of {m : Int} (h : inB m 0 3 = true) : m = 0 ∨ m = 1 ∨ m = 2 ∨ m = 3 := by
  unfold inB at h
  simp at h
  omega
/-- A word of a valid item: it is cut into what it was made of; none of its bytes is a '+', a line's end; it does not end with an 'x'. -/
theorem word_back {s : ByteArray} {m : Int} (h : nameB s = true) (hm : inB m 0 3 = true) : nameM (wordI (s, m)) = s ∧ endM (wordI (s, m)) = m ∧ (∀ c ∈ wordI (s, m), c ≠ 43 ∧ c ≠ 10 ∧ c ≠ 32) ∧ ∃ w c, wordI (s, m) = w ++ [c] ∧ c ≠ 120 := by
  obtain ⟨ha, hne⟩ := name_of h
  obtain ⟨w, c, hw⟩ : ∃ w c, s.data.toList = w ++ [c] := ⟨_, _, (List.dropLast_concat_getLast hne).symm⟩
  have hc := nmB_cases (ha c (by rw [hw]; simp))
  have hall : ∀ x ∈ s.data.toList, x ≠ 43 ∧ x ≠ 10 ∧ x ≠ 32 := fun x hx => by have := nmB_cases (ha x hx); exact ⟨this.2.2.2.1, this.2.2.2.2.2.1, this.2.2.2.2.2.2⟩
  have hs : (⟨s.data.toList.toArray⟩ : ByteArray) = s := mk_data s
  unfold nameM cutM wordI
  rcases sign_of hm with rfl | rfl | rfl | rfl
  · have e : endM (s.data.toList ++ signL 0) = 0 := by
      simp only [signL]
      simp only [show ¬ ((0 : Int) = 1) by decide, show ¬ ((0 : Int) = 2) by decide, show ¬ ((0 : Int) = 3) by decide, if_false, List.append_nil]
      rw [hw, endM_snoc, if_neg hc.1, if_neg hc.2.1, if_neg hc.2.2.1]
    refine ⟨by rw [e]; simpa [signL] using hs, e, by simpa [signL] using hall, w, c, by simpa [signL] using hw, hc.2.2.2.2.1⟩
  · refine ⟨by rw [show signL 1 = [60] from rfl, endM_snoc]; simpa using hs, by rw [show signL 1 = [60] from rfl, endM_snoc]; rfl, ?_, s.data.toList, 60, rfl, by decide⟩
    intro x hx
    rcases List.mem_append.1 hx with h | h
    · exact hall x h
    · have : x = 60 := by simpa [signL] using h
      subst this; decide
  · refine ⟨by rw [show signL 2 = [101] from rfl, endM_snoc]; simpa using hs, by rw [show signL 2 = [101] from rfl, endM_snoc]; rfl, ?_, s.data.toList, 101, rfl, by decide⟩
    intro x hx
    rcases List.mem_append.1 hx with h | h
    · exact hall x h
    · have : x = 101 := by simpa [signL] using h
      subst this; decide
  · refine ⟨by rw [show signL 3 = [42] from rfl, endM_snoc]; simpa using hs, by rw [show signL 3 = [42] from rfl, endM_snoc]; rfl, ?_, s.data.toList, 42, rfl, by decide⟩
    intro x hx
    rcases List.mem_append.1 hx with h | h
    · exact hall x h
    · have : x = 42 := by simpa [signL] using h
      subst this; decide
theorem words_back : ∀ {ns : List ByteArray} {ms : List Int}, (∀ s ∈ ns, nameB s = true) → (∀ m ∈ ms, inB m 0 3 = true) → ms.length = ns.length →
    ((ns.zip ms).map wordI).map nameM = ns ∧ ((ns.zip ms).map wordI).map endM = ms ∧ ∀ x ∈ (ns.zip ms).map wordI, (∀ c ∈ x, c ≠ 43 ∧ c ≠ 10 ∧ c ≠ 32) ∧ ∃ w c, x = w ++ [c] ∧ c ≠ 120
  | [], [], _, _, _ => ⟨rfl, rfl, fun x hx => by simp at hx⟩
  | s :: ns, m :: ms, h1, h2, h3 => by
    obtain ⟨a, b, c⟩ := words_back (ns := ns) (ms := ms) (fun x hx => h1 x (List.mem_cons_of_mem _ hx)) (fun x hx => h2 x (List.mem_cons_of_mem _ hx)) (by simpa using h3)
    obtain ⟨a', b', c'⟩ := word_back (h1 s (by simp)) (h2 m (by simp))
    refine ⟨by simp only [List.zip_cons_cons, List.map_cons]; rw [a, a'], by simp only [List.zip_cons_cons, List.map_cons]; rw [b, b'], fun x hx => ?_⟩
    simp only [List.zip_cons_cons, List.map_cons] at hx
    rcases List.mem_cons.1 hx with rfl | hx
    · exact c'
    · exact c x hx
theorem join_end : ∀ {L : List (List UInt8)} {sep : List UInt8}, L ≠ [] → (∀ x ∈ L, ∃ w c, x = w ++ [c] ∧ c ≠ 120) → ∃ w c, join L sep = w ++ [c] ∧ c ≠ 120 := by
  intro L sep
  induction L with
  | nil => intro h; exact absurd rfl h
  | cons x t ih =>
    intro _ h
    cases t with
    | nil => rw [join_one]; exact h x (by simp)
    | cons y t =>
      obtain ⟨w, c, e, hc⟩ := ih (by simp) (fun z hz => h z (List.mem_cons_of_mem _ hz))
      refine ⟨x ++ sep ++ w, c, ?_, hc⟩
      rw [join_cons] at e ⊢
      simp only [joinTail, List.map_cons, List.flatten_cons] at e ⊢
      rw [List.append_assoc, e]
      simp
theorem item_of {it : ItemD} (h : itemB it = true) : (∀ s ∈ it.names, nameB s = true) ∧ (∀ m ∈ it.marks, inB m 0 3 = true) ∧ it.marks.length = it.names.length ∧ it.names ≠ [] ∧ it.names.length ≤ 3 := by
  unfold itemB at h
  simp only [Bool.and_eq_true] at h
  obtain ⟨⟨⟨h1, h2⟩, h3⟩, h4⟩ := h
  refine ⟨List.all_eq_true.1 h1, List.all_eq_true.1 h4, by simpa using h3, fun e => ?_, ?_⟩
  · rw [e] at h2; unfold inB at h2; simp at h2
  · unfold inB at h2; simp at h2; omega
/-- Parsing a valid item's text. -/
theorem itP_Txt {it : ItemD} (h : itemB it = true) : itP (itTxt it) = it := by
  obtain ⟨h1, h2, h3, h4, _⟩ := item_of h
  obtain ⟨a, b, c⟩ := words_back h1 h2 h3
  have hW : itW it ≠ [] := by
    unfold itW
    intro e
    rw [e] at a
    exact h4 a.symm
  obtain ⟨w, d, e, hd⟩ := join_end (sep := [43]) hW (fun x hx => (c x hx).2)
  have hsplit : splitOn 43 (join (itW it) [43]) = itW it := splitOn_of_join hW (fun x hx hm => ((c x hx).1 43 hm).1 rfl)
  have hT : trimSuffix (itTxt it) [32, 120] = join (itW it) [43] ∧ hasSuffix (itTxt it) [32, 120] = it.late := by
    unfold itTxt lateL trimSuffix hasSuffix
    cases it.late with
    | true =>
      have : [32, 120].isSuffixOf (join (itW it) [43] ++ [32, 120]) = true := List.isSuffixOf_iff_suffix.2 ⟨_, rfl⟩
      simp only [if_true, this]
      simp
    | false =>
      have : [32, 120].isSuffixOf (join (itW it) [43]) = false := by
        rw [Bool.eq_false_iff]
        intro hx
        obtain ⟨t, ht⟩ := List.isSuffixOf_iff_suffix.1 hx
        rw [e] at ht
        have : (t ++ [32]) ++ [120] = w ++ [d] := by simpa using ht
        have := (List.append_inj' this rfl).2
        injection this with this
        exact hd this.symm
      simp [this]
  unfold itP
  rw [hT.1, hT.2, hsplit]
  show (⟨(itW it).map nameM, (itW it).map endM, it.late⟩ : ItemD) = it
  unfold itW
  rw [a, b]
/-- A valid item's text bears no line's end. -/
theorem itTxt_line {it : ItemD} (h : itemB it = true) : 10 ∉ itTxt it := by
  obtain ⟨h1, h2, h3, h4, _⟩ := item_of h
  obtain ⟨a, b, c⟩ := words_back h1 h2 h3
  have hj : ∀ (L : List (List UInt8)), (∀ x ∈ L, ∀ d ∈ x, d ≠ 43 ∧ d ≠ 10 ∧ d ≠ 32) → 10 ∉ join L [43] := by
    intro L
    induction L with
    | nil => intro _ hm; simp [join_nil] at hm
    | cons x t ih =>
      intro hL hm
      cases t with
      | nil =>
        rw [join_one] at hm
        exact (hL x (by simp) 10 hm).2.1 rfl
      | cons y t =>
        have e : join (x :: y :: t) [43] = x ++ [43] ++ join (y :: t) [43] := by rw [join_cons, join_cons]; simp [joinTail]
        rw [e] at hm
        rcases List.mem_append.1 hm with hm | hm
        · rcases List.mem_append.1 hm with hm | hm
          · exact (hL x (by simp) 10 hm).2.1 rfl
          · simp at hm
        · exact ih (fun z hz => hL z (List.mem_cons_of_mem _ hz)) hm
  unfold itTxt
  intro hm
  rcases List.mem_append.1 hm with hm | hm
  · exact hj _ (fun x hx => (c x hx).1) hm
  · unfold lateL at hm
    cases it.late <;> simp at hm

/-! ### lists -/
def itsTxt (its : List ItemD) : List UInt8 := (its.map fun it => itTxt it ++ [10]).flatten
/-- Does a text end with a line's end, or is it empty? -/
def lnOk (s : List UInt8) : Bool := match s.getLast? with | none => true | some b => b == 10
def lns (s : List UInt8) : List (List UInt8) := (splitOn 10 s).dropLast
def psOk (s : List UInt8) : Bool := lnOk s && (decide ((lns s).length ≤ 14) && (lns s).all fun l => itemB (itP l))
def psV (s : List UInt8) : List ItemD := if psOk s then (lns s).map itP else []
theorem lns_nil : lns [] = [] := rfl
theorem lns_snoc (p : List UInt8) : lns (p ++ [10]) = splitOn 10 p := by unfold lns; rw [splitOn_snoc, List.dropLast_concat]
theorem lnOk_snoc (p : List UInt8) (b : UInt8) : lnOk (p ++ [b]) = (b == 10) := by unfold lnOk; simp
theorem lns_txt {its : List ItemD} (h : ∀ it ∈ its, itemB it = true) : lns (itsTxt its) = its.map itTxt ∧ lnOk (itsTxt its) = true := by
  have hs : ∀ its : List ItemD, (∀ it ∈ its, itemB it = true) → splitOn 10 (itsTxt its) = its.map itTxt ++ [[]] := by
    intro its
    induction its with
    | nil => intro _; rfl
    | cons it t ih =>
      intro h
      have e : itsTxt (it :: t) = itTxt it ++ 10 :: itsTxt t := by unfold itsTxt; simp
      rw [e, splitOn_hit (itTxt_line (h it (by simp))), ih (fun x hx => h x (List.mem_cons_of_mem _ hx))]
      rfl
  refine ⟨by unfold lns; rw [hs its h, List.dropLast_concat], ?_⟩
  clear h hs
  rcases List.eq_nil_or_concat its with rfl | ⟨t, it, rfl⟩
  · rfl
  · have e : itsTxt (t ++ [it]) = (itsTxt t ++ itTxt it) ++ [10] := by unfold itsTxt; simp
    rw [List.concat_eq_append] at *
    rw [e, lnOk_snoc]
    rfl
/-- Parsing a valid list's text. -/
theorem psV_txt {its : List ItemD} (h : itemsB its = true) : psOk (itsTxt its) = true ∧ psV (itsTxt its) = its := by
  unfold itemsB at h
  simp only [Bool.and_eq_true] at h
  have ha := List.all_eq_true.1 h.1
  obtain ⟨e1, e2⟩ := lns_txt ha
  have hm : (its.map itTxt).map itP = its := by
    rw [List.map_map]
    conv => rhs; rw [← List.map_id its]
    exact List.map_congr_left fun it hit => itP_Txt (ha it hit)
  have hok : psOk (itsTxt its) = true := by
    unfold psOk
    rw [e1, e2]
    simp only [Bool.true_and, Bool.and_eq_true, List.length_map, List.all_map]
    refine ⟨by simpa using h.2, List.all_eq_true.2 fun it hit => ?_⟩
    show itemB (itP (itTxt it)) = true
    rw [itP_Txt (ha it hit)]
    exact ha it hit
  refine ⟨hok, ?_⟩
  unfold psV
  rw [hok, if_pos rfl, e1, hm]
end Go.Proofs.YtkekpolfdmmgeaaGreatDoor

/- Texts, plain: the text of a code, and parsing it. -/
namespace Go.Proofs.YtkekpolfdmmgeaaGreatDoor
set_option linter.unusedVariables false
set_option linter.unusedSimpArgs false
set_option linter.unnecessarySimpa false
open Go.Lib

def numL (n : Int) : List UInt8 := decDigits n.toNat
def lineL (w : List UInt8) (l : List Int) : List UInt8 := join (w :: l.map numL) [32]
def codeW : List UInt8 := [99, 111, 100, 101]
def limitsW : List UInt8 := [108, 105, 109, 105, 116, 115]
def elemL (e : ElemD) : List UInt8 := lineL e.name.data.toList [e.family, e.level, e.base]
def cdLines (c : CodeD) : List (List UInt8) := lineL codeW [c.repeats, c.bonus, c.keeps, c.fall] :: lineL limitsW c.limits :: c.elems.map elemL
def ended (L : List (List UInt8)) : List UInt8 := (L.map fun l => l ++ [10]).flatten
def cdTxt (c : CodeD) : List UInt8 := ended (cdLines c)
def IsPC (s : List UInt8) (c : CodeD) (ok : Bool) : Prop := (ok = true ∧ codeB c = true ∧ cdTxt c = s) ∨ (ok = false ∧ c = zeroC ∧ ∀ c', codeB c' = true → cdTxt c' ≠ s)
/-- An integer in decimal, as the program reads it. -/
def readInt (w : List UInt8) : Option Int := match readNum 12 (trimPrefix w [45]) with
  | none => none
  | some n => if hasPrefix w [45] then (if n = 0 then none else some (-(n : Int))) else some (n : Int)
def readInts : List (List UInt8) → Option (List Int)
  | [] => some []
  | w :: ws => match readInt w with
    | none => none
    | some n => match readInts ws with
      | none => none
      | some l => some (n :: l)
/-- A number as the reference reads it: -1 where there is none. -/
def rd6 (w : List UInt8) : Int := match readNum 6 w with
  | none => -1
  | some n => (n : Int)
theorem ended_join : ∀ {L : List (List UInt8)}, L ≠ [] → ended L = join L [10] ++ [10]
  | [], h => absurd rfl h
  | [x], _ => by simp [ended, join_one]
  | x :: y :: t, _ => by
    have ih := ended_join (L := y :: t) (by simp)
    have e : ended (x :: y :: t) = x ++ [10] ++ ended (y :: t) := by simp [ended]
    rw [e, ih, join_cons, join_cons]
    simp [joinTail]
theorem ended_split : ∀ {L : List (List UInt8)}, (∀ x ∈ L, 10 ∉ x) → splitOn 10 (ended L) = L ++ [[]]
  | [], _ => rfl
  | x :: t, h => by
    have e : ended (x :: t) = x ++ 10 :: ended t := by simp [ended]
    rw [e, splitOn_hit (h x (by simp)), ended_split (fun y hy => h y (List.mem_cons_of_mem _ hy))]
    rfl
theorem num_byte {n : Int} {b : UInt8} (h : isDg b = false) : b ∉ numL n := by
  intro hm
  have := List.all_eq_true.1 (decDigits_all n.toNat) b hm
  rw [h] at this
  cases this
theorem line_words {w : List UInt8} {l : List Int} (h : 32 ∉ w) : splitOn 32 (lineL w l) = w :: l.map numL := by
  unfold lineL
  refine splitOn_of_join (by simp) fun x hx => ?_
  rcases List.mem_cons.1 hx with rfl | hx
  · exact h
  · obtain ⟨n, _, rfl⟩ := List.mem_map.1 hx
    exact num_byte (by decide)
theorem join_notin {b : UInt8} : ∀ {L : List (List UInt8)} {sep : List UInt8}, (∀ x ∈ L, b ∉ x) → b ∉ sep → b ∉ join L sep
  | [], sep, _, _ => by rw [join_nil]; simp
  | x :: t, sep, h, hs => by
    rw [join_cons]
    intro hm
    rcases List.mem_append.1 hm with hm | hm
    · exact h x (by simp) hm
    · unfold joinTail at hm
      obtain ⟨y, hy, hby⟩ := List.mem_flatten.1 hm
      obtain ⟨z, hz, rfl⟩ := List.mem_map.1 hy
      rcases List.mem_append.1 hby with hb | hb
      · exact hs hb
      · exact h z (List.mem_cons_of_mem _ hz) hb
theorem line_end {w : List UInt8} {l : List Int} (h : 10 ∉ w) : 10 ∉ lineL w l := by
  unfold lineL
  refine join_notin (fun x hx => ?_) (by decide)
  rcases List.mem_cons.1 hx with rfl | hx
  · exact h
  · obtain ⟨n, _, rfl⟩ := List.mem_map.1 hx
    exact num_byte (by decide)
theorem dec_head (u : Nat) : ∃ c r, decDigits u = c :: r ∧ isDg c = true := by
  cases h : decDigits u with
  | nil => exact absurd h (decDigits_ne _)
  | cons c r =>
    refine ⟨c, r, rfl, ?_⟩
    have := decDigits_all u
    rw [h] at this
    simp at this
    exact this.1
theorem readInt_num {n : Int} (h0 : 0 ≤ n) (h : n < 1000000) : readInt (numL n) = some n := by
  unfold readInt numL
  obtain ⟨c, r, e, hc⟩ := dec_head n.toNat
  have hne : (45 == c) = false := by
    rw [beq_eq_false_iff_ne]
    rintro rfl
    revert hc
    decide
  have hp : hasPrefix (decDigits n.toNat) [45] = false := by rw [e]; simp [hasPrefix, List.isPrefixOf, hne]
  have hr : readNum 12 (decDigits n.toNat) = some n.toNat := readNum_dec (k := 11) (by omega)
  unfold trimPrefix
  rw [hp]
  simp only [Bool.false_eq_true, if_false, hr]
  congr 1
  omega
theorem readInts_num : ∀ {l : List Int}, (∀ n ∈ l, 0 ≤ n ∧ n < 1000000) → readInts (l.map numL) = some l
  | [], _ => rfl
  | n :: l, h => by
    have h1 := h n (by simp)
    rw [List.map_cons, readInts, readInt_num h1.1 h1.2, readInts_num (fun x hx => h x (List.mem_cons_of_mem _ hx))]
theorem num_of_readInt {w : List UInt8} {n : Int} (h : readInt w = some n) (h0 : 0 ≤ n) : w = numL n := by
  unfold readInt at h
  cases hr : readNum 12 (trimPrefix w [45]) with
  | none => rw [hr] at h; cases h
  | some u =>
    rw [hr] at h
    by_cases hp : hasPrefix w [45] = true
    · simp only [hp, if_true] at h
      by_cases hu : u = 0
      · rw [if_pos hu] at h; cases h
      · rw [if_neg hu] at h
        injection h with h
        omega
    · simp only [Bool.not_eq_true] at hp
      simp only [hp, Bool.false_eq_true, if_false] at h
      injection h with h
      unfold trimPrefix at hr
      rw [hp] at hr
      simp only [Bool.false_eq_true, if_false] at hr
      unfold numL
      rw [(dec_of_read hr).1, ← h]
      simp
theorem nums_of_readInts : ∀ {ws : List (List UInt8)} {l : List Int}, readInts ws = some l → (∀ n ∈ l, 0 ≤ n) → ws = l.map numL
  | [], l, h, _ => by
    have : [] = l := Option.some.inj h
    subst this
    rfl
  | w :: ws, l, h, h0 => by
    unfold readInts at h
    cases hr : readInt w with
    | none => rw [hr] at h; cases h
    | some n =>
      rw [hr] at h
      cases hs : readInts ws with
      | none => rw [hs] at h; cases h
      | some m =>
        rw [hs] at h
        have e : n :: m = l := Option.some.inj h
        subst e
        rw [num_of_readInt hr (h0 n (by simp)), nums_of_readInts hs (fun x hx => h0 x (List.mem_cons_of_mem _ hx))]
        rfl
theorem rd6_num {n : Int} (h0 : 0 ≤ n) (h : n < 1000000) : rd6 (numL n) = n := by
  unfold rd6 numL
  rw [readNum_dec (k := 5) (by omega)]
  show (n.toNat : Int) = n
  omega
theorem rd6s_num : ∀ {l : List Int}, (∀ n ∈ l, 0 ≤ n ∧ n < 1000000) → (l.map numL).map rd6 = l
  | [], _ => rfl
  | n :: l, h => by
    have h1 := h n (by simp)
    rw [List.map_cons, List.map_cons, rd6_num h1.1 h1.2, rd6s_num (fun x hx => h x (List.mem_cons_of_mem _ hx))]

/-! ### a good code's numbers -/
theorem inB_le {n lo hi : Int} (h : inB n lo hi = true) : lo ≤ n ∧ n ≤ hi := by unfold inB at h; simpa using h
theorem code_of {c : CodeD} (h : codeB c = true) : (1 ≤ c.elems.length ∧ c.elems.length ≤ 24) ∧ c.limits.length = 5 ∧ (∀ n ∈ c.limits, 0 ≤ n ∧ n ≤ 9) ∧ (1 ≤ c.repeats ∧ c.repeats ≤ 3) ∧ (0 ≤ c.bonus ∧ c.bonus ≤ 20) ∧ (50 ≤ c.keeps ∧ c.keeps ≤ 100) ∧ (0 ≤ c.fall ∧ c.fall ≤ 500) ∧
    ∀ e ∈ c.elems, nameB e.name = true ∧ (0 ≤ e.family ∧ e.family ≤ 4) ∧ (0 ≤ e.level ∧ e.level ≤ 4) ∧ (1 ≤ e.base ∧ e.base ≤ 2000) := by
  unfold codeB headB restB at h
  simp only [Bool.and_eq_true] at h
  obtain ⟨⟨⟨⟨h1, h2⟩, h3⟩, ⟨⟨h4, h5⟩, h6⟩, h7⟩, h8⟩ := h
  have a := inB_le h1
  refine ⟨by omega, by simpa using h2, fun n hn => inB_le (List.all_eq_true.1 h3 n hn), inB_le h4, inB_le h5, inB_le h6, inB_le h7, fun e he => ?_⟩
  obtain ⟨k, hk⟩ := List.getElem?_of_mem he
  have hlt := (List.getElem?_eq_some_iff.1 hk).1
  have hs := List.all_eq_true.1 h8 k (List.mem_range.2 hlt)
  unfold stepB at hs
  rw [hk] at hs
  simp only [Bool.and_eq_true] at hs
  have hb := hs.1
  unfold elemB at hb
  simp only [Bool.and_eq_true] at hb
  exact ⟨hb.1.1.1, inB_le hb.1.1.2, inB_le hb.1.2, inB_le hb.2⟩
theorem name_bytes {s : ByteArray} (h : nameB s = true) : 32 ∉ s.data.toList ∧ 10 ∉ s.data.toList := by
  obtain ⟨ha, _⟩ := name_of h
  exact ⟨fun hm => (nmB_cases (ha _ hm)).2.2.2.2.2.2 rfl, fun hm => (nmB_cases (ha _ hm)).2.2.2.2.2.1 rfl⟩
theorem cd_lines {c : CodeD} (h : codeB c = true) : splitOn 10 (cdTxt c) = cdLines c ++ [[]] := by
  obtain ⟨_, _, _, _, _, _, _, he⟩ := code_of h
  refine ended_split fun x hx => ?_
  unfold cdLines at hx
  rcases List.mem_cons.1 hx with rfl | hx
  · exact line_end (by decide)
  · rcases List.mem_cons.1 hx with rfl | hx
    · exact line_end (by decide)
    · obtain ⟨e, hem, rfl⟩ := List.mem_map.1 hx
      exact line_end (name_bytes (he e hem).1).2
theorem head_words (c : CodeD) : splitOn 32 (lineL codeW [c.repeats, c.bonus, c.keeps, c.fall]) = codeW :: [c.repeats, c.bonus, c.keeps, c.fall].map numL := line_words (by decide)
theorem limit_words (c : CodeD) : splitOn 32 (lineL limitsW c.limits) = limitsW :: c.limits.map numL := line_words (by decide)
theorem elem_words {e : ElemD} (h : nameB e.name = true) : splitOn 32 (elemL e) = e.name.data.toList :: [e.family, e.level, e.base].map numL := line_words (name_bytes h).1
theorem line_of_words {l : List UInt8} {w : List UInt8} {ns : List Int} (h : splitOn 32 l = w :: ns.map numL) : l = lineL w ns := by
  unfold lineL
  rw [← h, splitOn_join]
end Go.Proofs.YtkekpolfdmmgeaaGreatDoor

/- Codes: their text, the reference's side. -/
namespace Go.Proofs.YtkekpolfdmmgeaaGreatDoor
set_option linter.unusedVariables false
set_option linter.unusedSimpArgs false
set_option linter.unnecessarySimpa false
open Go.RowKit Go.Lib

theorem ints3 {w : World} {g : Nat} {t : TypeId} {p q r : Int} (h : Box w g t #[.int .i64 p, .int .i64 q, .int .i64 r]) : Ints w (.slice (some ⟨g, 0, none⟩) 3 3) [p, q, r] :=
  ⟨_, 3, rfl, Nat.le_refl _, by decide, (fun h => by cases h), fun _ => ⟨g, 0, rfl, h.lt, fun j u hu => by
    rw [Nat.zero_add, h.cell j, ← hu]
    exact List.getElem?_toArray (xs := [Value.int .i64 p, .int .i64 q, .int .i64 r]) (i := j)⟩⟩
theorem ints4 {w : World} {g : Nat} {t : TypeId} {p q r s : Int} (h : Box w g t #[.int .i64 p, .int .i64 q, .int .i64 r, .int .i64 s]) : Ints w (.slice (some ⟨g, 0, none⟩) 4 4) [p, q, r, s] :=
  ⟨_, 4, rfl, Nat.le_refl _, by decide, (fun h => by cases h), fun _ => ⟨g, 0, rfl, h.lt, fun j u hu => by
    rw [Nat.zero_add, h.cell j, ← hu]
    exact List.getElem?_toArray (xs := [Value.int .i64 p, .int .i64 q, .int .i64 r, .int .i64 s]) (i := j)⟩⟩
def Smalls (zs : List Int) : Prop := ∀ n ∈ zs, 0 ≤ n ∧ n ≤ 1000000
theorem lineL_zero (w : List UInt8) : lineL w [] = w := by unfold lineL; rw [List.map_nil, join_one]
theorem lineL_snoc (w : List UInt8) (l : List Int) (n : Int) : lineL w (l ++ [n]) = lineL w l ++ ([32] ++ numL n) := by
  unfold lineL
  rw [List.map_append, ← List.cons_append]
  show Lib.join ((w :: l.map numL) ++ [numL n]) [32] = _
  rw [join_snoc _ _ _ (by simp), List.append_assoc]
theorem numL_len {n : Int} (h : 0 ≤ n ∧ n ≤ 1000000) : (numL n).length ≤ 10 := by
  have := numT_len (n := n.toNat) (by omega)
  unfold numT at this
  rw [tx_size] at this
  exact this
theorem lineL_take {w : List UInt8} {zs : List Int} {k : Nat} {n : Int} (h : zs[k]? = some n) : lineL w (zs.take (k + 1)) = lineL w (zs.take k) ++ ([32] ++ numL n) := by rw [take_snoc h, lineL_snoc]
theorem lineL_len {w : List UInt8} {zs : List Int} (hz : Smalls zs) : ∀ k, k ≤ zs.length → (lineL w (zs.take k)).length ≤ w.length + 11 * k
  | 0, _ => by rw [List.take_zero, lineL_zero]; omega
  | k + 1, hk => by
    have h1 : zs[k]? = some zs[k] := List.getElem?_eq_getElem (by omega)
    have ih := lineL_len (w := w) hz k (by omega)
    have := numL_len (hz _ (List.mem_of_getElem? h1))
    rw [lineL_take h1, List.length_append, List.length_append]
    simp
    omega
set_option maxRecDepth 100000 in
set_option maxHeartbeats 8000000 in
theorem cdLine_any (s0 : ByteArray) (v : Value) (zs : List Int) (w : World) (h : Ints w v zs) (hz : Smalls zs) (hs : s0.size ≤ 1000) (hl : zs.length ≤ 1000) :
    Calls Tryz.prog 102 #[.string s0, v] w fun e w' => e = .returned (.string (tx (lineL s0.data.toList zs ++ [10]))) ∧ Kept w w' := by
  obtain ⟨A, c, rfl, hnc, hcm, hA⟩ := h.out
  unfold maxLen at hcm
  have HA := Lib.hid hA
  have HZ := Lib.hid hz
  clear hA h hz
  have HS : Hid (s0 = tx (lineL s0.data.toList (zs.take 0))) := Lib.hid (by rw [List.take_zero, lineL_zero, tx_of])
  have hsl : s0.data.toList.length ≤ 1000 := by rw [← size_eq]; exact hs
  go_enter Tryz.func102, Tryz.ntmps102
  go_wp2_with fail
  go_loopw [0, 9] (fun s i wr => ∃ k : Nat, k ≤ zs.length ∧ i = .int .i64 k ∧ s = .string (tx (lineL s0.data.toList (zs.take k))) ∧ Kept w wr) (fun _ i _ => zs.length - (RowKit.intOf i).toNat)
  case atStart => exact ⟨0, Nat.zero_le _, rfl, by rw [← HS.out], Kept.refl _⟩
  case round =>
    obtain ⟨k, hk, rfl, rfl, hkept⟩ := hrel
    have hll := lineL_len (w := s0.data.toList) HZ.out k hk
    by_cases hlt : k < zs.length
    · obtain ⟨b, o, z, rfl, hb, hzk, hc⟩ := ints_at (HA.out.kept hkept) hlt
      obtain ⟨hz0, hz1⟩ := HZ.out z (List.mem_of_getElem? hzk)
      obtain ⟨n, rfl⟩ : ∃ n : Nat, z = (n : Int) := ⟨z.toNat, by omega⟩
      have hnl := numT_len (n := n) (by omega)
      have C := Lib.hid (l1Num_any n (by omega) wr)
      have AW := Lib.hid (cat_run (x := ⟨#[32]⟩) (y := numT n) rfl (by have e : (⟨#[32]⟩ : ByteArray).size = 1 := rfl; omega))
      have AJ : Hid (Op.stringOp .add (tx (lineL s0.data.toList (zs.take k))) (⟨#[32]⟩ ++ numT n) = pure (.string (tx (lineL s0.data.toList (zs.take (k + 1)))))) := Lib.hid (cat_run (by
        rw [lineL_take hzk, ← tx_app, ← tx_app]
        rfl) (by rw [tx_size, ByteArray.size_append]; have e : (⟨#[32]⟩ : ByteArray).size = 1 := rfl; omega))
      obtain ⟨z2, hz2⟩ : ∃ z2, z2 = tx (lineL s0.data.toList (zs.take (k + 1))) := ⟨_, rfl⟩
      have HZ2 := Lib.hid hz2
      have aw := AW.out
      have aj := AJ.out
      rw [← hz2] at aj
      clear hz2 hzk AJ AW
      generalize (⟨#[32]⟩ : ByteArray) ++ numT n = z1 at aw aj
      generalize tx (lineL s0.data.toList (zs.take k)) = zk at aj
      go_wp2_with fail
      refine (C.out).mono ?_
      rintro e w1 ⟨rfl, k1⟩
      go_wp2_with fail
      go_roundw
      case rel => exact ⟨k + 1, by omega, by go_num, by rw [HZ2.out], hkept.trans k1⟩
      case measure => simp [RowKit.intOf]; omega
    · obtain rfl : k = zs.length := by omega
      rw [List.take_length] at hll
      rw [List.take_length]
      have aw : Op.stringOp .add (tx (lineL s0.data.toList zs)) ⟨#[10]⟩ = pure (.string (tx (lineL s0.data.toList zs ++ [10]))) := cat_run (by rw [← tx_app]; rfl) (by rw [tx_size]; have e : (⟨#[10]⟩ : ByteArray).size = 1 := rfl; omega)
      generalize tx (lineL s0.data.toList zs) = zk at aw
      go_wp2_with fail
      go_ret
      exact ⟨rfl, hkept⟩
theorem ended_snoc (L : List (List UInt8)) (y : List UInt8) : ended (L ++ [y]) = ended L ++ (y ++ [10]) := by simp [ended]
def headL (x : CodeD) : List UInt8 := lineL codeW [x.repeats, x.bonus, x.keeps, x.fall]
def limL (x : CodeD) : List UInt8 := lineL limitsW x.limits
def cdPre (x : CodeD) (k : Nat) : List UInt8 := ended (headL x :: limL x :: (x.elems.take k).map elemL)
theorem cdPre_zero (x : CodeD) : tx (headL x ++ [10]) ++ tx (limL x ++ [10]) = tx (cdPre x 0) := by rw [tx_app]; congr 1; simp [cdPre, ended]
theorem cdPre_succ {x : CodeD} {k : Nat} {y : ElemD} (h : x.elems[k]? = some y) : cdPre x (k + 1) = cdPre x k ++ (elemL y ++ [10]) := by
  unfold cdPre
  rw [take_snoc h, List.map_append, ← List.cons_append, ← List.cons_append]
  exact ended_snoc _ _
theorem cdPre_all (x : CodeD) : cdPre x x.elems.length = cdTxt x := by unfold cdPre cdTxt cdLines headL limL; rw [List.take_length]
theorem code_small {x : CodeD} (h : codeB x = true) : Smalls [x.repeats, x.bonus, x.keeps, x.fall] ∧ Smalls x.limits ∧ x.limits.length = 5 ∧ x.elems.length ≤ 24 ∧ ∀ y ∈ x.elems, y.name.size ≤ 5 ∧ Smalls [y.family, y.level, y.base] := by
  obtain ⟨h1, h2, h3, h4, h5, h6, h7, h8⟩ := code_of h
  refine ⟨fun n hn => ?_, fun n hn => by have := h3 n hn; omega, h2, h1.2, fun y hy => ?_⟩
  · simp at hn; omega
  · obtain ⟨a, b, c, d⟩ := h8 y hy
    refine ⟨?_, fun n hn => ?_⟩
    · unfold nameB at a
      simp only [Bool.and_eq_true] at a
      have := inB_true a.2
      omega
    · simp at hn; omega
theorem elemL_len {y : ElemD} (h : y.name.size ≤ 5) (hs : Smalls [y.family, y.level, y.base]) : (elemL y).length ≤ 38 := by
  have h1 := lineL_len (w := y.name.data.toList) hs 3 (by simp)
  rw [← size_eq] at h1
  unfold elemL
  have e : [y.family, y.level, y.base].take 3 = [y.family, y.level, y.base] := rfl
  rw [e] at h1
  omega
theorem cdPre_len {x : CodeD} (h : codeB x = true) : ∀ k, k ≤ x.elems.length → (cdPre x k).length ≤ 120 + 39 * k
  | 0, _ => by
    obtain ⟨h1, h2, h3, _⟩ := code_small h
    have a := lineL_len (w := codeW) h1 4 (by simp)
    have b := lineL_len (w := limitsW) h2 5 (by omega)
    have e : [x.repeats, x.bonus, x.keeps, x.fall].take 4 = [x.repeats, x.bonus, x.keeps, x.fall] := rfl
    rw [e] at a
    rw [List.take_of_length_le (by omega)] at b
    have e1 : codeW.length = 4 := rfl
    have e2 : limitsW.length = 6 := rfl
    unfold cdPre ended headL limL
    simp
    omega
  | k + 1, hk => by
    obtain ⟨_, _, _, _, h5⟩ := code_small h
    have ih := cdPre_len h k (by omega)
    have h1 : x.elems[k]? = some x.elems[k] := List.getElem?_eq_getElem (by omega)
    obtain ⟨a, b⟩ := h5 _ (List.mem_of_getElem? h1)
    have := elemL_len a b
    rw [cdPre_succ h1, List.length_append, List.length_append]
    simp
    omega
def cdT (x : CodeD) : ByteArray := tx (cdTxt x)
def ctV (x : CodeD) : ByteArray := if codeB x then cdT x else ⟨#[]⟩
theorem ctV_yes {x : CodeD} (h : codeB x = true) : ctV x = cdT x := by unfold ctV; rw [h]; rfl
theorem ctV_no {x : CodeD} (h : codeB x = false) : ctV x = ⟨#[]⟩ := by unfold ctV; rw [h]; rfl
set_option maxRecDepth 100000 in
set_option maxHeartbeats 16000000 in
theorem cdText_any (v : Value) (x : CodeD) (w : World) (h : CodeAt w v x) (hb : codeB x = true) :
    Calls Tryz.prog 52 #[v] w fun e w' => e = .returned (.string (cdT x)) ∧ Kept w w' := by
  obtain ⟨nv, mv, rfl, q1, q2⟩ := h
  obtain ⟨A, c, rfl, hnc, hcm, hA⟩ := q1.1.out
  obtain ⟨D, d, rfl, hnd, hdm, _⟩ := q2.out
  unfold maxLen at hcm hdm
  obtain ⟨s1, s2, s3, s4, s5⟩ := code_small hb
  have HA := Lib.hid hA
  have H2 := Lib.hid q2
  have S1 := Lib.hid s1
  have S2 := Lib.hid s2
  have S3 := Lib.hid s3
  have S5 := Lib.hid s5
  have HPL := Lib.hid (cdPre_len hb)
  clear q1 q2 hA hb s1 s2 s3 s5
  go_enter Tryz.func52, Tryz.ntmps52
  obtain ⟨w0, hw0⟩ : ∃ u : World, u = w.alloc (.cells #[.slice A x.elems.length c, .slice D x.limits.length d, .int .i64 x.repeats, .int .i64 x.bonus, .int .i64 x.keeps, .int .i64 x.fall] 26) := ⟨_, rfl⟩
  have B0 : Box w0 w.heap.size 26 #[.slice A x.elems.length c, .slice D x.limits.length d, .int .i64 x.repeats, .int .i64 x.bonus, .int .i64 x.keeps, .int .i64 x.fall] := hw0 ▸ Box.new w _ _ _ rfl
  have K0 : Kept w w0 := hw0 ▸ (Kept.refl w).alloc _
  go_upto_region 1 with (fail)
  rw [← hw0]
  have sz0 : w.heap.size < w0.heap.size := B0.lt
  clear hw0
  have B0d : Box w0.drew w.heap.size 26 #[.slice A x.elems.length c, .slice D x.limits.length d, .int .i64 x.repeats, .int .i64 x.bonus, .int .i64 x.keeps, .int .i64 x.fall] := B0
  have AJ : Hid (Op.stringOp .add (tx (headL x ++ [10])) (tx (limL x ++ [10])) = pure (.string (tx (cdPre x 0)))) := Lib.hid (cat_run (cdPre_zero x) (by
    have := HPL.out 0 (by omega)
    have e := congrArg ByteArray.size (cdPre_zero x)
    rw [ByteArray.size_append, tx_size (cdPre x 0)] at e
    omega))
  have aj := AJ.out
  have C1 : Hid (∀ (W : World) (g : Nat), Box W g 3 #[.int .i64 x.repeats, .int .i64 x.bonus, .int .i64 x.keeps, .int .i64 x.fall] → Calls Tryz.prog 102 #[.string ⟨#[99, 111, 100, 101]⟩, .slice (some ⟨g, 0, none⟩) 4 4] W fun e w' => e = .returned (.string (tx (headL x ++ [10]))) ∧ Kept W w') := Lib.hid (fun W g hB => cdLine_any ⟨#[99, 111, 100, 101]⟩ _ [x.repeats, x.bonus, x.keeps, x.fall] W (ints4 hB) S1.out (by decide) (by simp))
  have C2 : Hid (∀ (W : World), Kept w W → Calls Tryz.prog 102 #[.string ⟨#[108, 105, 109, 105, 116, 115]⟩, .slice D x.limits.length d] W fun e w' => e = .returned (.string (tx (limL x ++ [10]))) ∧ Kept W w') := Lib.hid (fun W hk => cdLine_any ⟨#[108, 105, 109, 105, 116, 115]⟩ _ _ W (H2.out.kept hk) S2.out (by decide) (by have := S3.out; omega))
  generalize tx (headL x ++ [10]) = zh at aj C1
  generalize tx (limL x ++ [10]) = zl at aj C2
  have B0a : Box (w0.alloc (.cells #[.int .i64 x.repeats, .int .i64 x.bonus, .int .i64 x.keeps, .int .i64 x.fall] 3)).drew w.heap.size 26 #[.slice A x.elems.length c, .slice D x.limits.length d, .int .i64 x.repeats, .int .i64 x.bonus, .int .i64 x.keeps, .int .i64 x.fall] := B0.alloc _
  have B1d : Box (w0.alloc (.cells #[.int .i64 x.repeats, .int .i64 x.bonus, .int .i64 x.keeps, .int .i64 x.fall] 3)).drew w0.heap.size 3 #[.int .i64 x.repeats, .int .i64 x.bonus, .int .i64 x.keeps, .int .i64 x.fall] := Box.new w0 _ _ _ rfl
  have K0a : Kept w (w0.alloc (.cells #[.int .i64 x.repeats, .int .i64 x.bonus, .int .i64 x.keeps, .int .i64 x.fall] 3)).drew := (K0.alloc _).drew
  go_region_held3 (fun w' => w'.cell? ⟨w.heap.size, 1, none⟩ = some (.slice D x.limits.length d) ∧ w'.cell? ⟨w.heap.size, 2, none⟩ = some (.int .i64 x.repeats) ∧ w'.cell? ⟨w.heap.size, 3, none⟩ = some (.int .i64 x.bonus) ∧ w'.cell? ⟨w.heap.size, 4, none⟩ = some (.int .i64 x.keeps) ∧ w'.cell? ⟨w.heap.size, 5, none⟩ = some (.int .i64 x.fall)) (first | (with_reducible exact B0d.six.1.2) | (with_reducible exact B0a.six.1.2) | (with_reducible exact (B0a.kept (by assumption)).six.1.2))
    (first | (go_at_call 102; (with_reducible refine (C1.out _ _ B1d).mono ?_); rintro e w1 ⟨rfl, k1⟩) | (go_at_call 102; (with_reducible refine (C2.out _ (K0a.trans k1)).mono ?_); rintro e w2 ⟨rfl, k2'⟩; have k2 := k1.trans k2'))
  rename_i hheld
  clear hheld
  have KW := Lib.hid (K0a.trans k2)
  have B2 := Lib.hid (B0a.kept k2)
  clear aj C1 C2 B0 B0d B0a B1d AJ
  obtain ⟨x1, y1⟩ := B2.out.six
  go_wp2_with fail
  clear x1 y1
  have HZ0 : Hid (tx (cdPre x 0) = tx (cdPre x 0)) := Lib.hid rfl
  go_loopw [3, 23] (fun s3 s23 wr => ∃ k : Nat, k ≤ x.elems.length ∧ s23 = .int .i64 k ∧ s3 = .string (tx (cdPre x k)) ∧ Kept w wr) (fun _ i _ => x.elems.length - (RowKit.intOf i).toNat)
  case atStart => exact ⟨0, Nat.zero_le _, rfl, rfl, KW.out⟩
  case round =>
    obtain ⟨k, hk, rfl, rfl, hkept⟩ := hrel
    by_cases hlt : k < x.elems.length
    · obtain ⟨b, o, y, rfl, hb', h2, q0, q1, q2, q3⟩ := elems_at (HA.out.kept hkept) hlt
      have S5y := S5.out y (List.mem_of_getElem? h2)
      have hel := elemL_len S5y.1 S5y.2
      have hpl := HPL.out k hk
      have CY : Hid (∀ (W : World) (g : Nat), Box W g 3 #[.int .i64 y.family, .int .i64 y.level, .int .i64 y.base] → Calls Tryz.prog 102 #[.string y.name, .slice (some ⟨g, 0, none⟩) 3 3] W fun e w' => e = .returned (.string (tx (elemL y ++ [10]))) ∧ Kept W w') := Lib.hid (fun W g hB => cdLine_any y.name _ [y.family, y.level, y.base] W (ints3 hB) S5y.2 (by have := S5y.1; omega) (by simp))
      have AJ : Hid (Op.stringOp .add (tx (cdPre x k)) (tx (elemL y ++ [10])) = pure (.string (tx (cdPre x (k + 1))))) := Lib.hid (cat_run (by rw [cdPre_succ h2, tx_app]) (by rw [tx_size, tx_size, List.length_append]; simp; omega))
      obtain ⟨zn, hzn⟩ : ∃ zn, zn = tx (cdPre x (k + 1)) := ⟨_, rfl⟩
      have aj := AJ.out
      rw [← hzn] at aj
      have HZN := Lib.hid hzn
      generalize tx (cdPre x k) = zk at aj
      generalize tx (elemL y ++ [10]) = zy at aj CY
      clear hzn AJ h2 S5y
      have BY := Box.new wr wr.heap.size 31 #[.string y.name, .int .i64 y.family, .int .i64 y.level, .int .i64 y.base] rfl
      obtain ⟨xy, yy⟩ := BY.four
      have B3 : Box ((wr.alloc (.cells #[.string y.name, .int .i64 y.family, .int .i64 y.level, .int .i64 y.base] 31)).alloc (.cells #[.int .i64 y.family, .int .i64 y.level, .int .i64 y.base] 3)) (wr.heap.size + 1) 3 #[.int .i64 y.family, .int .i64 y.level, .int .i64 y.base] := Box.new _ _ _ _ (by simp)
      have KY : Kept wr (wr.alloc (.cells #[.string y.name, .int .i64 y.family, .int .i64 y.level, .int .i64 y.base] 31)) := (Kept.refl wr).alloc _
      go_wp2_with fail
      with_reducible refine (CY.out _ _ B3).mono ?_
      rintro e w3 ⟨rfl, k3⟩
      go_wp2_with fail
      go_roundw
      case rel => exact ⟨k + 1, by omega, by go_num, by rw [HZN.out], hkept.trans ((KY.alloc _).trans k3)⟩
      case measure => simp [RowKit.intOf]; omega
    · obtain rfl : k = x.elems.length := by omega
      have HC := Lib.hid (cdPre_all x)
      go_wp2_with fail
      go_ret
      exact ⟨ret_str (by rw [HC.out]; rfl), hkept⟩
end Go.Proofs.YtkekpolfdmmgeaaGreatDoor
