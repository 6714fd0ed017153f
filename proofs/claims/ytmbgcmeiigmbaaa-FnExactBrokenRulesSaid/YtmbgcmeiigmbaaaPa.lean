/- Programmes: the plain functions (rules). -/
import Derived.Test.YtmbgcmeiigmbaaaWa
namespace Go.Proofs.Ytmbgcmeiigmbaaa
open Go.RowKit

def combB (it : ItemD) : Bool := decide (1 < it.names.length)
def jumpS (x : CodeD) (it : ItemD) (s : ByteArray) : Bool := !combB it || famN x s == 0
def jumpI (x : CodeD) (it : ItemD) : Bool := it.names.all (jumpS x it)
def jumpB (x : CodeD) (its : List ItemD) : Bool := its.all (jumpI x)
def cleanI (it : ItemD) : Bool := it.marks.all (inB · 0 0)
def cleanB (its : List ItemD) : Bool := its.all cleanI
def twoN (its : List ItemD) : Nat := (its.filter combB).length
def threeN (its : List ItemD) : Nat := (its.filter fun it => decide (2 < it.names.length)).length
def fewB (its : List ItemD) : Bool := decide (twoN its ≤ 3) && decide (threeN its ≤ 1)
def fitB (x : CodeD) (its : List ItemD) : Bool := ((countsV x its).zip x.limits).all fun p => decide (p.1 ≤ p.2)
def repS (x : CodeD) (its : List ItemD) (s : ByteArray) : Bool := decide ((times its s : Int) ≤ x.repeats) && (times its s == 1 || decide (0 < timesC its s))
def repI (x : CodeD) (its : List ItemD) (it : ItemD) : Bool := it.names.all (repS x its)
def repB (x : CodeD) (its : List ItemD) : Bool := its.all (repI x its)
def lateB (its : List ItemD) (k : Nat) : Bool := match its[k]? with | some it => it.late == decide (its.length ≤ 2 * k) | none => true
def halfB (its : List ItemD) : Bool := (List.range its.length).all (lateB its)
def ruleB (x : CodeD) (its : List ItemD) (r : Int) : Bool :=
  if r = 1 then decide (0 < its.length) else if r = 2 then knB x its else if r = 3 then cleanB its else if r = 4 then jumpB x its
  else if r = 5 then fewB its else if r = 6 then fitB x its else if r = 7 then repB x its else halfB its
def brokenV (x : CodeD) (its : List ItemD) (k : Nat) : List Int := ((List.range k).map fun (i : Nat) => ((i : Int) + 1)).filter fun r => !ruleB x its r
theorem brokenV_snoc (x : CodeD) (its : List ItemD) (k : Nat) : brokenV x its (k + 1) = brokenV x its k ++ (if ruleB x its ((k : Int) + 1) = true then [] else [(k : Int) + 1]) := by
  unfold brokenV
  rw [List.range_succ, List.map_append, List.filter_append]
  by_cases h : ruleB x its ((k : Int) + 1) = true <;> simp [h]
theorem brokenV_len (x : CodeD) (its : List ItemD) (k : Nat) : (brokenV x its k).length ≤ k := by
  unfold brokenV
  have := List.length_filter_le (fun r => !ruleB x its r) ((List.range k).map fun (i : Nat) => ((i : Int) + 1))
  simpa using this
def progB (x : CodeD) (its : List ItemD) : Bool := codeB x && itemsB its && (brokenV x its 8).isEmpty
theorem filter_snoc {α : Type} {l : List α} {k : Nat} {z : α} (p : α → Bool) (h : l[k]? = some z) : ((l.take (k + 1)).filter p).length = ((l.take k).filter p).length + if p z = true then 1 else 0 := by
  rw [take_snoc h, List.filter_append, List.length_append]
  by_cases e : p z = true <;> simp [e]
theorem filter_le14 {its : List ItemD} (hb : itemsB its = true) (p : ItemD → Bool) (k : Nat) : ((its.take k).filter p).length ≤ 14 := by
  have h1 := List.length_filter_le p (its.take k)
  have h2 := List.length_take_le k its
  have h3 := (itemsB_true hb).1
  rw [List.length_take] at h1
  omega
theorem times_pos {its : List ItemD} {k : Nat} {it : ItemD} {j : Nat} {s : ByteArray} (h : its[k]? = some it) (hs : it.names[j]? = some s) : 1 ≤ times its s := by
  have h1 : cnt s it.names ≤ times its s := mem_le_sum _ _ (List.mem_map_of_mem (f := fun it => cnt s it.names) (List.mem_of_getElem? h))
  have h2 : 1 ≤ cnt s it.names := by
    unfold cnt
    exact List.length_pos_iff.2 (fun e => by
      have : s ∈ it.names.filter fun x => decide (x = s) := List.mem_filter.2 ⟨List.mem_of_getElem? hs, by simp⟩
      rw [e] at this
      cases this)
  omega
theorem repS_impl {x : CodeD} {its : List ItemD} {s : ByteArray} (h : 1 ≤ times its s) : repS x its s = !(decide (x.repeats < (times its s : Int)) || decide (1 < times its s) && (timesC its s == 0)) := by
  unfold repS
  rw [Bool.eq_iff_iff]
  simp only [Bool.and_eq_true, Bool.or_eq_true, Bool.not_eq_true', Bool.or_eq_false_iff, Bool.and_eq_false_iff, decide_eq_true_eq, decide_eq_false_iff_not, beq_iff_eq, beq_eq_false_iff_ne, ne_eq]
  omega
end Go.Proofs.Ytmbgcmeiigmbaaa
