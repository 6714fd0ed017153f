/- How often numbers occur, in plain lists. -/
import Derived.Test.YtpkmngkepmoikaaM
namespace Go.Proofs.Ytpkmngkepmoikaa
set_option linter.unusedVariables false
set_option linter.unusedSimpArgs false
open Go.RowKit

def cn (l : List Int) (d : Int) : Int := ((l.filter fun x => decide (x = d)).length : Int)
def cns (m : Nat) (l : List Int) : List Int := (List.range m).map fun (d : Nat) => cn l (d : Int)
theorem cn_snoc (l : List Int) (m d : Int) : cn (l ++ [m]) d = cn l d + if m = d then 1 else 0 := by
  unfold cn
  rw [List.filter_append]
  by_cases h : m = d <;> simp [List.filter_cons, h]
theorem cn_bd (l : List Int) (d : Int) : 0 ≤ cn l d ∧ cn l d ≤ l.length := by
  unfold cn
  have := List.length_filter_le (fun x => decide (x = d)) l
  omega
theorem cns_length (m : Nat) (l : List Int) : (cns m l).length = m := by simp [cns]
theorem cns_get {m : Nat} (l : List Int) {z : Int} (h0 : 0 ≤ z) (h1 : z < m) : (cns m l)[z.toNat]? = some (cn l z) := by
  unfold cns
  rw [List.getElem?_map, List.getElem?_range (by omega)]
  simp only [Option.map_some]
  rw [Int.toNat_of_nonneg h0]
theorem cns_snoc {m : Nat} (l : List Int) {z : Int} (h0 : 0 ≤ z) (h1 : z < m) : cns m (l ++ [z]) = (cns m l).set z.toNat (cn l z + 1) := by
  apply List.ext_getElem?
  intro i
  by_cases hi : i < m
  · rw [List.getElem?_set]
    unfold cns
    simp only [List.getElem?_map, List.getElem?_range hi, Option.map_some, cn_snoc, List.length_map, List.length_range]
    by_cases e : z.toNat = i
    · have : z = (i : Int) := by omega
      rw [if_pos e, if_pos this, if_pos (by omega), this]
    · rw [if_neg e, if_neg (by omega)]
      simp
  · rw [List.getElem?_eq_none (by rw [cns_length]; omega), List.getElem?_eq_none (by rw [List.length_set, cns_length]; omega)]
theorem cns_nil5 : cns 5 [] = [0, 0, 0, 0, 0] := by decide
end Go.Proofs.Ytpkmngkepmoikaa
