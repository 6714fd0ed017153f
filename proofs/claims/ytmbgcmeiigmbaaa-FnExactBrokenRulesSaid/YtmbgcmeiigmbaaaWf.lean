/- Items over a code: bases of items, laws. -/
import Derived.Test.YtmbgcmeiigmbaaaWe
namespace Go.Proofs.Ytmbgcmeiigmbaaa
open Go.RowKit

theorem ret_vb2 {v : Value} {b b' : Bool} (h : b = b') : Ending.returned (.tuple #[v, .bool b]) = .returned (.tuple #[v, .bool b']) := by rw [h]
theorem onL_len {b : Bool} {l : List Int} {n : Nat} (h : b = true → l.length ≤ n) : (onL b l).length ≤ n := by cases b with | true => exact h rfl | false => exact Nat.zero_le _
end Go.Proofs.Ytmbgcmeiigmbaaa
