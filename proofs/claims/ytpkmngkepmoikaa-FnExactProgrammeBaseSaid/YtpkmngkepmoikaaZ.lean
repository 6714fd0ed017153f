/- Regions that draw their order, whose operations read and whose callees may make new memory: one walk, in the class of the worlds that keep what was there. -/
import Derived.Test.YtpkmngkepmoikaaO
import Derived.Deep.QuietTactic
import Derived.BigQuiet
namespace Go.Proofs.Ytpkmngkepmoikaa
set_option linter.unusedVariables false
set_option linter.unusedSimpArgs false
open Go.RowKit

structure After (W : World) where
  w : World
  kept : Kept W w
instance (W : World) : Nonempty (After W) := ⟨⟨W, Kept.refl W⟩⟩
theorem region_after {P : Program} {id : Nat} {Q : Exit → Act → World → Prop} {a : Act} {w : World} {l : List Oper} (hm : P.follows .mixedOrders = true) (hB : Region.lexB .any l.toArray = true)
    (h : wpQuiet P l.toArray (fun w' => ∃ s : After w.drew, w' = s.w) (fun a' => ∀ w', (∃ s : After w.drew, w' = s.w) → Q .normal a' w') l a) : (Code.region id l.toArray true).wp P Q a w :=
  wp_region_quiet (C := fun w' => ∃ s : After w.drew, w' = s.w) hm hB ⟨⟨w.drew, Kept.refl _⟩, rfl⟩ h
theorem after_of {P : Program} {f : FuncId} {args : Array Value} {W : World} {s : After W} {v : Value} (h : Calls P f args s.w fun e w' => e = .returned v ∧ Kept s.w w') :
    Calls P f args s.w fun e w'' => e = .returned v ∧ ∃ s' : After W, w'' = s'.w :=
  h.mono fun _ w' ⟨he, hk⟩ => ⟨he, ⟨w', s.kept.trans hk⟩, rfl⟩
theorem after_same {P : Program} {f : FuncId} {args : Array Value} {W : World} {s : After W} {v : Value} (h : Calls P f args s.w fun e w' => e = .returned v ∧ s.w = w') :
    Calls P f args s.w fun e w'' => e = .returned v ∧ ∃ s' : After W, w'' = s'.w :=
  h.mono fun _ _ ⟨he, hk⟩ => ⟨he, s, hk.symm⟩
theorem After.cell {W : World} {p : Addr} {v : Value} (h : W.cell? p = some v) (hp : p.block < W.heap.size) (s : After W) : s.w.cell? p = some v := (s.kept.cell hp).trans h
end Go.Proofs.Ytpkmngkepmoikaa
