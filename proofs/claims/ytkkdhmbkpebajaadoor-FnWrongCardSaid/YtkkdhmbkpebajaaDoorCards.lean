/-
  DERIVED. GIVEN WITH THE SEED: THE CARDS: each row of YtkkdhmbkpebajaaDoorRows.lean that lists a variable, with what it lists TIED to the program's text (the seventh form; the later family's looks); each row that meets fmt, with fmt's text TOLD by the authors' own Lean function (tested against real Go, not proved from fmt's source: count such statements apart). THE CARD IS WHAT COUNTS. Prove the row's statement (the work); the ties are given (YtkkdhmbkpebajaaDoorTie.lean); close each card by the builder's one call (the guide's Derived/Test/ToyasCard.lean, 'card_holds'). Laid BY PROGRAM, IN A SANDBOX (cutbox-door.mjs). By AI agents, Wed Nov 11 2026. No macro, syntax, notation, axiom, sorry.
-/
import Derived.Test.YtkkdhmbkpebajaaDoorRows
import GoSem.ClaimSeven
namespace Go.Proofs.YtkkdhmbkpebajaaDoor
namespace Rows

/-- THE TIED CARD OF 'laws.FnWrong'. -/
def fnWrongCard : Claim7 := { stood := { row := fnWrongRow, standIns := [], harness := (true, "d297a8dbaa6592e56f2a6ffd5d6d356aee2f49110368558b021a621d4d222a1b"), looks := false }, kinds := [], alts := [], laidByText := true, laidKinds := [.data, .data, .pinned], laidTests := true, laidLooks := .later }
def FnWrongCardSaid : Prop := Claim7.holds Tryd.pinned (.plain (OpenSpec.ofChange fnWrongSpec)) fnWrongCard

/-- THE TIED CARD OF 'laws.FnExactParseCode'. -/
def fnExactParseCodeCard : Claim7 := { stood := { row := fnExactParseCodeRow, standIns := [], harness := (true, "d297a8dbaa6592e56f2a6ffd5d6d356aee2f49110368558b021a621d4d222a1b"), looks := false }, kinds := [], alts := [], laidByText := true, laidKinds := [.data, .pinned], laidTests := true, laidLooks := .later }
def FnExactParseCodeCardSaid : Prop := Claim7.holds Tryd.pinned (.plain (OpenSpec.ofChange fnExactParseCodeSpec)) fnExactParseCodeCard

/-- THE SECOND FORM's CARD OF 'laws.FnWrong'. -/
def fnWrongUptoCard : Claim7 := { stood := { row := fnWrongUptoRow, standIns := [], harness := (true, "d297a8dbaa6592e56f2a6ffd5d6d356aee2f49110368558b021a621d4d222a1b"), looks := false }, kinds := [], alts := [], laidByText := true, laidKinds := [.data, .data, .pinned], laidTests := true, laidLooks := .later }
def FnWrongUptoCardSaid : Prop := Claim7.holds Tryd.pinned (.plain (OpenSpec.upto fnWrongSpec)) fnWrongUptoCard

/-- THE SECOND FORM's CARD OF 'laws.FnExactParseCode'. -/
def fnExactParseCodeUptoCard : Claim7 := { stood := { row := fnExactParseCodeUptoRow, standIns := [], harness := (true, "d297a8dbaa6592e56f2a6ffd5d6d356aee2f49110368558b021a621d4d222a1b"), looks := false }, kinds := [], alts := [], laidByText := true, laidKinds := [.data, .pinned], laidTests := true, laidLooks := .later }
def FnExactParseCodeUptoCardSaid : Prop := Claim7.holds Tryd.pinned (.plain (OpenSpec.upto fnExactParseCodeSpec)) fnExactParseCodeUptoCard
end Rows
end Go.Proofs.YtkkdhmbkpebajaaDoor
