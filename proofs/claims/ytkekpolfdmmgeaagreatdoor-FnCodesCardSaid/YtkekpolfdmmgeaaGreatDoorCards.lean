/-
  DERIVED. GIVEN WITH THE SEED: THE CARDS: each row of YtkekpolfdmmgeaaGreatDoorRows.lean that lists a variable, with what it lists TIED to the program's text (the seventh form; the later family's looks); each row that meets fmt, with fmt's text TOLD by the authors' own Lean function (tested against real Go, not proved from fmt's source: count such statements apart). THE CARD IS WHAT COUNTS. Prove the row's statement (the work); the ties are given (YtkekpolfdmmgeaaGreatDoorTie.lean); close each card by the builder's one call (the guide's Derived/Test/ToyasCard.lean, 'card_holds'). Laid BY PROGRAM, IN A SANDBOX (cutbox-door.mjs). By AI agents, Wed Nov 11 2026. No macro, syntax, notation, axiom, sorry.
-/
import Derived.Test.YtkekpolfdmmgeaaGreatDoorRows
import GoSem.ClaimSeven
namespace Go.Proofs.YtkekpolfdmmgeaaGreatDoor
namespace Rows

/-- THE TIED CARD OF 'laws.FnCodes'. -/
def fnCodesCard : Claim7 := { stood := { row := fnCodesRow, standIns := [], harness := (true, "cd7d69fe521b79d279244bb0254ed8db20d01d58f559c374dc07c7b3e29c699f"), looks := false }, kinds := [], alts := [], laidByText := true, laidKinds := [.data, .data, .data, .data, .pinned], laidTests := true, laidLooks := .later }
def FnCodesCardSaid : Prop := Claim7.holds Tryz.pinned (.plain (OpenSpec.ofChange fnCodesSpec)) fnCodesCard

/-- THE TIED CARD OF 'laws.FnNotation'. -/
def fnNotationCard : Claim7 := { stood := { row := fnNotationRow, standIns := [], harness := (true, "cd7d69fe521b79d279244bb0254ed8db20d01d58f559c374dc07c7b3e29c699f"), looks := false }, kinds := [], alts := [], laidByText := true, laidKinds := [.data, .data, .pinned], laidTests := true, laidLooks := .later }
def FnNotationCardSaid : Prop := Claim7.holds Tryz.pinned (.plain (OpenSpec.ofChange fnNotationSpec)) fnNotationCard

/-- THE SECOND FORM's CARD OF 'laws.FnCodes'. -/
def fnCodesUptoCard : Claim7 := { stood := { row := fnCodesUptoRow, standIns := [], harness := (true, "cd7d69fe521b79d279244bb0254ed8db20d01d58f559c374dc07c7b3e29c699f"), looks := false }, kinds := [], alts := [], laidByText := true, laidKinds := [.data, .data, .data, .data, .pinned], laidTests := true, laidLooks := .later }
def FnCodesUptoCardSaid : Prop := Claim7.holds Tryz.pinned (.plain (OpenSpec.upto fnCodesSpec)) fnCodesUptoCard

/-- THE SECOND FORM's CARD OF 'laws.FnNotation'. -/
def fnNotationUptoCard : Claim7 := { stood := { row := fnNotationUptoRow, standIns := [], harness := (true, "cd7d69fe521b79d279244bb0254ed8db20d01d58f559c374dc07c7b3e29c699f"), looks := false }, kinds := [], alts := [], laidByText := true, laidKinds := [.data, .data, .pinned], laidTests := true, laidLooks := .later }
def FnNotationUptoCardSaid : Prop := Claim7.holds Tryz.pinned (.plain (OpenSpec.upto fnNotationSpec)) fnNotationUptoCard
end Rows
end Go.Proofs.YtkekpolfdmmgeaaGreatDoor
