/-
  DERIVED. GIVEN WITH THE SEED: THE CARDS: each row of YtfonfekejbmamaaDoorRows.lean that lists a variable, with what it lists TIED to the program's text (the seventh form; the later family's looks); each row that meets fmt, with fmt's text TOLD by the authors' own Lean function (tested against real Go, not proved from fmt's source: count such statements apart). THE CARD IS WHAT COUNTS. Prove the row's statement (the work); the ties are given (YtfonfekejbmamaaDoorTie.lean); close each card by the builder's one call (the guide's Derived/Test/ToyasCard.lean, 'card_holds'). Laid BY PROGRAM, IN A SANDBOX (cutbox-door.mjs). By AI agents, Wed Nov 11 2026. No macro, syntax, notation, axiom, sorry.
-/
import Derived.Test.YtfonfekejbmamaaDoorRows
import GoSem.ClaimSeven
namespace Go.Proofs.YtfonfekejbmamaaDoor
namespace Rows

/-- THE TIED CARD OF 'laws.FnExactParseItem'. -/
def fnExactParseItemCard : Claim7 := { stood := { row := fnExactParseItemRow, standIns := [], harness := (true, "27e39f417cad92202672ef5129a83f0c03320da77b1b16276f48daea3a8ce3c4"), looks := false }, kinds := [], alts := [], laidByText := true, laidKinds := [.data, .data, .pinned], laidTests := true, laidLooks := .later }
def FnExactParseItemCardSaid : Prop := Claim7.holds Tryd.pinned (.plain (OpenSpec.ofChange fnExactParseItemSpec)) fnExactParseItemCard

/-- THE TIED CARD OF 'laws.FnExactFirstWrong'. -/
def fnExactFirstWrongCard : Claim7 := { stood := { row := fnExactFirstWrongRow, standIns := [], harness := (true, "27e39f417cad92202672ef5129a83f0c03320da77b1b16276f48daea3a8ce3c4"), looks := false }, kinds := [], alts := [], laidByText := true, laidKinds := [.data, .data, .pinned], laidTests := true, laidLooks := .later }
def FnExactFirstWrongCardSaid : Prop := Claim7.holds Tryd.pinned (.plain (OpenSpec.ofChange fnExactFirstWrongSpec)) fnExactFirstWrongCard

/-- THE TIED CARD OF 'laws.FnExactCodeText'. -/
def fnExactCodeTextCard : Claim7 := { stood := { row := fnExactCodeTextRow, standIns := [], harness := (true, "27e39f417cad92202672ef5129a83f0c03320da77b1b16276f48daea3a8ce3c4"), looks := false }, kinds := [], alts := [], laidByText := true, laidKinds := [.data, .data, .data], laidTests := true, laidLooks := .later }
def FnExactCodeTextCardSaid : Prop := Claim7.holds Tryd.pinned (.plain (OpenSpec.ofChange fnExactCodeTextSpec)) fnExactCodeTextCard

/-- THE TIED CARD OF 'laws.FnExactParseItems'. -/
def fnExactParseItemsCard : Claim7 := { stood := { row := fnExactParseItemsRow, standIns := [], harness := (true, "27e39f417cad92202672ef5129a83f0c03320da77b1b16276f48daea3a8ce3c4"), looks := false }, kinds := [], alts := [], laidByText := true, laidKinds := [.data, .data, .pinned], laidTests := true, laidLooks := .later }
def FnExactParseItemsCardSaid : Prop := Claim7.holds Tryd.pinned (.plain (OpenSpec.ofChange fnExactParseItemsSpec)) fnExactParseItemsCard

/-- THE TIED CARD OF 'laws.FnExactParseCode'. -/
def fnExactParseCodeCard : Claim7 := { stood := { row := fnExactParseCodeRow, standIns := [], harness := (true, "27e39f417cad92202672ef5129a83f0c03320da77b1b16276f48daea3a8ce3c4"), looks := false }, kinds := [], alts := [], laidByText := true, laidKinds := [.data, .pinned], laidTests := true, laidLooks := .later }
def FnExactParseCodeCardSaid : Prop := Claim7.holds Tryd.pinned (.plain (OpenSpec.ofChange fnExactParseCodeSpec)) fnExactParseCodeCard

/-- THE SECOND FORM's CARD OF 'laws.FnExactParseItem'. -/
def fnExactParseItemUptoCard : Claim7 := { stood := { row := fnExactParseItemUptoRow, standIns := [], harness := (true, "27e39f417cad92202672ef5129a83f0c03320da77b1b16276f48daea3a8ce3c4"), looks := false }, kinds := [], alts := [], laidByText := true, laidKinds := [.data, .data, .pinned], laidTests := true, laidLooks := .later }
def FnExactParseItemUptoCardSaid : Prop := Claim7.holds Tryd.pinned (.plain (OpenSpec.upto fnExactParseItemSpec)) fnExactParseItemUptoCard

/-- THE SECOND FORM's CARD OF 'laws.FnExactFirstWrong'. -/
def fnExactFirstWrongUptoCard : Claim7 := { stood := { row := fnExactFirstWrongUptoRow, standIns := [], harness := (true, "27e39f417cad92202672ef5129a83f0c03320da77b1b16276f48daea3a8ce3c4"), looks := false }, kinds := [], alts := [], laidByText := true, laidKinds := [.data, .data, .pinned], laidTests := true, laidLooks := .later }
def FnExactFirstWrongUptoCardSaid : Prop := Claim7.holds Tryd.pinned (.plain (OpenSpec.upto fnExactFirstWrongSpec)) fnExactFirstWrongUptoCard

/-- THE SECOND FORM's CARD OF 'laws.FnExactCodeText'. -/
def fnExactCodeTextUptoCard : Claim7 := { stood := { row := fnExactCodeTextUptoRow, standIns := [], harness := (true, "27e39f417cad92202672ef5129a83f0c03320da77b1b16276f48daea3a8ce3c4"), looks := false }, kinds := [], alts := [], laidByText := true, laidKinds := [.data, .data, .data], laidTests := true, laidLooks := .later }
def FnExactCodeTextUptoCardSaid : Prop := Claim7.holds Tryd.pinned (.plain (OpenSpec.upto fnExactCodeTextSpec)) fnExactCodeTextUptoCard

/-- THE SECOND FORM's CARD OF 'laws.FnExactParseItems'. -/
def fnExactParseItemsUptoCard : Claim7 := { stood := { row := fnExactParseItemsUptoRow, standIns := [], harness := (true, "27e39f417cad92202672ef5129a83f0c03320da77b1b16276f48daea3a8ce3c4"), looks := false }, kinds := [], alts := [], laidByText := true, laidKinds := [.data, .data, .pinned], laidTests := true, laidLooks := .later }
def FnExactParseItemsUptoCardSaid : Prop := Claim7.holds Tryd.pinned (.plain (OpenSpec.upto fnExactParseItemsSpec)) fnExactParseItemsUptoCard

/-- THE SECOND FORM's CARD OF 'laws.FnExactParseCode'. -/
def fnExactParseCodeUptoCard : Claim7 := { stood := { row := fnExactParseCodeUptoRow, standIns := [], harness := (true, "27e39f417cad92202672ef5129a83f0c03320da77b1b16276f48daea3a8ce3c4"), looks := false }, kinds := [], alts := [], laidByText := true, laidKinds := [.data, .pinned], laidTests := true, laidLooks := .later }
def FnExactParseCodeUptoCardSaid : Prop := Claim7.holds Tryd.pinned (.plain (OpenSpec.upto fnExactParseCodeSpec)) fnExactParseCodeUptoCard
end Rows
end Go.Proofs.YtfonfekejbmamaaDoor
