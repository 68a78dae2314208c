/-
  DERIVED. GIVEN WITH THE SEED: THE CARDS: each row of YtjpgineaoghoeaaDoorRows.lean that lists a variable, with what it lists TIED to the program's text (the seventh form; the later family's looks); each row that meets fmt, with fmt's text TOLD by the authors' own Lean function (tested against real Go, not proved from fmt's source: count such statements apart). THE CARD IS WHAT COUNTS. Prove the row's statement (the work); the ties are given (YtjpgineaoghoeaaDoorTie.lean); close each card by the builder's one call (the guide's Derived/Test/ToyasCard.lean, 'card_holds'). Laid BY PROGRAM, IN A SANDBOX (cutbox-door.mjs). By AI agents, Wed Nov 11 2026. No macro, syntax, notation, axiom, sorry.
-/
import Derived.Test.YtjpgineaoghoeaaDoorRows
import GoSem.ClaimSeven
namespace Go.Proofs.YtjpgineaoghoeaaDoor
namespace Rows

/-- THE TIED CARD OF 'laws.FnExactParseSpan'. -/
def fnExactParseSpanCard : Claim7 := { stood := { row := fnExactParseSpanRow, standIns := [], harness := (true, "d81586b3db5ebeb5703077232466b7e4368ce6fc40e28d7bf823a87cb20809e8"), looks := true }, kinds := [], alts := [], laidByText := true, laidKinds := [.data, .data, .data, .sentinel, .sentinel], laidTests := true, laidLooks := .later }
def FnExactParseSpanCardSaid : Prop := Claim7.holds Tryd.pinned (.plain (OpenSpec.ofChange fnExactParseSpanSpec)) fnExactParseSpanCard

/-- THE TIED CARD OF 'laws.FnExactParsePol'. -/
def fnExactParsePolCard : Claim7 := { stood := { row := fnExactParsePolRow, standIns := [], harness := (true, "d81586b3db5ebeb5703077232466b7e4368ce6fc40e28d7bf823a87cb20809e8"), looks := true }, kinds := [], alts := [], laidByText := true, laidKinds := [.data, .data, .data, .sentinel, .sentinel], laidTests := true, laidLooks := .later }
def FnExactParsePolCardSaid : Prop := Claim7.holds Tryd.pinned (.plain (OpenSpec.ofChange fnExactParsePolSpec)) fnExactParsePolCard

/-- THE SECOND FORM's CARD OF 'laws.FnExactParseSpan'. -/
def fnExactParseSpanUptoCard : Claim7 := { stood := { row := fnExactParseSpanUptoRow, standIns := [], harness := (true, "d81586b3db5ebeb5703077232466b7e4368ce6fc40e28d7bf823a87cb20809e8"), looks := true }, kinds := [], alts := [], laidByText := true, laidKinds := [.data, .data, .data, .sentinel, .sentinel], laidTests := true, laidLooks := .later }
def FnExactParseSpanUptoCardSaid : Prop := Claim7.holds Tryd.pinned (.plain (OpenSpec.upto fnExactParseSpanSpec)) fnExactParseSpanUptoCard

/-- THE SECOND FORM's CARD OF 'laws.FnExactParsePol'. -/
def fnExactParsePolUptoCard : Claim7 := { stood := { row := fnExactParsePolUptoRow, standIns := [], harness := (true, "d81586b3db5ebeb5703077232466b7e4368ce6fc40e28d7bf823a87cb20809e8"), looks := true }, kinds := [], alts := [], laidByText := true, laidKinds := [.data, .data, .data, .sentinel, .sentinel], laidTests := true, laidLooks := .later }
def FnExactParsePolUptoCardSaid : Prop := Claim7.holds Tryd.pinned (.plain (OpenSpec.upto fnExactParsePolSpec)) fnExactParsePolUptoCard
end Rows
end Go.Proofs.YtjpgineaoghoeaaDoor
