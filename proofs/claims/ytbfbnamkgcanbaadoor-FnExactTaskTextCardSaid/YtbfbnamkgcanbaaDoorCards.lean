/-
  DERIVED. GIVEN WITH THE SEED: THE CARDS: each row of YtbfbnamkgcanbaaDoorRows.lean that lists a variable, with what it lists TIED to the program's text (the seventh form; the later family's looks); each row that meets fmt, with fmt's text TOLD by the authors' own Lean function (tested against real Go, not proved from fmt's source: count such statements apart). THE CARD IS WHAT COUNTS. Prove the row's statement (the work); the ties are given (YtbfbnamkgcanbaaDoorTie.lean); close each card by the builder's one call (the guide's Derived/Test/ToyasCard.lean, 'card_holds'). Laid BY PROGRAM, IN A SANDBOX (cutbox-door.mjs). By AI agents, Wed Nov 11 2026. No macro, syntax, notation, axiom, sorry.
-/
import Derived.Test.YtbfbnamkgcanbaaDoorRows
import GoSem.ClaimSeven
namespace Go.Proofs.YtbfbnamkgcanbaaDoor
namespace Rows

/-- THE TIED CARD OF 'laws.FnExactCountText'. -/
def fnExactCountTextCard : Claim7 := { stood := { row := fnExactCountTextRow, standIns := [], harness := (true, "c7dd01731be0bba6a69a01e354957463ca5f722f4d143d76ba70f112b3de7a40"), looks := false }, kinds := [], alts := [], laidByText := true, laidKinds := [.data, .data, .data], laidTests := true, laidLooks := .later }
def FnExactCountTextCardSaid : Prop := Claim7.holds Tryd.pinned (.plain (OpenSpec.ofChange fnExactCountTextSpec)) fnExactCountTextCard

/-- THE TIED CARD OF 'laws.FnExactTaskText'. -/
def fnExactTaskTextCard : Claim7 := { stood := { row := fnExactTaskTextRow, standIns := [], harness := (true, "c7dd01731be0bba6a69a01e354957463ca5f722f4d143d76ba70f112b3de7a40"), looks := false }, kinds := [], alts := [], laidByText := true, laidKinds := [.data, .data, .data], laidTests := true, laidLooks := .later }
def FnExactTaskTextCardSaid : Prop := Claim7.holds Tryd.pinned (.plain (OpenSpec.ofChange fnExactTaskTextSpec)) fnExactTaskTextCard

/-- THE SECOND FORM's CARD OF 'laws.FnExactCountText'. -/
def fnExactCountTextUptoCard : Claim7 := { stood := { row := fnExactCountTextUptoRow, standIns := [], harness := (true, "c7dd01731be0bba6a69a01e354957463ca5f722f4d143d76ba70f112b3de7a40"), looks := false }, kinds := [], alts := [], laidByText := true, laidKinds := [.data, .data, .data], laidTests := true, laidLooks := .later }
def FnExactCountTextUptoCardSaid : Prop := Claim7.holds Tryd.pinned (.plain (OpenSpec.upto fnExactCountTextSpec)) fnExactCountTextUptoCard

/-- THE SECOND FORM's CARD OF 'laws.FnExactTaskText'. -/
def fnExactTaskTextUptoCard : Claim7 := { stood := { row := fnExactTaskTextUptoRow, standIns := [], harness := (true, "c7dd01731be0bba6a69a01e354957463ca5f722f4d143d76ba70f112b3de7a40"), looks := false }, kinds := [], alts := [], laidByText := true, laidKinds := [.data, .data, .data], laidTests := true, laidLooks := .later }
def FnExactTaskTextUptoCardSaid : Prop := Claim7.holds Tryd.pinned (.plain (OpenSpec.upto fnExactTaskTextSpec)) fnExactTaskTextUptoCard
end Rows
end Go.Proofs.YtbfbnamkgcanbaaDoor
