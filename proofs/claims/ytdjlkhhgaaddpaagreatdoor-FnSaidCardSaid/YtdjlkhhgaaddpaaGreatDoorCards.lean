/-
  DERIVED. GIVEN WITH THE SEED: THE CARDS: each row of YtdjlkhhgaaddpaaGreatDoorRows.lean that lists a variable, with what it lists TIED to the program's text (the seventh form; the later family's looks); each row that meets fmt, with fmt's text TOLD by the authors' own Lean function (tested against real Go, not proved from fmt's source: count such statements apart). THE CARD IS WHAT COUNTS. Prove the row's statement (the work); the ties are given (YtdjlkhhgaaddpaaGreatDoorTie.lean); close each card by the builder's one call (the guide's Derived/Test/ToyasCard.lean, 'card_holds'). Laid BY PROGRAM, IN A SANDBOX (cutbox-door.mjs). By AI agents, Wed Nov 11 2026. No macro, syntax, notation, axiom, sorry.
-/
import Derived.Test.YtdjlkhhgaaddpaaGreatDoorRows
import GoSem.ClaimSeven
namespace Go.Proofs.YtdjlkhhgaaddpaaGreatDoor
namespace Rows

/-- THE TIED CARD OF 'laws.FnSaid'. -/
def fnSaidCard : Claim7 := { stood := { row := fnSaidRow, standIns := [], harness := (true, "b848084c52ee7dc96e791cb977021b7272125cb46a80c051041b436b971b655e"), looks := false }, kinds := [], alts := [], laidByText := true, laidKinds := [.data, .data, .data], laidTests := true, laidLooks := .later }
def FnSaidCardSaid : Prop := Claim7.holds Tryz.pinned (.plain (OpenSpec.ofChange fnSaidSpec)) fnSaidCard

/-- THE SECOND FORM's CARD OF 'laws.FnSaid'. -/
def fnSaidUptoCard : Claim7 := { stood := { row := fnSaidUptoRow, standIns := [], harness := (true, "b848084c52ee7dc96e791cb977021b7272125cb46a80c051041b436b971b655e"), looks := false }, kinds := [], alts := [], laidByText := true, laidKinds := [.data, .data, .data], laidTests := true, laidLooks := .later }
def FnSaidUptoCardSaid : Prop := Claim7.holds Tryz.pinned (.plain (OpenSpec.upto fnSaidSpec)) fnSaidUptoCard
end Rows
end Go.Proofs.YtdjlkhhgaaddpaaGreatDoor
