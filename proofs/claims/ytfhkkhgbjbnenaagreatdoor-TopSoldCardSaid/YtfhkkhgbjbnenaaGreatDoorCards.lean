/-
  DERIVED. GIVEN WITH THE SEED: THE CARDS: each row of YtfhkkhgbjbnenaaGreatDoorRows.lean that lists a variable, with what it lists TIED to the program's text (the seventh form; the later family's looks); each row that meets fmt, with fmt's text TOLD by the authors' own Lean function (tested against real Go, not proved from fmt's source: count such statements apart). THE CARD IS WHAT COUNTS. Prove the row's statement (the work); the ties are given (YtfhkkhgbjbnenaaGreatDoorTie.lean); close each card by the builder's one call (the guide's Derived/Test/ToyasCard.lean, 'card_holds'). Laid BY PROGRAM, IN A SANDBOX (cutbox-door.mjs). By AI agents, Wed Nov 11 2026. No macro, syntax, notation, axiom, sorry.
-/
import Derived.Test.YtfhkkhgbjbnenaaGreatDoorRows
import GoSem.ClaimSeven
namespace Go.Proofs.YtfhkkhgbjbnenaaGreatDoor
namespace Rows

/-- THE TIED CARD OF 'blockworkstop.TopSold'. -/
def topSoldCard : Claim7 := { stood := { row := topSoldRow, standIns := [], harness := (true, "3cf04ba58eb8a04acbaf4102454f7498700056ccd18db5982e70056607ba5e3d"), looks := true }, kinds := [], alts := [], laidByText := true, laidKinds := [.data], laidTests := true, laidLooks := .later }
def TopSoldCardSaid : Prop := Claim7.holds Tryz.pinned (.plain (OpenSpec.ofChange topSoldSpec)) topSoldCard

/-- THE SECOND FORM's CARD OF 'blockworkstop.TopSold'. -/
def topSoldUptoCard : Claim7 := { stood := { row := topSoldUptoRow, standIns := [], harness := (true, "3cf04ba58eb8a04acbaf4102454f7498700056ccd18db5982e70056607ba5e3d"), looks := true }, kinds := [], alts := [], laidByText := true, laidKinds := [.data], laidTests := true, laidLooks := .later }
def TopSoldUptoCardSaid : Prop := Claim7.holds Tryz.pinned (.plain (OpenSpec.upto topSoldSpec)) topSoldUptoCard
end Rows
end Go.Proofs.YtfhkkhgbjbnenaaGreatDoor
