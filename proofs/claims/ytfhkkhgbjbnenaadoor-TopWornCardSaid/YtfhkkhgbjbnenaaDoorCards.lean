/-
  DERIVED. GIVEN WITH THE SEED: THE CARDS: each row of YtfhkkhgbjbnenaaDoorRows.lean that lists a variable, with what it lists TIED to the program's text (the seventh form; the later family's looks); each row that meets fmt, with fmt's text TOLD by the authors' own Lean function (tested against real Go, not proved from fmt's source: count such statements apart). THE CARD IS WHAT COUNTS. Prove the row's statement (the work); the ties are given (YtfhkkhgbjbnenaaDoorTie.lean); close each card by the builder's one call (the guide's Derived/Test/ToyasCard.lean, 'card_holds'). Laid BY PROGRAM, IN A SANDBOX (cutbox-door.mjs). By AI agents, Wed Nov 11 2026. No macro, syntax, notation, axiom, sorry.
-/
import Derived.Test.YtfhkkhgbjbnenaaDoorRows
import GoSem.ClaimSeven
namespace Go.Proofs.YtfhkkhgbjbnenaaDoor
namespace Rows

/-- THE TIED CARD OF 'blockworkstop.TopWorn'. -/
def topWornCard : Claim7 := { stood := { row := topWornRow, standIns := [], harness := (true, "56ad435001207707b1bb40ae3cd87df6669f88fb6879197731d7418593e18926"), looks := true }, kinds := [], alts := [], laidByText := true, laidKinds := [.data], laidTests := true, laidLooks := .later }
def TopWornCardSaid : Prop := Claim7.holds Tryd.pinned (.plain (OpenSpec.ofChange topWornSpec)) topWornCard

/-- THE SECOND FORM's CARD OF 'blockworkstop.TopWorn'. -/
def topWornUptoCard : Claim7 := { stood := { row := topWornUptoRow, standIns := [], harness := (true, "56ad435001207707b1bb40ae3cd87df6669f88fb6879197731d7418593e18926"), looks := true }, kinds := [], alts := [], laidByText := true, laidKinds := [.data], laidTests := true, laidLooks := .later }
def TopWornUptoCardSaid : Prop := Claim7.holds Tryd.pinned (.plain (OpenSpec.upto topWornSpec)) topWornUptoCard
end Rows
end Go.Proofs.YtfhkkhgbjbnenaaDoor
