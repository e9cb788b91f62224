/- All chains as the document goes through them. -/
import Derived.Test.YtknjpbmkpjcgjaaOU
import Derived.Test.YtknjpbmkpjcgjaaOR
import Derived.Test.YtknjpbmkpjcgjaaOP
import Derived.Test.YtknjpbmkpjcgjaaMH
import Derived.Test.YtknjpbmkpjcgjaaMJ

section
set_option linter.unusedVariables false
set_option linter.unusedSimpArgs false
set_option linter.unusedSectionVars false
/- Pass: all chains, as slices that are told of (the document's chains). -/
set_option linter.unusedVariables false
set_option linter.unusedSimpArgs false
set_option maxRecDepth 10000
set_option maxHeartbeats 4000000
namespace Go.X.Ps
open Go Go.Proofs Go.X

/-- A chain that lies frozen: where, how much room, and its numbers. -/
abbrev EnL := Addr × Nat × List Int
def slL (e : EnL) : Value := .slice (some e.1) e.2.2.length e.2.1
def famL (L : List EnL) : Value → Nat → (Nat → List SV) → Prop := fun v n get => ∃ e ∈ L, v = slL e ∧ n = e.2.2.length ∧ get = getI e.2.2
def eL : EnL := (⟨0, 0, none⟩, 0, [])
/-! How many chains there are. -/
end Go.X.Ps
end

section
set_option linter.unusedVariables false
set_option linter.unusedSimpArgs false
set_option linter.unusedSectionVars false
/- Regions of any order: the same, where some operations are known to have run. -/
set_option linter.unusedVariables false
set_option linter.unusedSimpArgs false
set_option maxRecDepth 10000
set_option maxHeartbeats 4000000
namespace Go.X
open Go
end Go.X
end

section
set_option linter.unusedVariables false
set_option linter.unusedSimpArgs false
set_option linter.unusedSectionVars false
/- Pass: how the document's chains go on by one certificate, in whatever order (printed by gen-ei.py). -/
set_option linter.unusedVariables false
set_option linter.unusedSimpArgs false
set_option maxRecDepth 10000
set_option maxHeartbeats 4000000
namespace Go.X.Ps
open Go Go.Proofs Go.X

section
variable {C : Nat → Option Ct} {G : Base} {it ag q y : Int} {n i : Nat} {r : Nat → Pp} {beg : List Int} {L : List EnL} {K : Ex → St → Prop}
end
end Go.X.Ps
end

section
set_option linter.unusedVariables false
set_option linter.unusedSimpArgs false
set_option linter.unusedSectionVars false
/- Pass: all chains, as slices that are told of (the document's chains, to any depth). -/
set_option linter.unusedVariables false
set_option linter.unusedSimpArgs false
set_option maxRecDepth 10000
set_option maxHeartbeats 4000000
namespace Go.X.Ps
open Go Go.Proofs Go.X
end Go.X.Ps
end

section
set_option linter.unusedVariables false
set_option linter.unusedSimpArgs false
set_option linter.unusedSectionVars false
/- Calls: an argument that is told of by a family is handed over as a piece that is looked at. -/
set_option linter.unusedVariables false
set_option linter.unusedSimpArgs false
set_option maxRecDepth 10000
set_option maxHeartbeats 4000000
namespace Go.X
open Go
end Go.X
end
