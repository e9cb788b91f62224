/- The best chain, as the document finds it. -/
import Derived.Test.YtknjpbmkpjcgjaaOV
import Derived.Test.YtknjpbmkpjcgjaaOU

section
set_option linter.unusedVariables false
set_option linter.unusedSimpArgs false
set_option linter.unusedSectionVars false
/- Pass: all chains of an item, as the document goes through them. -/
set_option linter.unusedVariables false
set_option linter.unusedSimpArgs false
set_option maxRecDepth 10000
set_option maxHeartbeats 4000000
namespace Go.X.Ps
open Go Go.Proofs Go.X

/-! best -/
section
variable {G : Base} {it ag y : Int} {n k i : Nat} {r : Nat → Pp} {L : List EnL} {K : Ex → St → Prop}
end
end Go.X.Ps
end

section
set_option linter.unusedVariables false
set_option linter.unusedSimpArgs false
set_option linter.unusedSectionVars false
/- Pass: the best chain, as the document finds it. -/
set_option linter.unusedVariables false
set_option linter.unusedSimpArgs false
set_option maxRecDepth 10000
set_option maxHeartbeats 4000000
namespace Go.X.Ps
open Go Go.Proofs Go.X

def hB (n : Nat) (r : Nat → Pp) (L : List EnL) : Option Ch → List (Nat × HB)
  | none => [(0, .ro 5 n fun i => ppC (r i))]
  | some c => [(1, .fam 1 (famL L)), (0, .ro 5 n fun i => ppC (r i))]
end Go.X.Ps
end
