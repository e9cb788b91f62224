/- Sums of lists of certificates; how a chain by numbers goes on, in whatever order. -/
import Derived.Test.YtknjpbmkpjcgjaaOQ
import Derived.Test.YtknjpbmkpjcgjaaMJ

section
set_option linter.unusedVariables false
set_option linter.unusedSimpArgs false
set_option linter.unusedSectionVars false
/- Pass: what the certificates of a list add together, as the law asks. -/
set_option linter.unusedVariables false
set_option linter.unusedSimpArgs false
set_option maxRecDepth 10000
set_option maxHeartbeats 4000000
namespace Go.X.Ps
open Go Go.Proofs Go.X

end Go.X.Ps
end

section
set_option linter.unusedVariables false
set_option linter.unusedSimpArgs false
set_option linter.unusedSectionVars false
/- Regions of any order: one operation between the others, behind a premise on what has run. -/
set_option linter.unusedVariables false
set_option linter.unusedSimpArgs false
set_option maxRecDepth 10000
set_option maxHeartbeats 4000000
namespace Go.X
open Go
end Go.X
end

section
set_option linter.unusedVariables false
set_option linter.unusedSimpArgs false
set_option linter.unusedSectionVars false
/- Regions of any order: which operations are ready, said by what each one waits for alone; no set is looked at. -/
set_option linter.unusedVariables false
set_option linter.unusedSimpArgs false
set_option maxRecDepth 10000
set_option maxHeartbeats 4000000
namespace Go.X
open Go

end Go.X
end

section
set_option linter.unusedVariables false
set_option linter.unusedSimpArgs false
set_option linter.unusedSectionVars false
/- Pass: how a chain goes on by one certificate, as the law walks: in whatever order. -/
set_option linter.unusedVariables false
set_option linter.unusedSimpArgs false
set_option maxRecDepth 10000
set_option maxHeartbeats 4000000
namespace Go.X.Ps
open Go Go.Proofs Go.X

section
variable {C : Nat → Option Ct} {G : Base} {it ag u i q y : Int} {n k mb : Nat} {r : Nat → Pp} {o : Nat → Int} {acc : List Int} {K : Ex → St → Prop}
end
end Go.X.Ps
end
