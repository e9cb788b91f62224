/- A chain by numbers walked, and the laws of chains. -/
import Derived.Test.YtknjpbmkpjcgjaaOR

section
set_option linter.unusedVariables false
set_option linter.unusedSimpArgs false
set_option linter.unusedSectionVars false
/- Pass: a chain by numbers, as the law walks it, in plain Lean. -/
set_option linter.unusedVariables false
set_option linter.unusedSimpArgs false
set_option maxRecDepth 10000
set_option maxHeartbeats 4000000
namespace Go.X.Ps
open Go Go.Proofs Go.X

end Go.X.Ps
end

section
set_option linter.unusedVariables false
set_option linter.unusedSimpArgs false
set_option linter.unusedSectionVars false
/- Pass: that the chain that is told is one, and that another one has no less, in plain Lean. -/
set_option linter.unusedVariables false
set_option linter.unusedSimpArgs false
set_option maxRecDepth 10000
set_option maxHeartbeats 4000000
namespace Go.X.Ps
open Go Go.Proofs Go.X

theorem bnL_L (ag : Int) (n : Nat) (L : Nat → Pp) (q y : Int) : bnL ag (papL n fun i => ppC (L i)) q y = bst ag n L q y := bnL_papL ag n (fun i => ppC (L i)) q y
end Go.X.Ps
end
