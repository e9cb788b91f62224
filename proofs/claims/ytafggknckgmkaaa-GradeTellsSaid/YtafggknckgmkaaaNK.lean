/- Two points clash just if there is no block. -/
import Derived.Test.YtafggknckgmkaaaNH

section
set_option linter.unusedVariables false
set_option linter.unusedSimpArgs false
set_option linter.unusedSectionVars false
/- Grade: two points clash just if there is no block. -/
set_option linter.unusedVariables false
set_option linter.unusedSimpArgs false
set_option maxRecDepth 10000
set_option maxHeartbeats 4000000
namespace Go.X.Gr
open Go Go.Proofs Go.X

/-- How far two points are from each other. -/
def dst (i k : Nat) : Int := if i = k then 0 else if i = 0 ∨ k = 0 then 1 else if (i + k) % 2 = 1 then 1 else 2
end Go.X.Gr
end
