/- Laws of certificates that are more, or better. -/
import Derived.Test.YtknjpbmkpjcgjaaOL

section
set_option linter.unusedVariables false
set_option linter.unusedSimpArgs false
set_option linter.unusedSectionVars false
/- Pass: laws of certificates that are more, or better (plain). -/
set_option linter.unusedVariables false
set_option linter.unusedSimpArgs false
set_option maxRecDepth 10000
set_option maxHeartbeats 4000000
namespace Go.X.Ps
open Go Go.Proofs Go.X

/-- Each chain of these is a chain of those, and there no more wrong. -/
def More (ag : Int) (ps : List Pp) (ag2 : Int) (ps2 : List Pp) : Prop := ∀ q y c, WalkC ag ps.length (pget ps) q y c → ∃ c', WalkC ag2 ps2.length (pget ps2) q y c' ∧ c'.w ≤ c.w
/-! ### The four changes -/
end Go.X.Ps
end
