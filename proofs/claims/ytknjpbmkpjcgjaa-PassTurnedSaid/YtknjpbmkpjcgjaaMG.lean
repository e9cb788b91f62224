/- Many branches that come to one loop. -/
import Derived.Test.YtknjpbmkpjcgjaaMF

section
set_option linter.unusedVariables false
set_option linter.unusedSimpArgs false
set_option linter.unusedSectionVars false
/- Many branches that come to one loop, with what they have found. -/
set_option linter.unusedVariables false
set_option linter.unusedSimpArgs false
set_option maxRecDepth 10000
namespace Go.X
open Go
end Go.X
end
