/- Regions of any order: guarded operations. -/
import Derived.Test.YtknjpbmkpjcgjaaMH

section
set_option linter.unusedVariables false
set_option linter.unusedSimpArgs false
set_option linter.unusedSectionVars false
/- Regions of any order: guarded operations whose guards hold, and calls. -/
set_option linter.unusedVariables false
set_option linter.unusedSimpArgs false
set_option maxRecDepth 10000
namespace Go.X
open Go

end Go.X
end
