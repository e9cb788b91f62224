/- Which point should be measured. -/
import Derived.Test.YtafggknckgmkaaaNA
import Derived.Test.YtafggknckgmkaaaNM
import Derived.Test.YtafggknckgmkaaaND

section
set_option linter.unusedVariables false
set_option linter.unusedSimpArgs false
set_option linter.unusedSectionVars false
/- Grade: Size. -/
set_option linter.unusedVariables false
set_option linter.unusedSimpArgs false
set_option maxRecDepth 10000
set_option maxHeartbeats 2000000
namespace Go.X.Gr
open Go Go.Proofs Go.X

end Go.X.Gr
end

section
set_option linter.unusedVariables false
set_option linter.unusedSimpArgs false
set_option linter.unusedSectionVars false
/- Grade: which point should be measured, by the grades that are left. -/
set_option linter.unusedVariables false
set_option linter.unusedSimpArgs false
set_option maxRecDepth 10000
set_option maxHeartbeats 4000000
namespace Go.X.Gr
open Go Go.Proofs Go.X

end Go.X.Gr
end
