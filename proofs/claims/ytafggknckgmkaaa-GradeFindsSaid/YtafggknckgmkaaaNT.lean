/- How a slice of small numbers is opened. -/
import Derived.Test.YtafggknckgmkaaaNF

section
set_option linter.unusedVariables false
set_option linter.unusedSimpArgs false
set_option linter.unusedSectionVars false
/- Grade: arguments opened: a grade, numbers and a slice of small numbers; a slice of small numbers alone. -/
set_option linter.unusedVariables false
set_option linter.unusedSimpArgs false
set_option linter.unusedSectionVars false
set_option maxRecDepth 100000
set_option maxHeartbeats 1600000
namespace Go.X.Gr
open Go Go.Proofs Go.X Go.ChangeShapes Go.WideShapes Go.ChangeAt Go.RowKit Go.Joins

section
variable {W : World} {base : Nat} {H : Type} {enc : TypeId × Value → H}
end
end Go.X.Gr
end
