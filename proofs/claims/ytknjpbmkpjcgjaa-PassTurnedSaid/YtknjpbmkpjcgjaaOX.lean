/- Bound, Until, Known of the document. -/
import Derived.Test.YtknjpbmkpjcgjaaOW
import Derived.Test.YtknjpbmkpjcgjaaOS

section
set_option linter.unusedVariables false
set_option linter.unusedSimpArgs false
set_option linter.unusedSectionVars false
/- Pass: what the document says of bounds (printed by gen-en.py). -/
set_option linter.unusedVariables false
set_option linter.unusedSimpArgs false
set_option maxRecDepth 10000
set_option maxHeartbeats 4000000
namespace Go.X.Ps
open Go Go.Proofs Go.X
theorem ppb_L {ag : Int} {n : Nat} {L : Nat → Pp} (hr : PpOk ag n L) : PpB ag n L := fun j hj => ⟨(hr.2.2 j hj).1.1, (hr.2.2 j hj).2.2.1⟩
theorem bst_pos {ag : Int} {n : Nat} {L : Nat → Pp} {q y : Int} {c : Ch} (hr : PpOk ag n L) (h : some c = bst ag n L q y) : 0 ≤ c.w := walkC_w (ppb_L hr) (bst_some h.symm)

end Go.X.Ps
end

section
set_option linter.unusedVariables false
set_option linter.unusedSimpArgs false
set_option linter.unusedSectionVars false
/- Pass: Until and Known of the document (printed by gen-en.py). -/
set_option linter.unusedVariables false
set_option linter.unusedSimpArgs false
set_option maxRecDepth 10000
set_option maxHeartbeats 4000000
namespace Go.X.Ps
open Go Go.Proofs Go.X

end Go.X.Ps
end
