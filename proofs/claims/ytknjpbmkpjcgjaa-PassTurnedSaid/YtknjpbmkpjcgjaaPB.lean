/- With ten certificates there are not too many chains; whether renewed certificates are enough, as the document says it. -/
import Derived.Test.YtknjpbmkpjcgjaaOV
import Derived.Test.YtknjpbmkpjcgjaaOX
import Derived.Test.YtknjpbmkpjcgjaaOP

section
set_option linter.unusedVariables false
set_option linter.unusedSimpArgs false
set_option linter.unusedSectionVars false
/- Pass: with ten certificates there are not too many chains either, in plain Lean. -/
set_option linter.unusedVariables false
set_option linter.unusedSimpArgs false
set_option maxRecDepth 10000
set_option maxHeartbeats 4000000
namespace Go.X.Ps
open Go Go.Proofs Go.X

def hN : Nat → Nat
  | 0 => 1
  | 1 => 1
  | t + 2 => (t + 2) + ((t + 2) * (t + 2) / 4) * hN t
end Go.X.Ps
end

section
set_option linter.unusedVariables false
set_option linter.unusedSimpArgs false
set_option linter.unusedSectionVars false
/- Pass: enough and Renew of the document (printed by gen-en6.py). -/
set_option linter.unusedVariables false
set_option linter.unusedSimpArgs false
set_option maxRecDepth 10000
set_option maxHeartbeats 4000000
namespace Go.X.Ps
open Go Go.Proofs Go.X
theorem eno_hold {it ag : Int} {n : Nat} {L : Nat → Pp} {S y lim : Int} (hr2 : PpOk ag (rnw n L S y).length (pget (rnw n L S y))) : enoB it ag n L S y lim = (List.range it.toNat).all fun i => holdO lim (bst ag (rnw n L S y).length (pget (rnw n L S y)) (i : Int) y) := by
  unfold enoB
  rw [List.not_any_eq_all_not]
  congr 1
  funext i
  unfold badI bnN bnL
  rw [Bool.not_not]
  cases h : bst ag (rnw n L S y).length (pget (rnw n L S y)) (i : Int) y with
  | none => rfl
  | some c =>
    have hw := bst_pos hr2 h.symm
    show inB c.w 0 lim = holdO lim (some c)
    unfold inB holdO
    simp [hw]
    rfl

end Go.X.Ps
end
