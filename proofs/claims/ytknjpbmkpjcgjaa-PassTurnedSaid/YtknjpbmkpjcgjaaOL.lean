/- Certificates without one. -/
import Derived.Test.YtknjpbmkpjcgjaaOJ

section
set_option linter.unusedVariables false
set_option linter.unusedSimpArgs false
set_option linter.unusedSectionVars false
/- Pass: the document's certificates without one. -/
set_option linter.unusedVariables false
set_option linter.unusedSimpArgs false
set_option maxRecDepth 10000
set_option maxHeartbeats 4000000
namespace Go.X.Ps
open Go Go.Proofs Go.X

end Go.X.Ps
end

section
set_option linter.unusedVariables false
set_option linter.unusedSimpArgs false
set_option linter.unusedSectionVars false
/- Pass: the document's certificates without one, and their contract. -/
set_option linter.unusedVariables false
set_option linter.unusedSimpArgs false
set_option maxRecDepth 10000
set_option maxHeartbeats 4000000
namespace Go.X.Ps
open Go Go.Proofs Go.X

end Go.X.Ps
end

section
set_option linter.unusedVariables false
set_option linter.unusedSimpArgs false
set_option linter.unusedSectionVars false
/- Pass: laws of certificates without one (plain). -/
set_option linter.unusedVariables false
set_option linter.unusedSimpArgs false
set_option maxRecDepth 10000
set_option maxHeartbeats 4000000
namespace Go.X.Ps
open Go Go.Proofs Go.X

/-! ### Recall -/
theorem chain_le {it ag : Int} {ps : List Pp} {q z : Int} (hv : validV it ag ps = true) (hit : 1 ≤ it ∧ it ≤ 6) (hq : 0 ≤ q ∧ q < it) (hz : 0 ≤ z ∧ z ≤ 20) : (chainL it ag ps q z).length ≤ 40 := by
  rw [chain_in hv hit hq hz]
  cases h : bnL ag ps q z with
  | none => exact Nat.zero_le _
  | some c =>
    have h1 := (bestW_some ps.length q z c h).2
    have h2 := (valid_ps hv).1
    show c.ps.length ≤ 40
    omega
theorem any_take {f : Int → Bool} {l : List Int} {j : Nat} (h : j < l.length) : ((l.take j).any f || f (l.getD j 0)) = (l.take (j + 1)).any f := by
  rw [List.take_succ_eq_append_getElem h, List.any_append]
  simp [List.getD, h]
end Go.X.Ps
end
