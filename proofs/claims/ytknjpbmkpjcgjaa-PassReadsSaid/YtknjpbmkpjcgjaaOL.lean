/- Certificates without one. -/
import Derived.Test.YtknjpbmkpjcgjaaOJ

section
set_option linter.unusedVariables false
set_option linter.unusedSimpArgs false
set_option linter.unusedSectionVars false
/- Pass: the document's certificates without one. -/
set_option linter.unusedVariables false
set_option linter.unusedSimpArgs false
set_option maxRecDepth 10000
set_option maxHeartbeats 4000000
namespace Go.X.Ps
open Go Go.Proofs Go.X

end Go.X.Ps
end

section
set_option linter.unusedVariables false
set_option linter.unusedSimpArgs false
set_option linter.unusedSectionVars false
/- Pass: the document's certificates without one, and their contract. -/
set_option linter.unusedVariables false
set_option linter.unusedSimpArgs false
set_option maxRecDepth 10000
set_option maxHeartbeats 4000000
namespace Go.X.Ps
open Go Go.Proofs Go.X

end Go.X.Ps
end

section
set_option linter.unusedVariables false
set_option linter.unusedSimpArgs false
set_option linter.unusedSectionVars false
/- Pass: laws of certificates without one (plain). -/
set_option linter.unusedVariables false
set_option linter.unusedSimpArgs false
set_option maxRecDepth 10000
set_option maxHeartbeats 4000000
namespace Go.X.Ps
open Go Go.Proofs Go.X

theorem valid_mem {it ag : Int} {ps : List Pp} {j : Nat} (hv : validV it ag ps = true) (hj : j < ps.length) : badV it (pget ps j) = false := by
  unfold validV at hv
  simp only [Bool.and_eq_true, decide_eq_true_eq, Bool.not_eq_true', List.any_eq_false] at hv
  have e : pget ps j = ps[j] := by simp [pget, List.getD, hj]
  have := hv.2.2.2 ps[j] (List.getElem_mem hj)
  rw [e]
  simpa using this
/-- What is no item has no bound. -/
theorem bn_far {it ag : Int} {ps : List Pp} {q y : Int} (hv : validV it ag ps = true) (hit : 1 ≤ it ∧ it ≤ 6) (hq : it ≤ q) : bnL ag ps q y = none := by
  cases h : bnL ag ps q y with
  | none => rfl
  | some c =>
    exfalso
    have hw := bst_some h
    cases hw with
    | nil => omega
    | cons h0 h1 h2 h3 =>
      have := valid_mem hv h1
      unfold badV inB at this
      unfold holdsV at h2
      simp only [Bool.or_eq_false_iff, Bool.not_eq_false', Bool.and_eq_true, decide_eq_true_eq] at this h2
      omega
/-! ### Recall -/
theorem any_take {f : Int → Bool} {l : List Int} {j : Nat} (h : j < l.length) : ((l.take j).any f || f (l.getD j 0)) = (l.take (j + 1)).any f := by
  rw [List.take_succ_eq_append_getElem h, List.any_append]
  simp [List.getD, h]
end Go.X.Ps
end
