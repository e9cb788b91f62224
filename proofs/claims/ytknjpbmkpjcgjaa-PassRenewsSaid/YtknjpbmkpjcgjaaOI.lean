/- The walk of PassUntil. -/
import Derived.Test.YtknjpbmkpjcgjaaOG

section
set_option linter.unusedVariables false
set_option linter.unusedSimpArgs false
set_option linter.unusedSectionVars false
/- Pass: PassUntil answers true. -/
set_option linter.unusedVariables false
set_option linter.unusedSimpArgs false
set_option maxRecDepth 10000
set_option maxHeartbeats 4000000
namespace Go.X.Ps
open Go Go.Proofs Go.X

/-! ### In range -/
theorem isItem_in {it q : Int} (h : 1 ≤ it ∧ it ≤ 6) (hq : 0 ≤ q ∧ q < it) : isItemV it q = true := by
  unfold isItemV inB
  have e : IntKind.i64.wrap (it - 1) = it - 1 := wrap_in (show InK .i64 (it - 1) from ⟨by omega, by omega⟩)
  rw [e]
  simp only [Bool.and_eq_true, decide_eq_true_eq]
  omega
theorem inB_in {z lo hi : Int} (h : lo ≤ z ∧ z ≤ hi) : inB z lo hi = true := by
  unfold inB
  simp only [Bool.and_eq_true, decide_eq_true_eq]
  exact h
theorem bound_in {it ag : Int} {ps : List Pp} {q z : Int} (hv : validV it ag ps = true) (hit : 1 ≤ it ∧ it ≤ 6) (hq : 0 ≤ q ∧ q < it) (hz : 0 ≤ z ∧ z ≤ 20) :
    boundE it ag ps q z = (if (bnL ag ps q z).isSome = true then 0 else 4) ∧ boundR it ag ps q z = wO (bnL ag ps q z) := by
  unfold boundE boundR
  rw [hv, isItem_in hit hq, inB_in hz]
  exact ⟨rfl, rfl⟩
/-! ### Until -/
/-! ### The closure -/
/-! ### The law -/
end Go.X.Ps
end
