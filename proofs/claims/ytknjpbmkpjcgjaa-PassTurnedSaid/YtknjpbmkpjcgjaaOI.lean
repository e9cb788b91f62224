/- The walk of PassUntil. -/
import Derived.Test.YtknjpbmkpjcgjaaOG

section
set_option linter.unusedVariables false
set_option linter.unusedSimpArgs false
set_option linter.unusedSectionVars false
/- Pass: PassUntil answers true. -/
set_option linter.unusedVariables false
set_option linter.unusedSimpArgs false
set_option maxRecDepth 10000
set_option maxHeartbeats 4000000
namespace Go.X.Ps
open Go Go.Proofs Go.X

/-! ### In range -/
theorem isItem_in {it q : Int} (h : 1 ≤ it ∧ it ≤ 6) (hq : 0 ≤ q ∧ q < it) : isItemV it q = true := by
  unfold isItemV inB
  have e : IntKind.i64.wrap (it - 1) = it - 1 := wrap_in (show InK .i64 (it - 1) from ⟨by omega, by omega⟩)
  rw [e]
  simp only [Bool.and_eq_true, decide_eq_true_eq]
  omega
theorem inB_in {z lo hi : Int} (h : lo ≤ z ∧ z ≤ hi) : inB z lo hi = true := by
  unfold inB
  simp only [Bool.and_eq_true, decide_eq_true_eq]
  exact h
theorem bound_in {it ag : Int} {ps : List Pp} {q z : Int} (hv : validV it ag ps = true) (hit : 1 ≤ it ∧ it ≤ 6) (hq : 0 ≤ q ∧ q < it) (hz : 0 ≤ z ∧ z ≤ 20) :
    boundE it ag ps q z = (if (bnL ag ps q z).isSome = true then 0 else 4) ∧ boundR it ag ps q z = wO (bnL ag ps q z) := by
  unfold boundE boundR
  rw [hv, isItem_in hit hq, inB_in hz]
  exact ⟨rfl, rfl⟩
theorem until_in {it ag : Int} {ps : List Pp} {q z lim : Int} (hv : validV it ag ps = true) (hit : 1 ≤ it ∧ it ≤ 6) (hq : 0 ≤ q ∧ q < it) (hz : 0 ≤ z ∧ z ≤ 20) (hl : 0 ≤ lim ∧ lim ≤ 2000) :
    untilE it ag ps q z lim = if holdO lim (bnL ag ps q z) = true then 0 else 4 := by
  unfold untilE
  rw [hv, isItem_in hit hq, inB_in hz, inB_in hl]
  rfl
/-! ### Until -/
/-! ### The closure -/
theorem hand_nd {H : LH} {ps : List (Nat × HB)} (h1 : allP (fun c h => PieceOk H (sigP ps) c h) ps) (h2 : allP (fun _ h => InHB (fun i => i < ps.length) h) ps) (h3 : (ps.map (·.1)).Nodup) : Hand H ps where
  ok := allP_get h1
  ids := allP_get h2
  inj i j c hb hb' e1 e2 o1 o2 := by
    have f1 : (ps.map (·.1))[i]? = some c := by rw [List.getElem?_map, e1]; rfl
    have f2 : (ps.map (·.1))[j]? = some c := by rw [List.getElem?_map, e2]; rfl
    have hi : i < (ps.map (·.1)).length := lt_of_get f1
    exact (List.getElem?_inj hi h3).1 (f1.trans f2.symm)
/-! ### The law -/
theorem tmod_b {a b : Int} (h : 0 ≤ a) (hb : 0 < b) : 0 ≤ a.tmod b ∧ a.tmod b < b := ⟨Int.tmod_nonneg b h, Int.tmod_lt_of_pos a hb⟩
end Go.X.Ps
end
