/- Laws of sets of items, and of a year later. -/
import Derived.Test.YtknjpbmkpjcgjaaOI

section
set_option linter.unusedVariables false
set_option linter.unusedSimpArgs false
set_option linter.unusedSectionVars false
/- Pass: laws of sets of items, and of a year later (plain). -/
set_option linter.unusedVariables false
set_option linter.unusedSimpArgs false
set_option maxRecDepth 10000
set_option maxHeartbeats 4000000
namespace Go.X.Ps
open Go Go.Proofs Go.X

/-! ### Sums -/
/-! ### Sets -/
/-! ### A year later -/
theorem chain_down {ag it y : Int} {ps : List Pp} {c : Ch} {j : Nat} {l : List Int} (hr : PpOk ag ps.length (pget ps)) (h0 : it ≠ -1) (h : bnL ag ps it (y + 1) = some c) (hl : c.ps = (j : Int) :: l) (hy : (pget ps j).yr ≤ y) :
    ∃ b, bnL ag ps it y = some b ∧ b.w ≤ c.w := by
  have hw := bst_some h
  cases hw with
  | nil => exact absurd rfl h0
  | cons h0a h1 h2 h3 =>
    rename_i i d
    have hl : (i : Int) :: d.ps = (j : Int) :: l := hl
    obtain ⟨hij, -⟩ := List.cons.inj hl
    obtain rfl : i = j := by omega
    have h2' : holdsV it y (pget ps i) ag = true := by
      unfold holdsV inB at *
      simp only [Bool.and_eq_true, decide_eq_true_eq] at *
      omega
    have hr2 : PpB ag ps.length (pget ps) := fun j hj => ⟨(hr.2.2 j hj).1.1, (hr.2.2 j hj).2.2.1⟩
    have hw2 := WalkC.cons h0 h1 h2' h3
    obtain ⟨b, hb, _⟩ := bst_le hr2 hw2
    refine ⟨b, hb, ?_⟩
    have := bst_w hr2 hb hw2
    have hd := (hr.2.2 i h1).2.2.1
    have e : addsV (y + 1) (pget ps i) = addsV y (pget ps i) + (pget ps i).dr := by
      unfold addsV
      rw [show y + 1 - (pget ps i).yr = (y - (pget ps i).yr) + 1 by omega, Int.mul_add, Int.mul_one]
      omega
    show b.w ≤ addsV (y + 1) (pget ps i) + d.w
    rw [e]
    have : b.w ≤ addsV y (pget ps i) + d.w := this
    omega
end Go.X.Ps
end

section
set_option linter.unusedVariables false
set_option linter.unusedSimpArgs false
set_option linter.unusedSectionVars false
/- Pass: laws of what is told of sets of items (plain). -/
set_option linter.unusedVariables false
set_option linter.unusedSimpArgs false
set_option maxRecDepth 10000
set_option maxHeartbeats 4000000
namespace Go.X.Ps
open Go Go.Proofs Go.X

theorem map_pget (ps : List Pp) : (List.range ps.length).map (pget ps) = ps := by
  apply List.ext_getElem
  · simp
  · intro i h1 h2
    simp [pget, List.getD, h2]
theorem valid_ps {it ag : Int} {ps : List Pp} (hv : validV it ag ps = true) : PpOk ag ps.length (pget ps) := (valid_ok (r := pget ps) (n := ps.length) (by rw [map_pget]; exact hv)).1
theorem toget {n : Nat} {L : Nat → Pp} {ps : List Pp} (hps : papL n (fun i => ppC (L i)) = ps) {j : Nat} (hj : j < n) : pget ps j = L j := by
  rw [← hps, pget_papL hj]
  rfl
theorem chain_in {it ag : Int} {ps : List Pp} {q z : Int} (hv : validV it ag ps = true) (hit : 1 ≤ it ∧ it ≤ 6) (hq : 0 ≤ q ∧ q < it) (hz : 0 ≤ z ∧ z ≤ 20) : chainL it ag ps q z = psO (bnL ag ps q z) := by
  unfold chainL
  rw [hv, isItem_in hit hq, inB_in hz]
  rfl
theorem later {it ag : Int} {ps : List Pp} {n : Nat} {L : Nat → Pp} {q y : Int} (hps : papL n (fun i => ppC (L i)) = ps) (hv : validV it ag ps = true) (hit : 1 ≤ it ∧ it ≤ 6) (hq : 0 ≤ q ∧ q < it) (hy : 0 ≤ y ∧ y ≤ 19)
    (h : (!decide (boundE it ag ps q (y + 1) = 0) ||
            decide (((chainL it ag ps q (y + 1)).length : Int) = 0) ||
          decide ((chainL it ag ps q (y + 1)).getD (Int.toNat 0) 0 < 0) ||
        decide ((n : Int) ≤ (chainL it ag ps q (y + 1)).getD (Int.toNat 0) 0) ||
      decide
        (y < (L ((chainL it ag ps q (y + 1)).getD (Int.toNat 0) 0).toNat).yr)) = false) :
    boundE it ag ps q (y + 1) = 0 ∧ boundE it ag ps q y = 0 ∧ boundR it ag ps q y ≤ boundR it ag ps q (y + 1) := by
  have hr := valid_ps hv
  obtain ⟨E1, R1⟩ := bound_in (z := y + 1) hv hit hq ⟨by omega, by omega⟩
  obtain ⟨E0, R0⟩ := bound_in (z := y) hv hit hq ⟨by omega, by omega⟩
  have hc := chain_in (z := y + 1) hv hit hq ⟨by omega, by omega⟩
  simp only [Bool.or_eq_false_iff, Bool.not_eq_false', decide_eq_true_eq, decide_eq_false_iff_not] at h
  obtain ⟨⟨⟨⟨h1, h2⟩, h3⟩, h4⟩, h5⟩ := h
  rw [hc] at h2 h3 h4 h5
  cases hb : bnL ag ps q (y + 1) with
  | none => rw [hb] at h2; exact absurd rfl h2
  | some c =>
    rw [hb] at h2 h3 h4 h5
    simp only [psO] at h2 h3 h4 h5
    cases hl : c.ps with
    | nil => rw [hl] at h2; exact absurd rfl h2
    | cons f l =>
      rw [hl] at h3 h4 h5
      have e : (f :: l).getD (Int.toNat 0) 0 = f := rfl
      rw [e] at h3 h4 h5
      have hj : c.ps = ((f.toNat : Nat) : Int) :: l := by rw [hl, Int.toNat_of_nonneg (by omega)]
      obtain ⟨b, hb2, hw⟩ := chain_down hr (by omega) hb hj (by rw [toget hps (by omega)]; omega)
      refine ⟨h1, by rw [E0, hb2]; rfl, ?_⟩
      rw [R0, R1, hb, hb2]
      exact hw
end Go.X.Ps
end
