/- Laws of certificates that are more, or better. -/
import Derived.Test.YtknjpbmkpjcgjaaOL

section
set_option linter.unusedVariables false
set_option linter.unusedSimpArgs false
set_option linter.unusedSectionVars false
/- Pass: laws of certificates that are more, or better (plain). -/
set_option linter.unusedVariables false
set_option linter.unusedSimpArgs false
set_option maxRecDepth 10000
set_option maxHeartbeats 4000000
namespace Go.X.Ps
open Go Go.Proofs Go.X

/-- Each chain of these is a chain of those, and there no more wrong. -/
def More (ag : Int) (ps : List Pp) (ag2 : Int) (ps2 : List Pp) : Prop := ∀ q y c, WalkC ag ps.length (pget ps) q y c → ∃ c', WalkC ag2 ps2.length (pget ps2) q y c' ∧ c'.w ≤ c.w
/-- As good a certificate. -/
def goodP (x x' : Pp) : Prop := x'.of = x.of ∧ x'.by_ = x.by_ ∧ x'.yr = x.yr ∧ x'.wr ≤ x.wr ∧ x'.dr ≤ x.dr
theorem goodP_self (x : Pp) : goodP x x := ⟨rfl, rfl, rfl, Int.le_refl _, Int.le_refl _⟩
theorem more_of {ag ag2 : Int} {ps ps2 : List Pp} (ha : ag ≤ ag2) (h : ∀ j, j < ps.length → ∃ j', j' < ps2.length ∧ goodP (pget ps j) (pget ps2 j')) : More ag ps ag2 ps2 := by
  intro q y c hw
  induction hw with
  | nil => exact ⟨ch0, .nil, Int.le_refl _⟩
  | @cons it y i c h0 h1 h2 h3 ih =>
    obtain ⟨c', hc, hle⟩ := ih
    obtain ⟨j', hj, g1, g2, g3, g4, g5⟩ := h i h1
    have h2' : holdsV it y (pget ps2 j') ag2 = true := by
      unfold holdsV inB at *
      simp only [Bool.and_eq_true, decide_eq_true_eq] at *
      omega
    have hy : 0 ≤ y - (pget ps i).yr := by
      unfold holdsV inB at h2
      simp only [Bool.and_eq_true, decide_eq_true_eq] at h2
      omega
    refine ⟨_, WalkC.cons h0 hj h2' (by rw [g2, g3]; exact hc), ?_⟩
    show addsV y (pget ps2 j') + c'.w ≤ addsV y (pget ps i) + c.w
    have := Int.mul_le_mul_of_nonneg_right g5 hy
    unfold addsV
    rw [g3]
    omega
theorem more_bn {it ag ag2 : Int} {ps ps2 : List Pp} (hm : More ag ps ag2 ps2) (hv2 : validV it ag2 ps2 = true) {q y : Int} {a : Ch} (h : bnL ag ps q y = some a) : ∃ b, bnL ag2 ps2 q y = some b ∧ b.w ≤ a.w := by
  obtain ⟨c', hc, hle⟩ := hm _ _ _ (bst_some h)
  have hr := ppb_of (valid_ps hv2)
  obtain ⟨b, hb, _⟩ := bst_le hr hc
  have := bst_w hr hb hc
  exact ⟨b, hb, by omega⟩
theorem more_hold {it ag ag2 lim : Int} {ps ps2 : List Pp} (hm : More ag ps ag2 ps2) (hv2 : validV it ag2 ps2 = true) {q y : Int} (h : holdO lim (bnL ag ps q y) = true) : holdO lim (bnL ag2 ps2 q y) = true := by
  unfold holdO at *
  rw [Bool.and_eq_true, decide_eq_true_eq] at *
  cases ha : bnL ag ps q y with
  | none => rw [ha] at h; cases h.1
  | some a =>
    obtain ⟨b, hb, hle⟩ := more_bn hm hv2 ha
    rw [ha] at h
    rw [hb]
    refine ⟨rfl, ?_⟩
    have h2 : a.w ≤ lim := h.2
    show b.w ≤ lim
    omega
theorem moreCond {it ag ag2 : Int} {ps ps2 : List Pp} (hm : More ag ps ag2 ps2) (hv : validV it ag ps = true) (hv2 : validV it ag2 ps2 = true) (hit : 1 ≤ it ∧ it ≤ 6) {q y : Int} (hq : 0 ≤ q ∧ q < it) (hy : 0 ≤ y ∧ y ≤ 20) :
    (decide (boundE it ag ps q y = 0) && (!decide (boundE it ag2 ps2 q y = 0) || decide (boundR it ag ps q y < boundR it ag2 ps2 q y)) || decide (untilE it ag ps q y 2000 = 0) && (!decide (untilE it ag2 ps2 q y 2000 = 0) || decide (untilR it ag2 ps2 q y 2000 < untilR it ag ps q y 2000))) = false := by
  obtain ⟨E1, R1⟩ := bound_in (z := y) hv hit hq hy
  obtain ⟨E2, R2⟩ := bound_in (z := y) hv2 hit hq hy
  have U1 := until_in (lim := 2000) hv hit hq hy ⟨by decide, by decide⟩
  have U2 := until_in (lim := 2000) hv2 hit hq hy ⟨by decide, by decide⟩
  rw [Bool.or_eq_false_iff]
  constructor
  · rw [E1, R1, E2, R2]
    cases ha : bnL ag ps q y with
    | none => rfl
    | some a =>
      obtain ⟨b, hb, hle⟩ := more_bn hm hv2 ha
      rw [hb]
      have : ¬ wO (some a) < wO (some b) := by show ¬ a.w < b.w; omega
      rw [decide_eq_false this]
      rfl
  · cases h : holdO 2000 (bnL ag ps q y) with
    | false =>
      rw [h] at U1
      rw [U1]
      rfl
    | true =>
      rw [h, if_pos rfl] at U1
      rw [more_hold hm hv2 h, if_pos rfl] at U2
      have : ¬ untilR it ag2 ps2 q y 2000 < untilR it ag ps q y 2000 := by
        unfold untilR
        rw [if_pos U1, if_pos U2]
        have := untilN_mono (h := fun z => holdO 2000 (bnL ag ps q z)) (h' := fun z => holdO 2000 (bnL ag2 ps2 q z)) (fun z hz => more_hold hm hv2 hz) (21 - y).toNat y
        omega
      rw [U1, U2, decide_eq_false this]
      rfl
/-! ### The four changes -/
theorem more_snoc {ag : Int} {ps : List Pp} {x : Pp} : More ag ps ag (ps ++ [x]) :=
  more_of (Int.le_refl _) fun j hj => ⟨j, by rw [List.length_append]; omega, by
    have : pget (ps ++ [x]) j = pget ps j := by simp [pget, List.getD, List.getElem?_append_left hj]
    rw [this]; exact goodP_self _⟩
theorem more_set {ag : Int} {ps : List Pp} {k : Nat} {x : Pp} (hg : goodP (pget ps k) x) : More ag ps ag (ps.set k x) :=
  more_of (Int.le_refl _) fun j hj => ⟨j, by rw [List.length_set]; exact hj, by
    by_cases h : k = j
    · subst h
      have : pget (ps.set k x) k = x := by simp [pget, List.getD, hj]
      rw [this]; exact hg
    · have : pget (ps.set k x) j = pget ps j := by simp [pget, List.getD, List.getElem?_set_ne h]
      rw [this]; exact goodP_self _⟩
theorem more_age {ag ag2 : Int} {ps : List Pp} (h : ag ≤ ag2) : More ag ps ag2 ps := more_of h fun j hj => ⟨j, hj, goodP_self _⟩
end Go.X.Ps
end
