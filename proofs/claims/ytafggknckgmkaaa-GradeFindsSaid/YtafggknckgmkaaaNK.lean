/- Two points clash just if there is no block. -/
import Derived.Test.YtafggknckgmkaaaNH

section
set_option linter.unusedVariables false
set_option linter.unusedSimpArgs false
set_option linter.unusedSectionVars false
/- Grade: two points clash just if there is no block. -/
set_option linter.unusedVariables false
set_option linter.unusedSimpArgs false
set_option maxRecDepth 10000
set_option maxHeartbeats 4000000
namespace Go.X.Gr
open Go Go.Proofs Go.X

/-- The points are spans, and the step is none below nothing. -/
def ptsO (g : Pts) : Prop := (-20 ≤ g.l0 ∧ g.l0 ≤ g.h0 ∧ g.h0 ≤ 20) ∧ (-20 ≤ g.l1 ∧ g.l1 ≤ g.h1 ∧ g.h1 ≤ 20) ∧ (-20 ≤ g.l2 ∧ g.l2 ≤ g.h2 ∧ g.h2 ≤ 20) ∧ (-20 ≤ g.l3 ∧ g.l3 ≤ g.h3 ∧ g.h3 ≤ 20) ∧ (-20 ≤ g.l4 ∧ g.l4 ≤ g.h4 ∧ g.h4 ≤ 20) ∧ 0 ≤ g.st ∧ g.st ≤ 10
theorem gradeOk_o {g : Pts} {L : List (Int × Int)} (h : gradeOk g L = true) : ptsO g := by
  simp only [gradeOk, headB, inB, ptI, ptB, Bool.and_eq_true, decide_eq_true_eq] at h
  unfold ptsO
  omega
/-- How far two points are from each other. -/
def dst (i k : Nat) : Int := if i = k then 0 else if i = 0 ∨ k = 0 then 1 else if (i + k) % 2 = 1 then 1 else 2
theorem clB_iff {g : Pts} {i k : Nat} : clB g i k = false ↔ loI g i - hiI g k ≤ farV i k * g.st ∧ loI g k - hiI g i ≤ farV i k * g.st := by
  unfold clB
  rw [decide_eq_false_iff_not]
  omega
theorem mx5 (a b c d e : Int) : ∃ m, a ≤ m ∧ b ≤ m ∧ c ≤ m ∧ d ≤ m ∧ e ≤ m ∧ ∀ x, a ≤ x → b ≤ x → c ≤ x → d ≤ x → e ≤ x → m ≤ x :=
  ⟨max a (max b (max c (max d e))), by omega, by omega, by omega, by omega, by omega, fun x _ _ _ _ _ => by omega⟩
theorem clash_blk {g : Pts} (ho : ptsO g) (h : ∀ q ∈ clL, clB g q.1 q.2 = false) : ∃ b, OkB g b := by
  have h01 := clB_iff.1 (h (0, 1) (by decide))
  have h02 := clB_iff.1 (h (0, 2) (by decide))
  have h03 := clB_iff.1 (h (0, 3) (by decide))
  have h04 := clB_iff.1 (h (0, 4) (by decide))
  have h12 := clB_iff.1 (h (1, 2) (by decide))
  have h13 := clB_iff.1 (h (1, 3) (by decide))
  have h14 := clB_iff.1 (h (1, 4) (by decide))
  have h23 := clB_iff.1 (h (2, 3) (by decide))
  have h24 := clB_iff.1 (h (2, 4) (by decide))
  have h34 := clB_iff.1 (h (3, 4) (by decide))
  clear h
  simp only [loI, hiI, show farV ((0 : Nat) : Int) ((1 : Nat) : Int) = 1 from rfl, show farV ((0 : Nat) : Int) ((2 : Nat) : Int) = 1 from rfl, show farV ((0 : Nat) : Int) ((3 : Nat) : Int) = 1 from rfl, show farV ((0 : Nat) : Int) ((4 : Nat) : Int) = 1 from rfl,
    show farV ((1 : Nat) : Int) ((2 : Nat) : Int) = 1 from rfl, show farV ((1 : Nat) : Int) ((3 : Nat) : Int) = 2 from rfl, show farV ((1 : Nat) : Int) ((4 : Nat) : Int) = 1 from rfl, show farV ((2 : Nat) : Int) ((3 : Nat) : Int) = 1 from rfl, show farV ((2 : Nat) : Int) ((4 : Nat) : Int) = 2 from rfl, show farV ((3 : Nat) : Int) ((4 : Nat) : Int) = 1 from rfl] at h01 h02 h03 h04 h12 h13 h14 h23 h24 h34
  unfold ptsO at ho
  obtain ⟨l0, h0, l1, h1, l2, h2, l3, h3, l4, h4, s⟩ := g
  simp only at h01 h02 h03 h04 h12 h13 h14 h23 h24 h34 ho
  obtain ⟨c0, a0, a1, a2, a3, a4, u0⟩ := mx5 l0 (l1 - s) (l2 - s) (l3 - s) (l4 - s)
  obtain ⟨c1, b0, b1, b2, b3, b4, u1⟩ := mx5 (l0 - s) l1 (l2 - s) (l3 - 2 * s) (l4 - s)
  obtain ⟨c2, d0, d1, d2, d3, d4, u2⟩ := mx5 (l0 - s) (l1 - s) l2 (l3 - s) (l4 - 2 * s)
  obtain ⟨c3, f0, f1, f2, f3, f4, u3⟩ := mx5 (l0 - s) (l1 - 2 * s) (l2 - s) l3 (l4 - s)
  obtain ⟨c4, g0, g1, g2, g3, g4, u4⟩ := mx5 (l0 - s) (l1 - s) (l2 - 2 * s) (l3 - s) l4
  have t0 : ∀ x, l0 ≤ x → l1 ≤ x + s → l2 ≤ x + s → l3 ≤ x + s → l4 ≤ x + s → c0 ≤ x := fun x _ _ _ _ _ => u0 x (by omega) (by omega) (by omega) (by omega) (by omega)
  refine ⟨(c0, c1, c2, c3, c4), ?_⟩
  have k0 : c0 ≤ h0 := u0 _ (by omega) (by omega) (by omega) (by omega) (by omega)
  have k1 : c1 ≤ h1 := u1 _ (by omega) (by omega) (by omega) (by omega) (by omega)
  have k2 : c2 ≤ h2 := u2 _ (by omega) (by omega) (by omega) (by omega) (by omega)
  have k3 : c3 ≤ h3 := u3 _ (by omega) (by omega) (by omega) (by omega) (by omega)
  have k4 : c4 ≤ h4 := u4 _ (by omega) (by omega) (by omega) (by omega) (by omega)
  have p01 : c0 ≤ c1 + s := u0 _ (by omega) (by omega) (by omega) (by omega) (by omega)
  have p10 : c1 ≤ c0 + s := u1 _ (by omega) (by omega) (by omega) (by omega) (by omega)
  have p02 : c0 ≤ c2 + s := u0 _ (by omega) (by omega) (by omega) (by omega) (by omega)
  have p20 : c2 ≤ c0 + s := u2 _ (by omega) (by omega) (by omega) (by omega) (by omega)
  have p03 : c0 ≤ c3 + s := u0 _ (by omega) (by omega) (by omega) (by omega) (by omega)
  have p30 : c3 ≤ c0 + s := u3 _ (by omega) (by omega) (by omega) (by omega) (by omega)
  have p04 : c0 ≤ c4 + s := u0 _ (by omega) (by omega) (by omega) (by omega) (by omega)
  have p40 : c4 ≤ c0 + s := u4 _ (by omega) (by omega) (by omega) (by omega) (by omega)
  have p12 : c1 ≤ c2 + s := u1 _ (by omega) (by omega) (by omega) (by omega) (by omega)
  have p21 : c2 ≤ c1 + s := u2 _ (by omega) (by omega) (by omega) (by omega) (by omega)
  have p23 : c2 ≤ c3 + s := u2 _ (by omega) (by omega) (by omega) (by omega) (by omega)
  have p32 : c3 ≤ c2 + s := u3 _ (by omega) (by omega) (by omega) (by omega) (by omega)
  have p34 : c3 ≤ c4 + s := u3 _ (by omega) (by omega) (by omega) (by omega) (by omega)
  have p43 : c4 ≤ c3 + s := u4 _ (by omega) (by omega) (by omega) (by omega) (by omega)
  have p14 : c1 ≤ c4 + s := u1 _ (by omega) (by omega) (by omega) (by omega) (by omega)
  have p41 : c4 ≤ c1 + s := u4 _ (by omega) (by omega) (by omega) (by omega) (by omega)
  clear u0 u1 u2 u3 u4 t0 h01 h02 h03 h04 h12 h13 h14 h23 h24 h34
  exact ⟨⟨a0, k0⟩, ⟨b1, k1⟩, ⟨d2, k2⟩, ⟨f3, k3⟩, ⟨g4, k4⟩, ⟨by show c0 - c1 ≤ s; omega, by show c1 - c0 ≤ s; omega⟩, ⟨by show c0 - c2 ≤ s; omega, by show c2 - c0 ≤ s; omega⟩, ⟨by show c0 - c3 ≤ s; omega, by show c3 - c0 ≤ s; omega⟩, ⟨by show c0 - c4 ≤ s; omega, by show c4 - c0 ≤ s; omega⟩,
    ⟨by show c1 - c2 ≤ s; omega, by show c2 - c1 ≤ s; omega⟩, ⟨by show c2 - c3 ≤ s; omega, by show c3 - c2 ≤ s; omega⟩, ⟨by show c3 - c4 ≤ s; omega, by show c4 - c3 ≤ s; omega⟩, ⟨by show c1 - c4 ≤ s; omega, by show c4 - c1 ≤ s; omega⟩⟩
theorem blk_clash {g : Pts} {b : B5} (h : OkB g b) : ∀ q ∈ clL, clB g q.1 q.2 = false := by
  intro q hq
  refine clB_iff.2 ?_
  have := h.r0; have := h.r1; have := h.r2; have := h.r3; have := h.r4
  have := h.s01; have := h.s02; have := h.s03; have := h.s04; have := h.s12; have := h.s23; have := h.s34; have := h.s14
  simp only [clL, List.mem_cons, List.not_mem_nil, or_false] at hq
  rcases hq with rfl | rfl | rfl | rfl | rfl | rfl | rfl | rfl | rfl | rfl
  all_goals
    simp only [loI, hiI, show farV ((0 : Nat) : Int) ((1 : Nat) : Int) = 1 from rfl, show farV ((0 : Nat) : Int) ((2 : Nat) : Int) = 1 from rfl, show farV ((0 : Nat) : Int) ((3 : Nat) : Int) = 1 from rfl, show farV ((0 : Nat) : Int) ((4 : Nat) : Int) = 1 from rfl,
      show farV ((1 : Nat) : Int) ((2 : Nat) : Int) = 1 from rfl, show farV ((1 : Nat) : Int) ((3 : Nat) : Int) = 2 from rfl, show farV ((1 : Nat) : Int) ((4 : Nat) : Int) = 1 from rfl, show farV ((2 : Nat) : Int) ((3 : Nat) : Int) = 1 from rfl, show farV ((2 : Nat) : Int) ((4 : Nat) : Int) = 2 from rfl, show farV ((3 : Nat) : Int) ((4 : Nat) : Int) = 1 from rfl]
    omega
/-- No two points clash just if there is a block. -/
theorem clashV_none {g : Pts} (ho : ptsO g) : clashV g = none ↔ hasB g = true := by
  unfold clashV
  rw [List.find?_eq_none, hasB_iff]
  constructor
  · intro h
    exact clash_blk ho fun q hq => by simpa using h q hq
  · rintro ⟨b, hb⟩ q hq
    rw [blk_clash hb q hq]
    decide
end Go.X.Gr
end
