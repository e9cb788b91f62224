/- A point that has been measured leaves the blocks that have it there; each number between two is that of a block. -/
import Derived.Test.YtafggknckgmkaaaNK
import Derived.Test.YtafggknckgmkaaaNI

section
set_option linter.unusedVariables false
set_option linter.unusedSimpArgs false
set_option linter.unusedSectionVars false
/- Grade: a point that has been measured leaves the blocks that have it there; each number between two is that of a block. -/
set_option linter.unusedVariables false
set_option linter.unusedSimpArgs false
set_option maxRecDepth 10000
set_option maxHeartbeats 4000000
namespace Go.X.Gr
open Go Go.Proofs Go.X

def loP (g : Pts) (q : Int) : Int := if q = 0 then g.l0 else if q = 1 then g.l1 else if q = 2 then g.l2 else if q = 3 then g.l3 else g.l4
def hiP (g : Pts) (q : Int) : Int := if q = 0 then g.h0 else if q = 1 then g.h1 else if q = 2 then g.h2 else if q = 3 then g.h3 else g.h4
theorem okB_at {g : Pts} {q n : Int} (hq : 0 ≤ q ∧ q < 5) (hn : loP g q ≤ n ∧ n ≤ hiP g q) {b : B5} : OkB (atP g q n) b ↔ OkB g b ∧ fun5 (ptV q) b = n := by
  obtain ⟨a0, a1, a2, a3, a4⟩ := b
  rcases (show q = 0 ∨ q = 1 ∨ q = 2 ∨ q = 3 ∨ q = 4 by omega) with rfl | rfl | rfl | rfl | rfl
  all_goals
    simp only [fun5, ptV, atP, loP, hiP, if_true, if_false, show ¬ (1 : Int) = 0 by decide, show ¬ (2 : Int) = 0 by decide, show ¬ (2 : Int) = 1 by decide, show ¬ (3 : Int) = 0 by decide, show ¬ (3 : Int) = 1 by decide, show ¬ (3 : Int) = 2 by decide, show ¬ (4 : Int) = 0 by decide, show ¬ (4 : Int) = 1 by decide, show ¬ (4 : Int) = 2 by decide, show ¬ (4 : Int) = 3 by decide] at hn ⊢
    constructor
    · rintro ⟨r0, r1, r2, r3, r4, s01, s02, s03, s04, s12, s23, s34, s14⟩
      simp only at r0 r1 r2 r3 r4 s01 s02 s03 s04 s12 s23 s34 s14
      refine ⟨⟨?_, ?_, ?_, ?_, ?_, s01, s02, s03, s04, s12, s23, s34, s14⟩, by omega⟩ <;> (simp only; omega)
    · rintro ⟨⟨r0, r1, r2, r3, r4, s01, s02, s03, s04, s12, s23, s34, s14⟩, e⟩
      simp only at r0 r1 r2 r3 r4 s01 s02 s03 s04 s12 s23 s34 s14
      refine ⟨?_, ?_, ?_, ?_, ?_, s01, s02, s03, s04, s12, s23, s34, s14⟩ <;> (simp only; omega)
theorem okB_pt {g : Pts} {q : Int} (hq : 0 ≤ q ∧ q < 5) {b : B5} (h : OkB g b) : loP g q ≤ fun5 (ptV q) b ∧ fun5 (ptV q) b ≤ hiP g q := by
  obtain ⟨a0, a1, a2, a3, a4⟩ := b
  obtain ⟨r0, r1, r2, r3, r4, -, -, -, -, -, -, -, -⟩ := h
  simp only at r0 r1 r2 r3 r4
  rcases (show q = 0 ∨ q = 1 ∨ q = 2 ∨ q = 3 ∨ q = 4 by omega) with rfl | rfl | rfl | rfl | rfl
  all_goals
    simp only [fun5, ptV, loP, hiP, if_true, if_false, show ¬ (1 : Int) = 0 by decide, show ¬ (2 : Int) = 0 by decide, show ¬ (2 : Int) = 1 by decide, show ¬ (3 : Int) = 0 by decide, show ¬ (3 : Int) = 1 by decide, show ¬ (3 : Int) = 2 by decide, show ¬ (4 : Int) = 0 by decide, show ¬ (4 : Int) = 1 by decide, show ¬ (4 : Int) = 2 by decide, show ¬ (4 : Int) = 3 by decide]
    omega
theorem gradeOk_at {g : Pts} {L : List (Int × Int)} (h : gradeOk g L = true) {q n : Int} (hq : 0 ≤ q ∧ q < 5) (hn : loP g q ≤ n ∧ n ≤ hiP g q) : gradeOk (atP g q n) L = true := by
  simp only [gradeOk, headB, inB, ptI, ptB, Bool.and_eq_true, decide_eq_true_eq] at h ⊢
  rcases (show q = 0 ∨ q = 1 ∨ q = 2 ∨ q = 3 ∨ q = 4 by omega) with rfl | rfl | rfl | rfl | rfl
  all_goals
    simp only [atP, loP, hiP, if_true, if_false, show ¬ (1 : Int) = 0 by decide, show ¬ (2 : Int) = 0 by decide, show ¬ (2 : Int) = 1 by decide, show ¬ (3 : Int) = 0 by decide, show ¬ (3 : Int) = 1 by decide, show ¬ (3 : Int) = 2 by decide, show ¬ (4 : Int) = 0 by decide, show ¬ (4 : Int) = 1 by decide, show ¬ (4 : Int) = 2 by decide, show ¬ (4 : Int) = 3 by decide] at hn ⊢
    refine ⟨h.1, h.2.1, ?_⟩
    omega
theorem SpanOf.uniq {F : B5 → Int} {B : B5 → Prop} {s t : Int × Int} (h : SpanOf F B s) (k : SpanOf F B t) : s = t := by
  obtain ⟨b, hb, e⟩ := h.lo
  obtain ⟨c, hc, e'⟩ := h.hi
  obtain ⟨b', hb', f⟩ := k.lo
  obtain ⟨c', hc', f'⟩ := k.hi
  have := h.all b' hb'; have := h.all c' hc'
  have := k.all b hb; have := k.all c hc
  obtain ⟨s1, s2⟩ := s
  obtain ⟨t1, t2⟩ := t
  simp only at *
  have : s1 = t1 := by omega
  have : s2 = t2 := by omega
  simp_all
theorem SpanOf.congr {F : B5 → Int} {B B' : B5 → Prop} {s : Int × Int} (h : SpanOf F B s) (e : ∀ b, B b ↔ B' b) : SpanOf F B' s :=
  ⟨fun b hb => h.all b ((e b).2 hb), h.lo.imp fun b hb => ⟨(e b).1 hb.1, hb.2⟩, h.hi.imp fun b hb => ⟨(e b).1 hb.1, hb.2⟩⟩
/-- What is known of off and varies. -/
def Fb (F : Int → Int → Int → Int → Int → Int) : Prop := ∀ a0 a1 a2 a3 a4, okI a0 → okI a1 → okI a2 → okI a3 → okI a4 → -40 ≤ F a0 a1 a2 a3 a4 ∧ F a0 a1 a2 a3 a4 ≤ 40
/-! ### errors -/
end Go.X.Gr
end
