/- A point that has been measured leaves the blocks that have it there; each number between two is that of a block. -/
import Derived.Test.YtafggknckgmkaaaNK
import Derived.Test.YtafggknckgmkaaaNI

section
set_option linter.unusedVariables false
set_option linter.unusedSimpArgs false
set_option linter.unusedSectionVars false
/- Grade: a point that has been measured leaves the blocks that have it there; each number between two is that of a block. -/
set_option linter.unusedVariables false
set_option linter.unusedSimpArgs false
set_option maxRecDepth 10000
set_option maxHeartbeats 4000000
namespace Go.X.Gr
open Go Go.Proofs Go.X

theorem SpanOf.uniq {F : B5 → Int} {B : B5 → Prop} {s t : Int × Int} (h : SpanOf F B s) (k : SpanOf F B t) : s = t := by
  obtain ⟨b, hb, e⟩ := h.lo
  obtain ⟨c, hc, e'⟩ := h.hi
  obtain ⟨b', hb', f⟩ := k.lo
  obtain ⟨c', hc', f'⟩ := k.hi
  have := h.all b' hb'; have := h.all c' hc'
  have := k.all b hb; have := k.all c hc
  obtain ⟨s1, s2⟩ := s
  obtain ⟨t1, t2⟩ := t
  simp only at *
  have : s1 = t1 := by omega
  have : s2 = t2 := by omega
  simp_all
theorem SpanOf.congr {F : B5 → Int} {B B' : B5 → Prop} {s : Int × Int} (h : SpanOf F B s) (e : ∀ b, B b ↔ B' b) : SpanOf F B' s :=
  ⟨fun b hb => h.all b ((e b).2 hb), h.lo.imp fun b hb => ⟨(e b).1 hb.1, hb.2⟩, h.hi.imp fun b hb => ⟨(e b).1 hb.1, hb.2⟩⟩
/-- What is known of off and varies. -/
def Fb (F : Int → Int → Int → Int → Int → Int) : Prop := ∀ a0 a1 a2 a3 a4, okI a0 → okI a1 → okI a2 → okI a3 → okI a4 → -40 ≤ F a0 a1 a2 a3 a4 ∧ F a0 a1 a2 a3 a4 ≤ 40
/-! ### errors -/
end Go.X.Gr
end
