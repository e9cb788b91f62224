/- Many branches that come to one loop. -/
import Derived.Test.YtknjpbmkpjcgjaaMF

section
set_option linter.unusedVariables false
set_option linter.unusedSimpArgs false
set_option linter.unusedSectionVars false
/- Many branches that come to one loop, with what they have found. -/
set_option linter.unusedVariables false
set_option linter.unusedSimpArgs false
set_option maxRecDepth 10000
namespace Go.X
open Go
/-- What follows is looked at once, for all that branches may have found. -/
theorem join_all {ι : Type} {X : Cx} {c : Code} {K : Ex → St → Prop} {goal : Prop} (hX : X.Ok) (stC : ι → St) (ha : (∀ x, SemC X c (stC x) K) → goal) (h : ∀ x, exec X c (stC x) K) : goal :=
  ha fun x => exec_ok hX c _ _ (h x)
theorem sem_weaken {X : Cx} {c : Code} {K : Ex → St → Prop} {st st' : St} (n0 : Nat) (s : Nat → Nat) (hn : ∀ j, n0 ≤ j → X.G.ρ j = none) (hw : WeakR n0 s st st') (h : SemC X c st' K) : SemC X c st K :=
  fun ρ a w hm => h _ a w (hm.ren hw hn)
end Go.X
end
