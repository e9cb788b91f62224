/- Calls with some pieces of the heap alone; the greatest of three numbers; orders that come to what is not known. -/
import Derived.Test.YtknjpbmkpjcgjaaME

section
set_option linter.unusedVariables false
set_option linter.unusedSimpArgs false
set_option linter.unusedSectionVars false
/- Calls that are run through with some pieces of the heap alone. -/
set_option linter.unusedVariables false
set_option linter.unusedSimpArgs false
set_option maxRecDepth 10000
namespace Go.X
open Go

/-- Each piece of A has one in H' that stands for it. -/
def coverL (H' : List (Nat × HB)) : List (Nat × HB) → Bool
  | [] => true
  | (t, _) :: r => match findH H' t with
    | some _ => coverL H' r
    | none => false
theorem coverL_find {H' : List (Nat × HB)} : ∀ {A : List (Nat × HB)}, coverL H' A = true → ∀ t x, findH A t = some x → ∃ y, findH H' t = some y
  | (a, y) :: r, h, t, x, hf => by
    simp only [coverL] at h
    split at h
    · rename_i z hz
      by_cases e : a = t
      · subst e; exact ⟨z, hz⟩
      · rw [findH_skip e] at hf
        exact coverL_find h t x hf
    · cases h
/-- What is read only was so before. -/
def roSame (A : List (Nat × HB)) : List (Nat × HB) → Prop
  | [] => True
  | (t, .ro s n g) :: r => (match findH A t with
    | some (.ro _ m _) => n = m
    | _ => False) ∧ roSame A r
  | _ :: r => roSame A r
theorem roSame_find {A : List (Nat × HB)} : ∀ {H' : List (Nat × HB)}, roSame A H' → ∀ t s n g, findH H' t = some (.ro s n g) → ∃ s' g', findH A t = some (.ro s' n g')
  | (a, y) :: r, h, t, s, n, g, hf => by
    by_cases e : a = t
    · subst e
      rw [findH_cons, updL_self] at hf
      cases hf
      simp only [roSame] at h
      obtain ⟨h, _⟩ := h
      split at h
      · rename_i s2 m g2 hz
        subst h
        exact ⟨_, _, hz⟩
      · exact h.elim
    · rw [findH_skip e] at hf
      refine roSame_find (H' := r) ?_ t s n g hf
      cases y with
      | ro s2 n2 g2 => exact h.2
      | _ => exact h
end Go.X
end

section
set_option linter.unusedVariables false
set_option linter.unusedSimpArgs false
set_option linter.unusedSectionVars false
/- The greatest of three numbers; orders that come to what is not known. -/
set_option linter.unusedVariables false
set_option linter.unusedSimpArgs false
set_option maxRecDepth 10000
namespace Go.X
open Go
end Go.X
end
