/- Branches and orders that come together; deferred closures; what a range over a function yields to. -/
import Derived.Test.YtknjpbmkpjcgjaaMD

section
set_option linter.unusedVariables false
set_option linter.unusedSimpArgs false
set_option linter.unusedSectionVars false
/- Branches, and orders of a region, that come together again. -/
set_option linter.unusedVariables false
set_option linter.unusedSimpArgs false
set_option maxRecDepth 10000
namespace Go.X
open Go

theorem any_weaken {X : Cx} {st st' : St} {K : Ex → St → Prop} {ops : Array Oper} {fuel : Nat} {listed : Array Bool} (n0 : Nat) (s : Nat → Nat) (hn : ∀ j, n0 ≤ j → X.G.ρ j = none) (h : WeakR n0 s st st') (hk : AnyS X ops fuel listed st' K) : AnyS X ops fuel listed st K :=
  ⟨fun ρ a w hm => hk.h _ a w (hm.ren h hn)⟩
end Go.X
end

section
set_option linter.unusedVariables false
set_option linter.unusedSimpArgs false
set_option linter.unusedSectionVars false
/- Branches that come together at an operation. -/
set_option linter.unusedVariables false
set_option linter.unusedSimpArgs false
set_option maxRecDepth 10000
namespace Go.X
open Go

end Go.X
end

section
set_option linter.unusedVariables false
set_option linter.unusedSimpArgs false
set_option linter.unusedSectionVars false
/- Deferred closures that call recover, and hand what it gives to a function. -/
set_option linter.unusedVariables false
set_option linter.unusedSimpArgs false
set_option maxRecDepth 10000
namespace Go.X
open Go

section
variable {P : Program} {T : Tab} {C : Nat → Option Ct}
end
end Go.X
end

section
set_option linter.unusedVariables false
set_option linter.unusedSimpArgs false
set_option linter.unusedSectionVars false
/- Functions whose answer is a deferred closure; they may hold ranges over functions. -/
set_option linter.unusedVariables false
set_option linter.unusedSimpArgs false
set_option maxRecDepth 10000
namespace Go.X
open Go
section
variable {X : Cx} {st : St} {ρ : Env} {a : Act} {w : World}

end
end Go.X
end

section
set_option linter.unusedVariables false
set_option linter.unusedSimpArgs false
set_option linter.unusedSectionVars false
/- Fields without size; calls that end in one of several states. -/
set_option linter.unusedVariables false
set_option linter.unusedSimpArgs false
set_option maxRecDepth 10000
namespace Go.X
open Go
section
variable {X : Cx} {st : St}

end

/-- A call that comes to one of several states. -/
theorem callS_toE {ι : Type} {P : Program} {T : Tab} {C : Nat → Option Ct} (hX : ∀ G r nt, (⟨P, T, C, G, r, nt⟩ : Cx).Ok) {n : Nat} {fn : Func} {c : Code} (hf : P.funcs[n]? = some fn) (hb : fn.body = some c) {l : List SV} (hlen : l.length ≤ fn.ntmps)
    {H : List (Nat × HB)} {nx : Nat} {Rv : SV → List (Nat × HB) → Nat → Prop} {Rp : List PanicEntry → List (Nat × HB) → Nat → Prop} (v' : ι → SV) (H' : ι → List (Nat × HB)) (nx' : Nat)
    (h : ∀ G : Base, (∀ j, nx ≤ j → G.ρ j = none) → exec ⟨P, T, C, G, none, fn.ntmps⟩ c (start l H nx) (Fin ⟨P, T, C, G, none, fn.ntmps⟩ fn.results.toList (fun v st => ∃ x s, EndR nx v st.H st.nx (v' x) (H' x) nx' s) (fun _ _ => False)))
    (hk : ∀ x, Rv (v' x) (H' x) nx') : CallS P n l H nx Rv Rp := by
  intro ρ w vals hm hnx hd
  refine (callS_exec hX hf hb hlen (Rv := fun v H₁ nx₁ => ∃ x s, EndR nx v H₁ nx₁ (v' x) (H' x) nx' s) (Rp := fun _ _ _ => False) h ρ w vals hm hnx hd).mono ?_
  rintro e w' (⟨v, H₁, nx₁, ρ₁, u, rfl, h1, h2, h3, h4, x, s, hs⟩ | ⟨_, _, _, _, _, _, _, _, hF⟩)
  · have hm1 : Mod ⟨P, T, C, ⟨w, Own ρ (findH H), ρ, Fz (findH H)⟩, none, 0⟩ ρ₁ ⟨[], [], H₁, nx₁, []⟩ { tmps := #[], defers := [] } w' := {
      fm := fun t e hf => by cases hf
      gs := fun t e hf => by cases hf
      df := trivial
      hm := h2
      kp := h3
      nx := h4
      sz := rfl }
    have hm2 := hm1.ren (n0 := nx) (s := s) (st' := ⟨[], [], H' x, nx', []⟩) ⟨trivial, hs.H, hs.inj, hs.fix, hs.ge, rfl, trivial⟩ hnx
    exact .inl ⟨v' x, H' x, nx', _, u, rfl, by rw [den_envR _ hs.vi, ← SVeq_eq _ _ hs.v]; exact h1, hm2.hm, hm2.kp, hm2.nx, hk x⟩
  · exact hF.elim

end Go.X
end
