/- GradeTrue answers true for every list of numbers, and its argument reads as before; no conditions. -/
import Derived.Test.YtafggknckgmkaaaNU
import Derived.Test.YtafggknckgmkaaaNF
import Derived.Test.YtafggknckgmkaaaNT
import Derived.Test.YtafggknckgmkaaaRows

section
set_option linter.unusedVariables false
set_option linter.unusedSimpArgs false
set_option linter.unusedSectionVars false
/- GradeTrue answers true for every list of numbers, and its argument reads as before; no conditions. -/
set_option linter.unusedVariables false
set_option linter.unusedSimpArgs false
set_option maxRecDepth 100000
set_option maxHeartbeats 1600000
namespace Go.X.Gr
open Go Go.Proofs Go.X Go.ChangeShapes Go.WideShapes Go.ChangeAt Go.RowKit

theorem opened6 {W : World} {base : Nat} {H : Type} {enc : TypeId × Value → H} {args : Array Value} {ds : List (DataW H)} {p : List MemPlace} (hval : ∀ (j : Nat) t v, Try.f6.params[j]? = some t → args[j]? = some v → Value.okWide Try.prog W .any base t v)
    (hA : DataW.TrodAll enc Try.prog W 0 (fun _ => true) true Try.f6.params.toList args.toList ds p) : Opened Try.prog 6 W args.toList := by
  have e : Try.f6.params = #[42] := by kernel_rfl
  rw [e] at hval hA
  obtain ⟨v0, vs0, d0, ds0, p0, q0, hargs, rfl, rfl, h0, r0⟩ := trodAll_cons hA
  obtain ⟨rfl, rfl, rfl⟩ := trodAll_nil r0
  obtain rfl : args = #[v0] := by cases args; simp_all
  obtain ⟨a', m, cap', f, rfl, hm, hf, hb'⟩ := open_u16s (hval 0 42 v0 rfl rfl) h0
  exact opened_sl (k6 good0) hb' (p := _) rfl ⟨hm, fun i hi => ⟨rfl, hf i hi⟩⟩

theorem lifted6 (os : Os) (started : os.Started) (H : Type) (enc : TypeId × Value → H) :
    ReturnsInHanded {} Try.checked os 6 .any (Ytafggknckgmkaaa.Rows.gradeTrueSpec.pre6 enc Try.prog Try.f6 Ytafggknckgmkaaa.Rows.gradeTrueRow.domain false) (Ytafggknckgmkaaa.Rows.gradeTrueSpec.post enc Try.prog Try.f6 false true false false) := by
  refine row_of (C := Try.checked) laidOut own started (by kernel_rfl) Try.func6 (tb := 4)
    (ChangeSpec.witness6 (enc := enc) (C := Try.checked) false ⟨#[], #[.slice none 0 0], []⟩ 8 (by kernel_rfl) (by kernel_rfl) (by kernel_rfl) (by kernel_rfl))
    rfl (by kernel_rfl) (by kernel_rfl) (by kernel_rfl) (fun ds hd => ?_) (fun W base args ds p hval hA => opened6 hval hA)
  match ds, hd with
  | [d0], _ => rfl

end Go.X.Gr

namespace Go.Proofs.Ytafggknckgmkaaa
open Go Go.Proofs
theorem gradeTrue_proved : Rows.GradeTrueSaid :=
  OpenClaim.holds_of_wide 6 Try.f6 rfl rfl rfl rfl rfl rfl rfl ⟨rfl, rfl, rfl, rfl, rfl⟩ rfl rfl rfl rfl rfl (by kernel_rfl) Try.func6 (by kernel_rfl)
    (of_decide_eq_true (by kernel_rfl)) (by unfold Func.isWrapper; rw [if_neg (of_decide_eq_false (by kernel_rfl))]; exact ⟨rfl, rfl⟩)
    (fun os st H enc _ => Go.X.Gr.lifted6 os st H enc)
#print axioms gradeTrue_proved
end Go.Proofs.Ytafggknckgmkaaa
end
