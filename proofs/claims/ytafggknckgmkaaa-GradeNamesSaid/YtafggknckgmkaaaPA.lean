/- GradeNames answers true; no conditions. -/
import Derived.Test.YtafggknckgmkaaaNG
import Derived.Test.YtafggknckgmkaaaNF
import Derived.Test.YtafggknckgmkaaaRows

section
set_option linter.unusedVariables false
set_option linter.unusedSimpArgs false
set_option linter.unusedSectionVars false
/- GradeNames answers true; no conditions. -/
set_option linter.unusedVariables false
set_option linter.unusedSimpArgs false
set_option maxRecDepth 100000
set_option maxHeartbeats 1600000
namespace Go.X.Gr
open Go Go.Proofs Go.X Go.ChangeShapes Go.WideShapes Go.ChangeAt Go.RowKit

theorem opened5 {W : World} {H : Type} {enc : TypeId × Value → H} {args : Array Value} {ds : List (DataW H)} {p : List MemPlace}
    (hA : DataW.TrodAll enc Try.prog W 0 (fun _ => true) true Try.f5.params.toList args.toList ds p) : Opened Try.prog 5 W args.toList := by
  have e : Try.f5.params = #[] := by kernel_rfl
  rw [e] at hA
  obtain ⟨h1, rfl, rfl⟩ := trodAll_nil hA
  rw [h1]
  refine ⟨fun _ => none, fun _ => none, [], 0, c14, none, k5 good0, ?_, ?_, rfl, rfl, trivial⟩
  · intro id hb' hf
    cases hf
  · intro j hj
    rfl

theorem lifted5 (os : Os) (started : os.Started) (H : Type) (enc : TypeId × Value → H) :
    ReturnsInHanded {} Try.checked os 5 .any (Ytafggknckgmkaaa.Rows.gradeNamesSpec.pre6 enc Try.prog Try.f5 Ytafggknckgmkaaa.Rows.gradeNamesRow.domain false) (Ytafggknckgmkaaa.Rows.gradeNamesSpec.post enc Try.prog Try.f5 false true false false) := by
  refine row_of (C := Try.checked) laidOut own started (by kernel_rfl) Try.func5 (tb := 4)
    (ChangeSpec.witness6 (enc := enc) (C := Try.checked) false ⟨#[], #[], []⟩ 8 (by kernel_rfl) (by kernel_rfl) (by kernel_rfl) (by kernel_rfl))
    rfl (by kernel_rfl) (by kernel_rfl) (by kernel_rfl) (fun ds hd => ?_) (fun W base args ds p hval hA => opened5 hA)
  match ds, hd with
  | [], _ => rfl

end Go.X.Gr

namespace Go.Proofs.Ytafggknckgmkaaa
open Go Go.Proofs
theorem gradeNames_proved : Rows.GradeNamesSaid :=
  OpenClaim.holds_of_wide 5 Try.f5 rfl rfl rfl rfl rfl rfl rfl ⟨rfl, rfl, rfl, rfl, rfl⟩ rfl rfl rfl rfl rfl (by kernel_rfl) Try.func5 (by kernel_rfl)
    (of_decide_eq_true (by kernel_rfl)) (by unfold Func.isWrapper; rw [if_neg (of_decide_eq_false (by kernel_rfl))]; exact ⟨rfl, rfl⟩)
    (fun os st H enc _ => Go.X.Gr.lifted5 os st H enc)
#print axioms gradeNames_proved
end Go.Proofs.Ytafggknckgmkaaa
end
