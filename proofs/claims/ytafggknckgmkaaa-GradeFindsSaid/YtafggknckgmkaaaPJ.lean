/- GradeFinds answers true for every grade and every number, and its arguments read as before; no conditions. -/
import Derived.Test.YtafggknckgmkaaaOB
import Derived.Test.YtafggknckgmkaaaNF
import Derived.Test.YtafggknckgmkaaaNT
import Derived.Test.YtafggknckgmkaaaRows

section
set_option linter.unusedVariables false
set_option linter.unusedSimpArgs false
set_option linter.unusedSectionVars false
/- GradeFinds answers true for every grade and every number, and its arguments read as before; no conditions. -/
set_option linter.unusedVariables false
set_option linter.unusedSimpArgs false
set_option maxRecDepth 100000
set_option maxHeartbeats 1600000
namespace Go.X.Gr
open Go Go.Proofs Go.X Go.ChangeShapes Go.WideShapes Go.ChangeAt Go.RowKit

theorem opened4 {W : World} {base : Nat} {H : Type} {enc : TypeId × Value → H} {args : Array Value} {ds : List (DataW H)} {p : List MemPlace} (hval : ∀ (j : Nat) t v, Try.f4.params[j]? = some t → args[j]? = some v → Value.okWide Try.prog W .any base t v)
    (hA : DataW.TrodAll enc Try.prog W 0 (fun _ => true) true Try.f4.params.toList args.toList ds p) : Opened Try.prog 4 W args.toList := by
  have e : Try.f4.params = #[27, 3] := by kernel_rfl
  rw [e] at hval hA
  obtain ⟨v0, vs0, d0, ds0, p0, q0, hargs, rfl, rfl, h0, r0⟩ := trodAll_cons hA
  obtain ⟨v1, vs1, d1, ds1, p1, q1, rfl, rfl, rfl, h1, r1⟩ := trodAll_cons r0
  obtain ⟨rfl, rfl, rfl⟩ := trodAll_nil r1
  obtain rfl : args = #[v0, v1] := by cases args; simp_all
  obtain ⟨a, n, cap, rd, g, rfl, hn, hb⟩ := open_grade (hval 0 27 v0 rfl rfl) h0
  obtain ⟨x1, rfl, w1⟩ := open_num und3 (hval 1 3 v1 rfl rfl) h1
  exact opened_gr (k4 good0) hb (r := [.si .i64 x1]) (fun ρ => by simp [denL, den, Value.oneCell']) (p := Lims n _) rfl (lims_rd _ _)

theorem lifted4 (os : Os) (started : os.Started) (H : Type) (enc : TypeId × Value → H) :
    ReturnsInHanded {} Try.checked os 4 .any (Ytafggknckgmkaaa.Rows.gradeFindsSpec.pre6 enc Try.prog Try.f4 Ytafggknckgmkaaa.Rows.gradeFindsRow.domain false) (Ytafggknckgmkaaa.Rows.gradeFindsSpec.post enc Try.prog Try.f4 false true false false) := by
  refine row_of (C := Try.checked) laidOut own started (by kernel_rfl) Try.func4 (tb := 4)
    (ChangeSpec.witness6 (enc := enc) (C := Try.checked) false ⟨#[], #[.agg #[.slice none 0 0, .int .i64 0, .int .i64 0, .int .i64 0, .int .i64 0, .int .i64 0, .int .i64 0, .int .i64 0, .int .i64 0, .int .i64 0, .int .i64 0, .int .i64 0], .int .i64 0], []⟩ 8 (by kernel_rfl) (by kernel_rfl) (by kernel_rfl) (by kernel_rfl))
    rfl (by kernel_rfl) (by kernel_rfl) (by kernel_rfl) (fun ds hd => ?_) (fun W base args ds p hval hA => opened4 hval hA)
  match ds, hd with
  | [d0, d1], _ => rfl

end Go.X.Gr

namespace Go.Proofs.Ytafggknckgmkaaa
open Go Go.Proofs
theorem gradeFinds_proved : Rows.GradeFindsSaid :=
  OpenClaim.holds_of_wide 4 Try.f4 rfl rfl rfl rfl rfl rfl rfl ⟨rfl, rfl, rfl, rfl, rfl⟩ rfl rfl rfl rfl rfl (by kernel_rfl) Try.func4 (by kernel_rfl)
    (of_decide_eq_true (by kernel_rfl)) (by unfold Func.isWrapper; rw [if_neg (of_decide_eq_false (by kernel_rfl))]; exact ⟨rfl, rfl⟩)
    (fun os st H enc _ => Go.X.Gr.lifted4 os st H enc)
#print axioms gradeFinds_proved
end Go.Proofs.Ytafggknckgmkaaa
end
