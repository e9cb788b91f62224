/- GradeClash answers true for every grade, and its argument reads as before; no conditions. -/
import Derived.Test.YtafggknckgmkaaaNL
import Derived.Test.YtafggknckgmkaaaNF
import Derived.Test.YtafggknckgmkaaaRows

section
set_option linter.unusedVariables false
set_option linter.unusedSimpArgs false
set_option linter.unusedSectionVars false
/- GradeClash answers true for every grade, and its argument reads as before; no conditions. -/
set_option linter.unusedVariables false
set_option linter.unusedSimpArgs false
set_option maxRecDepth 100000
set_option maxHeartbeats 1600000
namespace Go.X.Gr
open Go Go.Proofs Go.X Go.ChangeShapes Go.WideShapes Go.ChangeAt Go.RowKit

theorem opened11 {W : World} {base : Nat} {H : Type} {enc : TypeId × Value → H} {args : Array Value} {ds : List (DataW H)} {p : List MemPlace} (hval : ∀ (j : Nat) t v, Try.f11.params[j]? = some t → args[j]? = some v → Value.okWide Try.prog W .any base t v)
    (hA : DataW.TrodAll enc Try.prog W 0 (fun _ => true) true Try.f11.params.toList args.toList ds p) : Opened Try.prog 11 W args.toList := by
  have e : Try.f11.params = #[27] := by kernel_rfl
  rw [e] at hval hA
  obtain ⟨v0, vs0, d0, ds0, p0, q0, hargs, rfl, rfl, h0, r0⟩ := trodAll_cons hA
  obtain ⟨rfl, rfl, rfl⟩ := trodAll_nil r0
  obtain rfl : args = #[v0] := by cases args; simp_all
  obtain ⟨a, n, cap, rd, g, rfl, hn, hb⟩ := open_grade (hval 0 27 v0 rfl rfl) h0
  exact opened_gr (k11 good0) hb (r := []) (fun ρ => by simp [denL, den, Value.oneCell']) (p := _) rfl (lims_rd _ _)

theorem lifted11 (os : Os) (started : os.Started) (H : Type) (enc : TypeId × Value → H) :
    ReturnsInHanded {} Try.checked os 11 .any (Ytafggknckgmkaaa.Rows.gradeClashSpec.pre6 enc Try.prog Try.f11 Ytafggknckgmkaaa.Rows.gradeClashRow.domain false) (Ytafggknckgmkaaa.Rows.gradeClashSpec.post enc Try.prog Try.f11 false true false false) := by
  refine row_of (C := Try.checked) laidOut own started (by kernel_rfl) Try.func11 (tb := 4)
    (ChangeSpec.witness6 (enc := enc) (C := Try.checked) false ⟨#[], #[.agg #[.slice none 0 0, .int .i64 0, .int .i64 0, .int .i64 0, .int .i64 0, .int .i64 0, .int .i64 0, .int .i64 0, .int .i64 0, .int .i64 0, .int .i64 0, .int .i64 0]], []⟩ 8 (by kernel_rfl) (by kernel_rfl) (by kernel_rfl) (by kernel_rfl))
    rfl (by kernel_rfl) (by kernel_rfl) (by kernel_rfl) (fun ds hd => ?_) (fun W base args ds p hval hA => opened11 hval hA)
  match ds, hd with
  | [d0], _ => rfl

end Go.X.Gr

namespace Go.Proofs.Ytafggknckgmkaaa
open Go Go.Proofs
theorem gradeClash_proved : Rows.GradeClashSaid :=
  OpenClaim.holds_of_wide 11 Try.f11 rfl rfl rfl rfl rfl rfl rfl ⟨rfl, rfl, rfl, rfl, rfl⟩ rfl rfl rfl rfl rfl (by kernel_rfl) Try.func11 (by kernel_rfl)
    (of_decide_eq_true (by kernel_rfl)) (by unfold Func.isWrapper; rw [if_neg (of_decide_eq_false (by kernel_rfl))]; exact ⟨rfl, rfl⟩)
    (fun os st H enc _ => Go.X.Gr.lifted11 os st H enc)
#print axioms gradeClash_proved
end Go.Proofs.Ytafggknckgmkaaa
end
