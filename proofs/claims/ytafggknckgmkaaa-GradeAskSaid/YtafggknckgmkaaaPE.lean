/- GradeAsk answers true for every grade and every number, and its arguments read as before; no conditions. -/
import Derived.Test.YtafggknckgmkaaaNO
import Derived.Test.YtafggknckgmkaaaNF
import Derived.Test.YtafggknckgmkaaaRows

section
set_option linter.unusedVariables false
set_option linter.unusedSimpArgs false
set_option linter.unusedSectionVars false
/- GradeAsk answers true for every grade and every number, and its arguments read as before; no conditions. -/
set_option linter.unusedVariables false
set_option linter.unusedSimpArgs false
set_option maxRecDepth 100000
set_option maxHeartbeats 1600000
namespace Go.X.Gr
open Go Go.Proofs Go.X Go.ChangeShapes Go.WideShapes Go.ChangeAt Go.RowKit

theorem opened10 {W : World} {base : Nat} {H : Type} {enc : TypeId × Value → H} {args : Array Value} {ds : List (DataW H)} {p : List MemPlace} (hval : ∀ (j : Nat) t v, Try.f10.params[j]? = some t → args[j]? = some v → Value.okWide Try.prog W .any base t v)
    (hA : DataW.TrodAll enc Try.prog W 0 (fun _ => true) true Try.f10.params.toList args.toList ds p) : Opened Try.prog 10 W args.toList := by
  have e : Try.f10.params = #[27, 5] := by kernel_rfl
  rw [e] at hval hA
  obtain ⟨v0, vs0, d0, ds0, p0, q0, hargs, rfl, rfl, h0, r0⟩ := trodAll_cons hA
  obtain ⟨v1, vs1, d1, ds1, p1, q1, rfl, rfl, rfl, h1, r1⟩ := trodAll_cons r0
  obtain ⟨rfl, rfl, rfl⟩ := trodAll_nil r1
  obtain rfl : args = #[v0, v1] := by cases args; simp_all
  obtain ⟨a, n, cap, rd, g, rfl, hn, hb⟩ := open_grade (hval 0 27 v0 rfl rfl) h0
  obtain ⟨x1, rfl, w1⟩ := open_num und5 (hval 1 5 v1 rfl rfl) h1
  have b1 := wf_u8 w1
  exact opened_gr (k10 good0) hb (r := [.si .u8 x1]) (fun ρ => by simp [denL, den, Value.oneCell']) (p := _) rfl ⟨lims_rd _ _, b1.1, b1.2⟩

theorem lifted10 (os : Os) (started : os.Started) (H : Type) (enc : TypeId × Value → H) :
    ReturnsInHanded {} Try.checked os 10 .any (Ytafggknckgmkaaa.Rows.gradeAskSpec.pre6 enc Try.prog Try.f10 Ytafggknckgmkaaa.Rows.gradeAskRow.domain false) (Ytafggknckgmkaaa.Rows.gradeAskSpec.post enc Try.prog Try.f10 false true false false) := by
  refine row_of (C := Try.checked) laidOut own started (by kernel_rfl) Try.func10 (tb := 4)
    (ChangeSpec.witness6 (enc := enc) (C := Try.checked) false ⟨#[], #[.agg #[.slice none 0 0, .int .i64 0, .int .i64 0, .int .i64 0, .int .i64 0, .int .i64 0, .int .i64 0, .int .i64 0, .int .i64 0, .int .i64 0, .int .i64 0, .int .i64 0], .int .u8 0], []⟩ 8 (by kernel_rfl) (by kernel_rfl) (by kernel_rfl) (by kernel_rfl))
    rfl (by kernel_rfl) (by kernel_rfl) (by kernel_rfl) (fun ds hd => ?_) (fun W base args ds p hval hA => opened10 hval hA)
  match ds, hd with
  | [d0, d1], _ => rfl

end Go.X.Gr

namespace Go.Proofs.Ytafggknckgmkaaa
open Go Go.Proofs
theorem gradeAsk_proved : Rows.GradeAskSaid :=
  OpenClaim.holds_of_wide 10 Try.f10 rfl rfl rfl rfl rfl rfl rfl ⟨rfl, rfl, rfl, rfl, rfl⟩ rfl rfl rfl rfl rfl (by kernel_rfl) Try.func10 (by kernel_rfl)
    (of_decide_eq_true (by kernel_rfl)) (by unfold Func.isWrapper; rw [if_neg (of_decide_eq_false (by kernel_rfl))]; exact ⟨rfl, rfl⟩)
    (fun os st H enc _ => Go.X.Gr.lifted10 os st H enc)
#print axioms gradeAsk_proved
end Go.Proofs.Ytafggknckgmkaaa
end
