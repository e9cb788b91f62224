/- StackReads answers true for every set of blocks, every number and every want, and its arguments read as before; no conditions. -/
import Derived.Test.YtacaohoiekglfaaNC
import Derived.Test.YtacaohoiekglfaaRows

section
set_option linter.unusedVariables false
set_option linter.unusedSimpArgs false
set_option linter.unusedSectionVars false
/- StackReads answers true for every set of blocks, every number and every want, and its arguments read as before; no conditions. -/
set_option linter.unusedVariables false
set_option linter.unusedSimpArgs false
set_option maxRecDepth 100000
set_option maxHeartbeats 1600000
namespace Go.X.S
open Go Go.Proofs Go.X Go.ChangeShapes Go.WideShapes Go.ChangeAt Go.RowKit

theorem opened3 {W : World} {base : Nat} {H : Type} {enc : TypeId × Value → H} {args : Array Value} {ds : List (DataW H)} {p : List MemPlace} (hval : ∀ (j : Nat) t v, Try.f3.params[j]? = some t → args[j]? = some v → Value.okWide Try.prog W .any base t v)
    (hA : DataW.TrodAll enc Try.prog W 0 (fun _ => true) true Try.f3.params.toList args.toList ds p) : Opened Try.prog 3 W args.toList := by
  have e : Try.f3.params = #[26, 3, 24] := by kernel_rfl
  rw [e] at hval hA
  obtain ⟨v0, v1, v2, d0, d1, d2, p0, p1, p2, rfl, rfl, rfl, h0, h1, h2⟩ := trodAll_three hA
  obtain ⟨a, n, cap, sp, lo, hi, rfl, _, _, _, hb⟩ := open_stack (hval 0 26 v0 rfl rfl) h0
  obtain ⟨x, rfl, _⟩ := open_num und3 (hval 1 3 v1 rfl rfl) h1
  obtain ⟨y, z, rfl, _, _⟩ := open_span (hval 2 24 v2 rfl rfl) h2
  exact opened_st (k3 good0) hb (r := [.si .i64 x, .agg [.si .i64 y, .si .i64 z]]) rfl (fun ρ => by simp [denL, den, Value.oneCell']) (p := none) rfl trivial

theorem lifted3 (os : Os) (started : os.Started) (H : Type) (enc : TypeId × Value → H) :
    ReturnsInHanded {} Try.checked os 3 .any (Ytacaohoiekglfaa.Rows.stackReadsSpec.pre6 enc Try.prog Try.f3 Ytacaohoiekglfaa.Rows.stackReadsRow.domain false) (Ytacaohoiekglfaa.Rows.stackReadsSpec.post enc Try.prog Try.f3 false true false false) := by
  refine row_of (C := Try.checked) laidOut own started (by kernel_rfl) Try.func3 (tb := 4)
    (ChangeSpec.witness6 (enc := enc) (C := Try.checked) false ⟨#[], #[.agg #[.slice none 0 0, .int .i64 0, .int .i64 0], .int .i64 0, .agg #[.int .i64 0, .int .i64 0]], []⟩ 8 (by kernel_rfl) (by kernel_rfl) (by kernel_rfl) (by kernel_rfl))
    rfl (by kernel_rfl) (by kernel_rfl) (by kernel_rfl) (fun ds hd => ?_) (fun W base args ds p hval hA => opened3 hval hA)
  match ds, hd with
  | [d0, d1, d2], _ => rfl

end Go.X.S

namespace Go.Proofs.Ytacaohoiekglfaa
open Go Go.Proofs
theorem stackReads_proved : Rows.StackReadsSaid :=
  OpenClaim.holds_of_wide 3 Try.f3 rfl rfl rfl rfl rfl rfl rfl ⟨rfl, rfl, rfl, rfl, rfl⟩ rfl rfl rfl rfl rfl (by kernel_rfl) Try.func3 (by kernel_rfl)
    (of_decide_eq_true (by kernel_rfl)) (by unfold Func.isWrapper; rw [if_neg (of_decide_eq_false (by kernel_rfl))]; exact ⟨rfl, rfl⟩)
    (fun os st H enc _ => Go.X.S.lifted3 os st H enc)
#print axioms stackReads_proved
end Go.Proofs.Ytacaohoiekglfaa
end
