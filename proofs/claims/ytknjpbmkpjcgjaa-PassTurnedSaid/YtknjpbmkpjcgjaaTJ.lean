/- PassTurned answers true for every certificates and all numbers, and its arguments read as before; no conditions. -/
import Derived.Test.YtknjpbmkpjcgjaaPE
import Derived.Test.YtknjpbmkpjcgjaaOH
import Derived.Test.YtknjpbmkpjcgjaaRows

section
set_option linter.unusedVariables false
set_option linter.unusedSimpArgs false
set_option linter.unusedSectionVars false
/- PassTurned answers true for every certificates and all numbers, and its arguments read as before; no conditions. -/
set_option linter.unusedVariables false
set_option linter.unusedSimpArgs false
set_option maxRecDepth 100000
set_option maxHeartbeats 1600000
namespace Go.X.Ps
open Go Go.Proofs Go.X Go.ChangeShapes Go.WideShapes Go.ChangeAt Go.RowKit

theorem opened12 {W : World} {base : Nat} {H : Type} {enc : TypeId × Value → H} {args : Array Value} {ds : List (DataW H)} {p : List MemPlace} (hval : ∀ (j : Nat) t v, Try.f12.params[j]? = some t → args[j]? = some v → Value.okWide Try.prog W .any base t v)
    (hA : DataW.TrodAll enc Try.prog W 0 (fun _ => true) true Try.f12.params.toList args.toList ds p) : Opened Try.prog 12 W args.toList := by
  have e : Try.f12.params = #[24, 5, 5, 5] := by kernel_rfl
  rw [e] at hval hA
  obtain ⟨v0, vs0, d0, ds0, p0, q0, hargs, rfl, rfl, h0, r0⟩ := trodAll_cons hA
  obtain ⟨v1, vs1, d1, ds1, p1, q1, rfl, rfl, rfl, h1, r1⟩ := trodAll_cons r0
  obtain ⟨v2, vs2, d2, ds2, p2, q2, rfl, rfl, rfl, h2, r2⟩ := trodAll_cons r1
  obtain ⟨v3, vs3, d3, ds3, p3, q3, rfl, rfl, rfl, h3, r3⟩ := trodAll_cons r2
  obtain ⟨rfl, rfl, rfl⟩ := trodAll_nil r3
  obtain rfl : args = #[v0, v1, v2, v3] := by cases args; simp_all
  obtain ⟨a, n, cap, rd, it, ag, rfl, hn, hb⟩ := open_pass (hval 0 24 v0 rfl rfl) h0
  obtain ⟨x1, rfl, w1⟩ := open_num und5 (hval 1 5 v1 rfl rfl) h1
  have b1 := wf_u8 w1
  obtain ⟨x2, rfl, w2⟩ := open_num und5 (hval 2 5 v2 rfl rfl) h2
  have b2 := wf_u8 w2
  obtain ⟨x3, rfl, w3⟩ := open_num und5 (hval 3 5 v3 rfl rfl) h3
  have b3 := wf_u8 w3
  exact opened_ps (k12 good0) hb (r := [.si .u8 x1, .si .u8 x2, .si .u8 x3]) (fun ρ => by simp [denL, den, Value.oneCell', ppC]) (p := _) rfl ⟨pps_i _ _, b1, b2, b3⟩

theorem lifted12 (os : Os) (started : os.Started) (H : Type) (enc : TypeId × Value → H) :
    ReturnsInHanded {} Try.checked os 12 .any (Ytknjpbmkpjcgjaa.Rows.passTurnedSpec.pre6 enc Try.prog Try.f12 Ytknjpbmkpjcgjaa.Rows.passTurnedRow.domain false) (Ytknjpbmkpjcgjaa.Rows.passTurnedSpec.post enc Try.prog Try.f12 false true false false) := by
  refine row_of (C := Try.checked) laidOut own started (by kernel_rfl) Try.func12 (tb := 4)
    (ChangeSpec.witness6 (enc := enc) (C := Try.checked) false ⟨#[], #[.agg #[.int .i64 0, .int .i64 0, .slice none 0 0], .int .u8 0, .int .u8 0, .int .u8 0], []⟩ 8 (by kernel_rfl) (by kernel_rfl) (by kernel_rfl) (by kernel_rfl))
    rfl (by kernel_rfl) (by kernel_rfl) (by kernel_rfl) (fun ds hd => ?_) (fun W base args ds p hval hA => opened12 hval hA)
  match ds, hd with
  | [d0, d1, d2, d3], _ => rfl

end Go.X.Ps

namespace Go.Proofs.Ytknjpbmkpjcgjaa
open Go Go.Proofs
theorem passTurned_proved : Rows.PassTurnedSaid :=
  OpenClaim.holds_of_wide 12 Try.f12 rfl rfl rfl rfl rfl rfl rfl ⟨rfl, rfl, rfl, rfl, rfl⟩ rfl rfl rfl rfl rfl (by kernel_rfl) Try.func12 (by kernel_rfl)
    (of_decide_eq_true (by kernel_rfl)) (by unfold Func.isWrapper; rw [if_neg (of_decide_eq_false (by kernel_rfl))]; exact ⟨rfl, rfl⟩)
    (fun os st H enc _ => Go.X.Ps.lifted12 os st H enc)
#print axioms passTurned_proved
end Go.Proofs.Ytknjpbmkpjcgjaa
end
