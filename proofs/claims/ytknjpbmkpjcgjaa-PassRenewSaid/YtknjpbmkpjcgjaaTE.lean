/- PassRenew answers true for every certificates and all numbers, and its arguments read as before; no conditions. -/
import Derived.Test.YtknjpbmkpjcgjaaOQ
import Derived.Test.YtknjpbmkpjcgjaaOH
import Derived.Test.YtknjpbmkpjcgjaaRows

section
set_option linter.unusedVariables false
set_option linter.unusedSimpArgs false
set_option linter.unusedSectionVars false
/- PassRenew answers true for every certificates and all numbers, and its arguments read as before; no conditions. -/
set_option linter.unusedVariables false
set_option linter.unusedSimpArgs false
set_option maxRecDepth 100000
set_option maxHeartbeats 1600000
namespace Go.X.Ps
open Go Go.Proofs Go.X Go.ChangeShapes Go.WideShapes Go.ChangeAt Go.RowKit

theorem opened10 {W : World} {base : Nat} {H : Type} {enc : TypeId × Value → H} {args : Array Value} {ds : List (DataW H)} {p : List MemPlace} (hval : ∀ (j : Nat) t v, Try.f10.params[j]? = some t → args[j]? = some v → Value.okWide Try.prog W .any base t v)
    (hA : DataW.TrodAll enc Try.prog W 0 (fun _ => true) true Try.f10.params.toList args.toList ds p) : Opened Try.prog 10 W args.toList := by
  have e : Try.f10.params = #[24, 5, 5, 5, 5] := by kernel_rfl
  rw [e] at hval hA
  obtain ⟨v0, vs0, d0, ds0, p0, q0, hargs, rfl, rfl, h0, r0⟩ := trodAll_cons hA
  obtain ⟨v1, vs1, d1, ds1, p1, q1, rfl, rfl, rfl, h1, r1⟩ := trodAll_cons r0
  obtain ⟨v2, vs2, d2, ds2, p2, q2, rfl, rfl, rfl, h2, r2⟩ := trodAll_cons r1
  obtain ⟨v3, vs3, d3, ds3, p3, q3, rfl, rfl, rfl, h3, r3⟩ := trodAll_cons r2
  obtain ⟨v4, vs4, d4, ds4, p4, q4, rfl, rfl, rfl, h4, r4⟩ := trodAll_cons r3
  obtain ⟨rfl, rfl, rfl⟩ := trodAll_nil r4
  obtain rfl : args = #[v0, v1, v2, v3, v4] := by cases args; simp_all
  obtain ⟨a, n, cap, rd, it, ag, rfl, hn, hb⟩ := open_pass (hval 0 24 v0 rfl rfl) h0
  obtain ⟨x1, rfl, w1⟩ := open_num und5 (hval 1 5 v1 rfl rfl) h1
  have b1 := wf_u8 w1
  obtain ⟨x2, rfl, w2⟩ := open_num und5 (hval 2 5 v2 rfl rfl) h2
  have b2 := wf_u8 w2
  obtain ⟨x3, rfl, w3⟩ := open_num und5 (hval 3 5 v3 rfl rfl) h3
  have b3 := wf_u8 w3
  obtain ⟨x4, rfl, w4⟩ := open_num und5 (hval 4 5 v4 rfl rfl) h4
  have b4 := wf_u8 w4
  exact opened_ps (k10 good0) hb (r := [.si .u8 x1, .si .u8 x2, .si .u8 x3, .si .u8 x4]) (fun ρ => by simp [denL, den, Value.oneCell', ppC]) (p := _) rfl ⟨pps_i _ _, b1, b2, b3, b4⟩

theorem lifted10 (os : Os) (started : os.Started) (H : Type) (enc : TypeId × Value → H) :
    ReturnsInHanded {} Try.checked os 10 .any (Ytknjpbmkpjcgjaa.Rows.passRenewSpec.pre6 enc Try.prog Try.f10 Ytknjpbmkpjcgjaa.Rows.passRenewRow.domain false) (Ytknjpbmkpjcgjaa.Rows.passRenewSpec.post enc Try.prog Try.f10 false true false false) := by
  refine row_of (C := Try.checked) laidOut own started (by kernel_rfl) Try.func10 (tb := 4)
    (ChangeSpec.witness6 (enc := enc) (C := Try.checked) false ⟨#[], #[.agg #[.int .i64 0, .int .i64 0, .slice none 0 0], .int .u8 0, .int .u8 0, .int .u8 0, .int .u8 0], []⟩ 8 (by kernel_rfl) (by kernel_rfl) (by kernel_rfl) (by kernel_rfl))
    rfl (by kernel_rfl) (by kernel_rfl) (by kernel_rfl) (fun ds hd => ?_) (fun W base args ds p hval hA => opened10 hval hA)
  match ds, hd with
  | [d0, d1, d2, d3, d4], _ => rfl

end Go.X.Ps

namespace Go.Proofs.Ytknjpbmkpjcgjaa
open Go Go.Proofs
theorem passRenew_proved : Rows.PassRenewSaid :=
  OpenClaim.holds_of_wide 10 Try.f10 rfl rfl rfl rfl rfl rfl rfl ⟨rfl, rfl, rfl, rfl, rfl⟩ rfl rfl rfl rfl rfl (by kernel_rfl) Try.func10 (by kernel_rfl)
    (of_decide_eq_true (by kernel_rfl)) (by unfold Func.isWrapper; rw [if_neg (of_decide_eq_false (by kernel_rfl))]; exact ⟨rfl, rfl⟩)
    (fun os st H enc _ => Go.X.Ps.lifted10 os st H enc)
#print axioms passRenew_proved
end Go.Proofs.Ytknjpbmkpjcgjaa
end
