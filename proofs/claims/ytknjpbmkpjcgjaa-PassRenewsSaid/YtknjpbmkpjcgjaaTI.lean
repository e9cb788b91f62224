/- PassRenews answers true for every certificates and all numbers, and its arguments read as before; no conditions. -/
import Derived.Test.YtknjpbmkpjcgjaaPC
import Derived.Test.YtknjpbmkpjcgjaaOH
import Derived.Test.YtknjpbmkpjcgjaaRows

section
set_option linter.unusedVariables false
set_option linter.unusedSimpArgs false
set_option linter.unusedSectionVars false
/- PassRenews answers true for every certificates and all numbers, and its arguments read as before; no conditions. -/
set_option linter.unusedVariables false
set_option linter.unusedSimpArgs false
set_option maxRecDepth 100000
set_option maxHeartbeats 1600000
namespace Go.X.Ps
open Go Go.Proofs Go.X Go.ChangeShapes Go.WideShapes Go.ChangeAt Go.RowKit

theorem opened5 {W : World} {base : Nat} {H : Type} {enc : TypeId × Value → H} {args : Array Value} {ds : List (DataW H)} {p : List MemPlace} (hval : ∀ (j : Nat) t v, Try.f5.params[j]? = some t → args[j]? = some v → Value.okWide Try.prog W .any base t v)
    (hA : DataW.TrodAll enc Try.prog W 0 (fun _ => true) true Try.f5.params.toList args.toList ds p) : Opened Try.prog 5 W args.toList := by
  have e : Try.f5.params = #[24, 3, 3] := by kernel_rfl
  rw [e] at hval hA
  obtain ⟨v0, vs0, d0, ds0, p0, q0, hargs, rfl, rfl, h0, r0⟩ := trodAll_cons hA
  obtain ⟨v1, vs1, d1, ds1, p1, q1, rfl, rfl, rfl, h1, r1⟩ := trodAll_cons r0
  obtain ⟨v2, vs2, d2, ds2, p2, q2, rfl, rfl, rfl, h2, r2⟩ := trodAll_cons r1
  obtain ⟨rfl, rfl, rfl⟩ := trodAll_nil r2
  obtain rfl : args = #[v0, v1, v2] := by cases args; simp_all
  obtain ⟨a, n, cap, rd, it, ag, rfl, hn, hb⟩ := open_pass (hval 0 24 v0 rfl rfl) h0
  obtain ⟨x1, rfl, w1⟩ := open_num und3 (hval 1 3 v1 rfl rfl) h1
  obtain ⟨x2, rfl, w2⟩ := open_num und3 (hval 2 3 v2 rfl rfl) h2
  exact opened_ps (k5 good0) hb (r := [.si .i64 x1, .si .i64 x2]) (fun ρ => by simp [denL, den, Value.oneCell', ppC]) (p := _) rfl (pps_i _ _)

theorem lifted5 (os : Os) (started : os.Started) (H : Type) (enc : TypeId × Value → H) :
    ReturnsInHanded {} Try.checked os 5 .any (Ytknjpbmkpjcgjaa.Rows.passRenewsSpec.pre6 enc Try.prog Try.f5 Ytknjpbmkpjcgjaa.Rows.passRenewsRow.domain false) (Ytknjpbmkpjcgjaa.Rows.passRenewsSpec.post enc Try.prog Try.f5 false true false false) := by
  refine row_of (C := Try.checked) laidOut own started (by kernel_rfl) Try.func5 (tb := 4)
    (ChangeSpec.witness6 (enc := enc) (C := Try.checked) false ⟨#[], #[.agg #[.int .i64 0, .int .i64 0, .slice none 0 0], .int .i64 0, .int .i64 0], []⟩ 8 (by kernel_rfl) (by kernel_rfl) (by kernel_rfl) (by kernel_rfl))
    rfl (by kernel_rfl) (by kernel_rfl) (by kernel_rfl) (fun ds hd => ?_) (fun W base args ds p hval hA => opened5 hval hA)
  match ds, hd with
  | [d0, d1, d2], _ => rfl

end Go.X.Ps

namespace Go.Proofs.Ytknjpbmkpjcgjaa
open Go Go.Proofs
theorem passRenews_proved : Rows.PassRenewsSaid :=
  OpenClaim.holds_of_wide 5 Try.f5 rfl rfl rfl rfl rfl rfl rfl ⟨rfl, rfl, rfl, rfl, rfl⟩ rfl rfl rfl rfl rfl (by kernel_rfl) Try.func5 (by kernel_rfl)
    (of_decide_eq_true (by kernel_rfl)) (by unfold Func.isWrapper; rw [if_neg (of_decide_eq_false (by kernel_rfl))]; exact ⟨rfl, rfl⟩)
    (fun os st H enc _ => Go.X.Ps.lifted5 os st H enc)
#print axioms passRenews_proved
end Go.Proofs.Ytknjpbmkpjcgjaa
end
