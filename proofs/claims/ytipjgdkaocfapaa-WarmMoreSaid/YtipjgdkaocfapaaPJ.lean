/- WarmMore answers true for every block and all numbers, and its arguments read as before; no conditions. -/
import Derived.Test.YtipjgdkaocfapaaNT
import Derived.Test.YtipjgdkaocfapaaNU
import Derived.Test.YtipjgdkaocfapaaRows

section
set_option linter.unusedVariables false
set_option linter.unusedSimpArgs false
set_option linter.unusedSectionVars false
/- WarmMore answers true for every block and all numbers, and its arguments read as before; no conditions. -/
set_option linter.unusedVariables false
set_option linter.unusedSimpArgs false
set_option maxRecDepth 100000
set_option maxHeartbeats 1600000
namespace Go.X.W
open Go Go.Proofs Go.X Go.ChangeShapes Go.WideShapes Go.ChangeAt Go.RowKit

theorem opened13 {W : World} {base : Nat} {H : Type} {enc : TypeId × Value → H} {args : Array Value} {ds : List (DataW H)} {p : List MemPlace} (hval : ∀ (j : Nat) t v, Try.f13.params[j]? = some t → args[j]? = some v → Value.okWide Try.prog W .any base t v)
    (hA : DataW.TrodAll enc Try.prog W 0 (fun _ => true) true Try.f13.params.toList args.toList ds p) : Opened Try.prog 13 W args.toList := by
  have e : Try.f13.params = #[36, 41, 5, 5, 5, 26] := by kernel_rfl
  rw [e] at hval hA
  obtain ⟨v0, vs0, d0, ds0, p0, q0, hargs, rfl, rfl, h0, r0⟩ := trodAll_cons hA
  obtain ⟨v1, vs1, d1, ds1, p1, q1, rfl, rfl, rfl, h1, r1⟩ := trodAll_cons r0
  obtain ⟨v2, vs2, d2, ds2, p2, q2, rfl, rfl, rfl, h2, r2⟩ := trodAll_cons r1
  obtain ⟨v3, vs3, d3, ds3, p3, q3, rfl, rfl, rfl, h3, r3⟩ := trodAll_cons r2
  obtain ⟨v4, vs4, d4, ds4, p4, q4, rfl, rfl, rfl, h4, r4⟩ := trodAll_cons r3
  obtain ⟨v5, vs5, d5, ds5, p5, q5, rfl, rfl, rfl, h5, r5⟩ := trodAll_cons r4
  obtain ⟨rfl, rfl, rfl⟩ := trodAll_nil r5
  obtain rfl : args = #[v0, v1, v2, v3, v4, v5] := by cases args; simp_all
  obtain ⟨a, n, cap, rd, mk, l1, l2, c1, c2, rfl, hn, hb⟩ := open_warm (hval 0 36 v0 rfl rfl) h0
  obtain ⟨y1, y2, y3, y4, rfl⟩ := open_rdg (hval 1 41 v1 rfl rfl) h1
  obtain ⟨x2, rfl, w2⟩ := open_num und5 (hval 2 5 v2 rfl rfl) h2
  have b2 := wf_u8 w2
  obtain ⟨x3, rfl, w3⟩ := open_num und5 (hval 3 5 v3 rfl rfl) h3
  have b3 := wf_u8 w3
  obtain ⟨x4, rfl, w4⟩ := open_num und5 (hval 4 5 v4 rfl rfl) h4
  have b4 := wf_u8 w4
  obtain ⟨x5, rfl, w5⟩ := open_num und26 (hval 5 26 v5 rfl rfl) h5
  have b5 := wf_u16 w5
  exact opened_wm (k13 good0) hb (r := [.agg [.si .i64 y1, .si .i64 y2, .si .i64 y3, .si .i64 y4], .si .u8 x2, .si .u8 x3, .si .u8 x4, .si .u16 x5]) rfl (fun ρ => by simp [denL, den, Value.oneCell']) (p := _) rfl ⟨b2, b3, b4, b5⟩

theorem lifted13 (os : Os) (started : os.Started) (H : Type) (enc : TypeId × Value → H) :
    ReturnsInHanded {} Try.checked os 13 .any (Ytipjgdkaocfapaa.Rows.warmMoreSpec.pre6 enc Try.prog Try.f13 Ytipjgdkaocfapaa.Rows.warmMoreRow.domain false) (Ytipjgdkaocfapaa.Rows.warmMoreSpec.post enc Try.prog Try.f13 false true false false) := by
  refine row_of (C := Try.checked) laidOut own started (by kernel_rfl) Try.func13 (tb := 4)
    (ChangeSpec.witness6 (enc := enc) (C := Try.checked) false ⟨#[], #[.agg #[.int .i64 0, .int .i64 0, .int .i64 0, .int .i64 0, .int .i64 0, .slice none 0 0], .agg #[.int .i64 0, .int .i64 0, .int .i64 0, .int .i64 0], .int .u8 0, .int .u8 0, .int .u8 0, .int .u16 0], []⟩ 8 (by kernel_rfl) (by kernel_rfl) (by kernel_rfl) (by kernel_rfl))
    rfl (by kernel_rfl) (by kernel_rfl) (by kernel_rfl) (fun ds hd => ?_) (fun W base args ds p hval hA => opened13 hval hA)
  match ds, hd with
  | [d0, d1, d2, d3, d4, d5], _ => rfl

end Go.X.W

namespace Go.Proofs.Ytipjgdkaocfapaa
open Go Go.Proofs
theorem warmMore_proved : Rows.WarmMoreSaid :=
  OpenClaim.holds_of_wide 13 Try.f13 rfl rfl rfl rfl rfl rfl rfl ⟨rfl, rfl, rfl, rfl, rfl⟩ rfl rfl rfl rfl rfl (by kernel_rfl) Try.func13 (by kernel_rfl)
    (of_decide_eq_true (by kernel_rfl)) (by unfold Func.isWrapper; rw [if_neg (of_decide_eq_false (by kernel_rfl))]; exact ⟨rfl, rfl⟩)
    (fun os st H enc _ => Go.X.W.lifted13 os st H enc)
#print axioms warmMore_proved
end Go.Proofs.Ytipjgdkaocfapaa
end
