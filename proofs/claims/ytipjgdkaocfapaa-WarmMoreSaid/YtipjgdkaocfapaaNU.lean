/- How a reading is opened. -/
import Derived.Test.YtipjgdkaocfapaaNK

section
set_option linter.unusedVariables false
set_option linter.unusedSimpArgs false
set_option linter.unusedSectionVars false
/- Warm: a reading opened. -/
set_option linter.unusedVariables false
set_option linter.unusedSimpArgs false
set_option linter.unusedSectionVars false
set_option maxRecDepth 100000
set_option maxHeartbeats 1600000
namespace Go.X.W
open Go Go.Proofs Go.X Go.ChangeShapes Go.WideShapes Go.ChangeAt Go.RowKit Go.Joins

theorem und41 : Try.prog.underlying 41 = some (.struct #[fld Try.prog 41 0, fld Try.prog 41 1]) := by kernel_rfl
theorem open_rdg {H : Type} {enc : TypeId × Value → H} {W : World} {base : Nat} {v : Value} {d : DataW H} {p : List MemPlace} (hv : Value.okWide Try.prog W .any base 41 v) (h : DataW.Trod enc Try.prog W 0 (fun _ => true) true 41 v d p) :
    ∃ a b c e : Int, v = .agg #[.int .i64 a, .int .i64 b, .int .i64 c, .int .i64 e] := by
  obtain ⟨cs, rfl, hsz⟩ := okWide_struct und41 hv
  obtain ⟨fuel, hf⟩ := h
  obtain ⟨ns, q1, q2, q3⟩ := trod_lay 4 41 _ fuel _ _ lay41 hf
  match ns, q1 with
  | [x, y, z, u], _ =>
    refine ⟨x, y, z, u, ?_⟩
    have q2 : cs.toList = [.int .i64 x, .int .i64 y, .int .i64 z, .int .i64 u] := q2
    congr 1
    exact Array.toList_inj.1 (by rw [q2])
end Go.X.W
end
