/- The walk of WarmProves. -/
import Derived.Test.YtipjgdkaocfapaaNE

section
set_option linter.unusedVariables false
set_option linter.unusedSimpArgs false
set_option linter.unusedSectionVars false
/- Warm: WarmProves answers true. -/
set_option linter.unusedVariables false
set_option linter.unusedSimpArgs false
set_option maxRecDepth 10000
set_option maxHeartbeats 4000000
namespace Go.X.W
open Go Go.Proofs Go.X

def c6 : Ct := wmCt fun B r => match r with
  | [] => some (none, .sb true)
  | _ => none
theorem k6 {l : List (Nat × Ct)} (g0 : Good P T l) : COk P 6 c6 := by
  have g := g23 (g24 (g37 (g38 good0)))
  refine cok (C := tabC _) g.ok Try.func6 (c := code Try.f6) rfl fun fr args H out h hp => wmWalk h hp fun mk l1 l2 c1 c2 n rd r p v Rv Rp hk hp hR => ?_
  split at hk
  · cases hk
    refine ⟨Nat.le_of_ble_eq_true rfl, fun G hG => ?_⟩
    refine Chk.mk ⟨rds_rd _ _, rfl, trivial⟩ ?_
    refine Br.mk (fun h => ?_) (fun h => ?_)
    · exact hR _ _ rfl rfl
    refine Chk.mk ⟨rds_rd _ _, rfl, trivial⟩ ?_
    refine Chk.mk ⟨rds_rd _ _, rfl, trivial⟩ ?_
    refine hR _ _ ?_ rfl
    show (_ : Bool) = true
    simp [clash_eq]
  · cases hk
theorem g6 {l : List (Nat × Ct)} (g : Good P T l) : Good P T ((6, c6) :: l) := g.add (k6 g) (wmCt_mono _) (body_of Try.func6 (c := code Try.f6) rfl (by decide))
end Go.X.W
end
