/- Helpers of the laws. -/
import Derived.Test.YtafggknckgmkaaaNE

section
set_option linter.unusedVariables false
set_option linter.unusedSimpArgs false
set_option linter.unusedSectionVars false
/- Grade: helpers of the laws: long, at, inside. -/
set_option linter.unusedVariables false
set_option linter.unusedSimpArgs false
set_option maxRecDepth 10000
set_option maxHeartbeats 4000000
namespace Go.X.Gr
open Go Go.Proofs Go.X

def c39 : Ct := fun fr args H => match args with
  | [.agg l] => gradeK H l fun i1 g n get => some ⟨some (Lims n get), none, .sb (decide ((n : Int) > 40)), []⟩
  | _ => none
theorem c39_mono : CtMono c39 := by
  intro fr args H H' out hH h
  unfold c39 at h ⊢
  split at h
  · exact gradeK_mono hH h
  · cases h
theorem k39 {l : List (Nat × Ct)} (g0 : Good P T l) : COk P 39 c39 := by
  have g := good0
  refine cok (C := tabC _) g.ok Try.func39 (c := code Try.f39) rfl fun fr args H out h hp => ?_
  unfold c39 at h
  split at h
  case h_2 => cases h
  rename_i l
  obtain ⟨i1, p, n, get, rfl, e1, h⟩ := gradeK_some h
  cases h
  have hs : Lims n get := hp
  have hh : Hand H [(i1, .ro 2 n fun i => liC (liAt get i))] := hand_one e1 (fun i => rfl) (fun i hi => (hs i hi).symm)
  refine ⟨[(i1, .ro 2 n fun i => liC (liAt get i))], [.agg (grA 0 p)], [(0, .ro 2 n fun i => liC (liAt get i))], 1, [], rfl, rfl, Nat.le_of_ble_eq_true rfl, hh, rfl, rfl, fun G hG => ?_⟩
  exact ⟨.inl rfl, end_noid rfl rfl rfl (by repeat' (first | exact trivial | exact rfl | (intro i hi; exact ⟨rfl, rfl⟩) | refine And.intro ?_ ?_))⟩
theorem g39 {l : List (Nat × Ct)} (g : Good P T l) : Good P T ((39, c39) :: l) := g.add (k39 g) c39_mono (body_of Try.func39 (c := code Try.f39) rfl (by decide))

/-- A point has been measured. -/
def atP (g : Pts) (q n : Int) : Pts := if q = 0 then { g with l0 := n, h0 := n } else if q = 1 then { g with l1 := n, h1 := n } else if q = 2 then { g with l2 := n, h2 := n } else if q = 3 then { g with l3 := n, h3 := n } else { g with l4 := n, h4 := n }
end Go.X.Gr
end
