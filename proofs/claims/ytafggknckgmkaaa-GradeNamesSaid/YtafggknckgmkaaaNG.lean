/- The walk of GradeNames. -/
import Derived.Test.YtafggknckgmkaaaNE

section
set_option linter.unusedVariables false
set_option linter.unusedSimpArgs false
set_option linter.unusedSectionVars false
/- Grade: GradeNames. -/
set_option linter.unusedVariables false
set_option linter.unusedSimpArgs false
set_option maxRecDepth 10000
set_option maxHeartbeats 4000000
namespace Go.X.Gr
open Go Go.Proofs Go.X

theorem k5 {l : List (Nat × Ct)} (g0 : Good P T l) : COk P 5 c14 := by
  have g := g14 (g32 (g31 (g15 (g17 (g23 (g25 (g29 good0)))))))
  refine cok (C := tabC _) g.ok Try.func5 (c := code Try.f5) rfl fun fr args H out h hp => ?_
  simp only [c14, plainCt] at h
  split at h
  · cases h
    refine walk_plain rfl (Nat.le_of_ble_eq_true rfl) fun G hG => ?_
    refine Chk.mk ⟨smp_lims, by decide⟩ ?_
    refine Chk.mk ⟨smp_lims, by decide⟩ ?_
    refine Chk.mk ⟨smp_lims, by decide⟩ ?_
    refine Chk.mk ⟨smp_lims, by decide⟩ ?_
    refine Chk.mk ⟨smp_lims, by decide⟩ ?_
    refine (show SemC _ _ _ _ from ?_)
    refine weaken (g.ok _ _ _) (st' := ⟨[(1, ⟨[], .sp 4 0⟩), (2, ⟨[], .si .i64 0⟩), (3, ⟨[], .si .i64 2⟩), (4, ⟨[], .si .i64 0⟩), (5, ⟨[], .si .i64 20⟩), (6, ⟨[], .si .i64 0⟩), (9, ⟨[], .si .i64 4⟩), (11, ⟨[], .si .i64 10⟩)], [],
      [(4, .cells 24 [.si .i64 0, .si .i64 1])], 48, []⟩) 0 (fun j => j) hG ⟨⟨⟨⟨rfl, rfl⟩, rfl⟩, ⟨⟨rfl, (congrArg (fun x : (Int × Int) × Int => x.2) al_pt4)⟩, rfl⟩, ⟨⟨rfl, (congrArg (fun x : Int × Int => x.1) al_su2)⟩, rfl⟩, ⟨⟨rfl, (congrArg (fun x : Int × Int => x.2) al_su2)⟩, rfl⟩, ⟨⟨rfl, (congrArg (fun x : Int × Int => x.1) al_lap1)⟩, rfl⟩, ⟨⟨rfl, (congrArg (fun x : Int × Int => x.2) al_lap1)⟩, rfl⟩, ⟨⟨rfl, (congrArg (fun x : Int × Int × Int => x.2.2) al_cl2)⟩, rfl⟩, ⟨⟨rfl, al_var2⟩, rfl⟩, trivial⟩,
      ⟨⟨⟨rfl, ⟨⟨rfl, (congrArg (fun x : (Int × Int) × Int => x.1.1) al_pt4)⟩, ⟨rfl, (congrArg (fun x : (Int × Int) × Int => x.1.2) al_pt4)⟩, trivial⟩, rfl⟩, rfl⟩, trivial⟩, rfl, rfl, rfl, rfl, trivial⟩ ?_
    refine drawn_ok (g.ok _ _ _) fol [0,1,3,7,15,15,63,127,255,511,1023,2047,4095,8191,16383,32767,65535,131071,262143,524287,1048575,2097151,4194303,8388607,16777215,33554431,67108863,134217727,268435455,536870911,1073741823,2147483647,4294967295,8589934591,17179869183,34359738367,68719476735] [] 37 (by kernel_rfl) ?_
    exact ⟨.inl rfl, end_plain rfl rfl rfl⟩
  · cases h
theorem g5 {l : List (Nat × Ct)} (g : Good P T l) : Good P T ((5, c14) :: l) := g.add (k5 g) (plainCt_mono _) (body_of Try.func5 (c := code Try.f5) rfl (by decide))
end Go.X.Gr
end
