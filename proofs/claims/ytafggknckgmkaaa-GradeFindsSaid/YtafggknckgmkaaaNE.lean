/- The samples, and that alive answers true. -/
import Derived.Test.YtafggknckgmkaaaNB
import Derived.Test.YtafggknckgmkaaaND
import Derived.Test.YtafggknckgmkaaaNC

section
set_option linter.unusedVariables false
set_option linter.unusedSimpArgs false
set_option linter.unusedSectionVars false
/- Grade: the samples. -/
set_option linter.unusedVariables false
set_option linter.unusedSimpArgs false
set_option maxRecDepth 10000
set_option maxHeartbeats 4000000
namespace Go.X.Gr
open Go Go.Proofs Go.X

def c32 : Ct := plainCt fun
  | [.si .i64 a, .si .i64 b] => some ⟨none, none, .agg [.si .i64 a, .si .i64 b], []⟩
  | _ => none
theorem k32 {l : List (Nat × Ct)} (g0 : Good P T l) : COk P 32 c32 := by
  have g := good0
  refine cok (C := tabC _) g.ok Try.func32 (c := code Try.f32) rfl fun fr args H out h hp => ?_
  simp only [c32, plainCt] at h
  split at h
  · cases h
    refine walk_plain rfl (Nat.le_of_ble_eq_true rfl) fun G hG => ?_
    exact ⟨.inl rfl, end_plain ⟨⟨rfl, rfl⟩, ⟨rfl, rfl⟩, trivial⟩ rfl rfl⟩
  · cases h
theorem g32 {l : List (Nat × Ct)} (g : Good P T l) : Good P T ((32, c32) :: l) := g.add (k32 g) (plainCt_mono _) (body_of Try.func32 (c := code Try.f32) rfl (by decide))
def smpG : Bool → Pts
  | false => ⟨1, 1, 0, 2, 1, 3, 2, 4, 0, 1, 2⟩
  | true => ⟨2, 3, 0, 0, 1, 3, 5, 5, 3, 3, 2⟩
/-- The cells of the sample's limits. -/
def smpC : List SV := [.si .i64 2, .si .i64 1, .si .i64 4, .si .i64 3, .si .i64 8, .si .i64 6]
def c31 : Ct := fun fr args H => match args with
  | [.sb b] => some ⟨none, none, .agg (grA fr (smpG b)), [(fr, .row 51 2 3 smpC)]⟩
  | _ => none
theorem c31_mono : CtMono c31 := by
  intro fr args H H' out hH h
  unfold c31 at h ⊢
  split at h
  · exact h
  · cases h
theorem k31 {l : List (Nat × Ct)} (g0 : Good P T l) : COk P 31 c31 := by
  have g := g32 good0
  refine cok (C := tabC _) g.ok Try.func31 (c := code Try.f31) rfl fun fr args H out h hp => ?_
  unfold c31 at h
  split at h
  · rename_i b
    cases h
    refine ⟨[], [.sb b], [], 0, [1], rfl, rfl, Nat.le_of_ble_eq_true rfl, hand_nil H, rfl, rfl, fun G hG => ?_⟩
    refine Br.mk (fun h => ?_) (fun h => ?_)
    · obtain rfl : b = true := h
      refine ⟨.inl rfl, ⟨?_, ?_, ⟨rfl, ?_, trivial⟩, trivial, rfl, rfl⟩⟩
      all_goals repeat' (first | exact trivial | exact rfl | refine And.intro ?_ ?_)
    · obtain rfl : b = false := h
      refine ⟨.inl rfl, ⟨?_, ?_, ⟨rfl, ?_, trivial⟩, trivial, rfl, rfl⟩⟩
      all_goals repeat' (first | exact trivial | exact rfl | refine And.intro ?_ ?_)
  · cases h
theorem g31 {l : List (Nat × Ct)} (g : Good P T l) : Good P T ((31, c31) :: l) := g.add (k31 g) c31_mono (body_of Try.func31 (c := code Try.f31) rfl (by decide))
end Go.X.Gr
end

section
set_option linter.unusedVariables false
set_option linter.unusedSimpArgs false
set_option linter.unusedSectionVars false
/- Grade: what the samples of alive come to. -/
set_option linter.unusedVariables false
set_option linter.unusedSimpArgs false
set_option maxRecDepth 10000
set_option maxHeartbeats 4000000
namespace Go.X.Gr
open Go Go.Proofs Go.X

def smpLL : List (Int × Int) := limsL 3 fun i => takeL 2 (dropL (i * 2) smpC)
theorem al_pt : (resS (ptV 3) (smpG false) smpLL true, errS (ptV 3) (smpG false) smpLL true) = ((2, 3), 0) := by decide +kernel
theorem al_var : (resS varV (smpG false) smpLL true, errS varV (smpG false) smpLL true) = ((1, 3), 0) := by decide +kernel
theorem al_off : (resS offV (smpG false) smpLL true, errS offV (smpG false) smpLL true) = ((2, 3), 0) := by decide +kernel
theorem al_set : (resG (smpG false) smpLL true, errT (smpG false) smpLL true) = (3, 0) := by decide +kernel
theorem al_su0 : (resU (smpG false) smpLL 0, errT (smpG false) smpLL (isG smpLL 0)) = (1, 0) := by decide +kernel
theorem al_su1 : (resU (smpG false) smpLL 1, errT (smpG false) smpLL (isG smpLL 1)) = (2, 0) := by decide +kernel
theorem al_lap : resL (smpG false) smpLL 0 = (1, 0) := by decide +kernel
theorem al_ask : resA (smpG false) smpLL = (0, 2, 0) := by decide +kernel
theorem al_cl : resC (smpG true) smpLL = (1, 3, 0) := by decide +kernel
end Go.X.Gr
end

section
set_option linter.unusedVariables false
set_option linter.unusedSimpArgs false
set_option linter.unusedSectionVars false
/- Grade: alive. -/
set_option linter.unusedVariables false
set_option linter.unusedSimpArgs false
set_option maxRecDepth 10000
set_option maxHeartbeats 4000000
namespace Go.X.Gr
open Go Go.Proofs Go.X

theorem smp_lims : Lims 3 fun i => takeL 2 (dropL (i * 2) smpC) := fun i hi => by
  rcases (show i = 0 ∨ i = 1 ∨ i = 2 by omega) with rfl | rfl | rfl <;> rfl
def c14 : Ct := plainCt fun
  | [] => some ⟨none, none, .sb true, []⟩
  | _ => none
theorem k14 {l : List (Nat × Ct)} (g0 : Good P T l) : COk P 14 c14 := by
  have g := g32 (g31 (g15 (g17 (g19 (g21 (g23 (g25 (g27 (g29 good0)))))))))
  refine cok (C := tabC _) g.ok Try.func14 (c := code Try.f14) rfl fun fr args H out h hp => ?_
  simp only [c14, plainCt] at h
  split at h
  · cases h
    refine walk_plain rfl (Nat.le_of_ble_eq_true rfl) fun G hG => ?_
    refine Chk.mk ⟨smp_lims, by decide⟩ ?_
    refine Chk.mk ⟨smp_lims, by decide⟩ ?_
    refine Chk.mk ⟨smp_lims, by decide⟩ ?_
    refine Chk.mk ⟨smp_lims, by decide⟩ ?_
    refine Chk.mk ⟨smp_lims, by decide⟩ ?_
    refine Chk.mk ⟨smp_lims, by decide⟩ ?_
    refine Chk.mk ⟨smp_lims, by decide⟩ ?_
    refine Chk.mk ⟨smp_lims, by decide⟩ ?_
    refine Chk.mk ⟨smp_lims, by decide⟩ ?_
    refine (show SemC _ _ _ _ from ?_)
    refine weaken (g.ok _ _ _) (st' := ⟨[(2, ⟨[], .sp 5 0⟩), (4, ⟨[], .sp 6 0⟩), (6, ⟨[], .sp 7 0⟩), (3, ⟨[], .si .i64 0⟩), (5, ⟨[], .si .i64 0⟩), (7, ⟨[], .si .i64 0⟩), (8, ⟨[], .si .i64 3⟩), (9, ⟨[], .si .i64 0⟩), (10, ⟨[], .si .i64 1⟩), (11, ⟨[], .si .i64 0⟩), (12, ⟨[], .si .i64 2⟩), (13, ⟨[], .si .i64 0⟩), (14, ⟨[], .si .i64 1⟩), (15, ⟨[], .si .i64 0⟩), (16, ⟨[], .si .i64 0⟩), (17, ⟨[], .si .i64 2⟩), (18, ⟨[], .si .i64 0⟩), (19, ⟨[], .si .i64 1⟩), (20, ⟨[], .si .i64 3⟩), (21, ⟨[], .si .i64 0⟩)], [],
      [(5, .cells 24 [.si .i64 2, .si .i64 3]), (6, .cells 24 [.si .i64 1, .si .i64 3]), (7, .cells 24 [.si .i64 2, .si .i64 3])], 48, []⟩) 0 (fun j => j) hG ⟨⟨⟨⟨rfl, rfl⟩, rfl⟩, ⟨⟨rfl, rfl⟩, rfl⟩, ⟨⟨rfl, rfl⟩, rfl⟩, ⟨⟨rfl, (congrArg (fun x : (Int × Int) × Int => x.2) al_pt)⟩, rfl⟩, ⟨⟨rfl, (congrArg (fun x : (Int × Int) × Int => x.2) al_var)⟩, rfl⟩, ⟨⟨rfl, (congrArg (fun x : (Int × Int) × Int => x.2) al_off)⟩, rfl⟩, ⟨⟨rfl, (congrArg (fun x : Nat × Int => (x.1 : Int)) al_set)⟩, rfl⟩, ⟨⟨rfl, (congrArg (fun x : Nat × Int => x.2) al_set)⟩, rfl⟩, ⟨⟨rfl, (congrArg (fun x : Int × Int => x.1) al_su0)⟩, rfl⟩, ⟨⟨rfl, (congrArg (fun x : Int × Int => x.2) al_su0)⟩, rfl⟩, ⟨⟨rfl, (congrArg (fun x : Int × Int => x.1) al_su1)⟩, rfl⟩, ⟨⟨rfl, (congrArg (fun x : Int × Int => x.2) al_su1)⟩, rfl⟩, ⟨⟨rfl, (congrArg (fun x : Int × Int => x.1) al_lap)⟩, rfl⟩, ⟨⟨rfl, (congrArg (fun x : Int × Int => x.2) al_lap)⟩, rfl⟩, ⟨⟨rfl, (congrArg (fun x : Int × Int × Int => x.1) al_ask)⟩, rfl⟩, ⟨⟨rfl, (congrArg (fun x : Int × Int × Int => x.2.1) al_ask)⟩, rfl⟩, ⟨⟨rfl, (congrArg (fun x : Int × Int × Int => x.2.2) al_ask)⟩, rfl⟩, ⟨⟨rfl, (congrArg (fun x : Int × Int × Int => x.1) al_cl)⟩, rfl⟩, ⟨⟨rfl, (congrArg (fun x : Int × Int × Int => x.2.1) al_cl)⟩, rfl⟩, ⟨⟨rfl, (congrArg (fun x : Int × Int × Int => x.2.2) al_cl)⟩, rfl⟩, trivial⟩,
      ⟨⟨⟨rfl, ⟨⟨rfl, (congrArg (fun x : (Int × Int) × Int => x.1.1) al_pt)⟩, ⟨rfl, (congrArg (fun x : (Int × Int) × Int => x.1.2) al_pt)⟩, trivial⟩, rfl⟩, rfl⟩, ⟨⟨rfl, ⟨⟨rfl, (congrArg (fun x : (Int × Int) × Int => x.1.1) al_var)⟩, ⟨rfl, (congrArg (fun x : (Int × Int) × Int => x.1.2) al_var)⟩, trivial⟩, rfl⟩, rfl⟩, ⟨⟨rfl, ⟨⟨rfl, (congrArg (fun x : (Int × Int) × Int => x.1.1) al_off)⟩, ⟨rfl, (congrArg (fun x : (Int × Int) × Int => x.1.2) al_off)⟩, trivial⟩, rfl⟩, rfl⟩, trivial⟩, rfl, rfl, rfl, rfl, trivial⟩ ?_
    refine drawn_ok (g.ok _ _ _) fol [0,0,3,7,15,31,63,127,255,255,1023,2047,4095,8191,16383,32767,65535,131071,131071,524287,1048575,2097151,4194303,8388607,16777215,33554431,67108863,134217727,268435455,536870911,1073741823,2147483647,4294967295,8589934591,17179869183,34359738367,68719476735,137438953471,274877906943,549755813887,1099511627775,2199023255551,4398046511103,8796093022207,17592186044415,35184372088831,70368744177663,140737488355327,281474976710655,562949953421311,1125899906842623,2251799813685247,4503599627370495,9007199254740991,18014398509481983,36028797018963967,72057594037927935,144115188075855871,288230376151711743,576460752303423487,1152921504606846975,2305843009213693951,4611686018427387903,9223372036854775807,18446744073709551615,36893488147419103231,73786976294838206463,147573952589676412927,295147905179352825855,590295810358705651711,1180591620717411303423,2361183241434822606847,4722366482869645213695,9444732965739290427391,18889465931478580854783,37778931862957161709567,75557863725914323419135,151115727451828646838271,302231454903657293676543,604462909807314587353087,1208925819614629174706175,2417851639229258349412351] [] 82 (by kernel_rfl) ?_
    exact ⟨.inl rfl, end_plain rfl rfl rfl⟩
  · cases h
theorem g14 {l : List (Nat × Ct)} (g : Good P T l) : Good P T ((14, c14) :: l) := g.add (k14 g) (plainCt_mono _) (body_of Try.func14 (c := code Try.f14) rfl (by decide))
end Go.X.Gr
end
