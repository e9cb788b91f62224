/- Contracts of functions of the package grade: Clash, bits counted, Lap. -/
import Derived.Test.YtafggknckgmkaaaNB

section
set_option linter.unusedVariables false
set_option linter.unusedSimpArgs false
set_option linter.unusedSectionVars false
/- Grade: Clash. -/
set_option linter.unusedVariables false
set_option linter.unusedSimpArgs false
set_option maxRecDepth 10000
set_option maxHeartbeats 4000000
namespace Go.X.Gr
open Go Go.Proofs Go.X

def loI (g : Pts) : Nat → Int
  | 0 => g.l0
  | 1 => g.l1
  | 2 => g.l2
  | 3 => g.l3
  | _ => g.l4
def hiI (g : Pts) : Nat → Int
  | 0 => g.h0
  | 1 => g.h1
  | 2 => g.h2
  | 3 => g.h3
  | _ => g.h4
def clB (g : Pts) (i k : Nat) : Bool := decide (max (loI g i - hiI g k) (loI g k - hiI g i) > farV i k * g.st)
def clL : List (Nat × Nat) := [(0, 1), (0, 2), (0, 3), (0, 4), (1, 2), (1, 3), (1, 4), (2, 3), (2, 4), (3, 4)]
def clashV (g : Pts) : Option (Nat × Nat) := clL.find? fun q => clB g q.1 q.2
def resC (g : Pts) (L : List (Int × Int)) : Int × Int × Int := if errG g L true = 0 then (match clashV g with
  | some q => (q.1, q.2, 0)
  | none => (0, 0, 4)) else (0, 0, errG g L true)
def c29 : Ct := fun fr args H => match args with
  | [.agg l] => gradeK H l fun i1 g n get => some ⟨some (Lims n get ∧ n ≤ 1000000), none, .tup [.si .i64 (resC g (limsL n get)).1, .si .i64 (resC g (limsL n get)).2.1, .si .i64 (resC g (limsL n get)).2.2], []⟩
  | _ => none
theorem c29_mono : CtMono c29 := by
  intro fr args H H' out hH h
  unfold c29 at h ⊢
  split at h
  · exact gradeK_mono hH h
  · cases h
theorem k29 {l : List (Nat × Ct)} (g0 : Good P T l) : COk P 29 c29 := by
  have g := g47 (g84 (g85 good0))
  refine cokCM (C := tabC _) g.ok an83 Try.func29 (c := code Try.f29) rfl fun fr args H out h hp => ?_
  unfold c29 at h
  split at h
  case h_2 => cases h
  rename_i l
  obtain ⟨i1, p, n, get, rfl, e1, h⟩ := gradeK_some h
  cases h
  obtain ⟨hs, hn⟩ : Lims n get ∧ n ≤ 1000000 := hp
  have hh : Hand H [(i1, .ro 2 n fun i => liC (liAt get i))] := hand_one e1 (fun i => rfl) (fun i hi => (hs i hi).symm)
  refine ⟨[(i1, .ro 2 n fun i => liC (liAt get i))], [.agg (grA 0 p)], [(0, .ro 2 n fun i => liC (liAt get i))], 1, [], rfl, rfl, Nat.le_of_ble_eq_true rfl, hh, rfl, rfl, fun G hG => ?_⟩
  unfold limsL
  generalize liAt get = L
  refine fb_deferC 83 2 (g.ok _ _ _) rfl cont_std rfl rfl rfl rfl rfl rfl rfl ?_
  refine Chk.mk ⟨lims_i _ _, hn⟩ ?_
  refine Br.mk (fun h => ?_) (fun h => ?_)
  · have h : (!decide (errG p ((List.range n).map L) true = 0)) = true := h
    have h : ¬ errG p ((List.range n).map L) true = 0 := by simpa using h
    have he : resC p ((List.range n).map L) = (0, 0, errG p ((List.range n).map L) true) := by rw [resC, if_neg h]
    rw [he]
    exact ⟨.inl rfl, end_noid ⟨⟨rfl, rfl⟩, ⟨rfl, rfl⟩, ⟨rfl, rfl⟩, trivial⟩ rfl rfl (by repeat' (first | exact trivial | exact rfl | (intro i hi; exact ⟨rfl, rfl⟩) | refine And.intro ?_ ?_))⟩
  have h : (!decide (errG p ((List.range n).map L) true = 0)) = false := h
  have h : errG p ((List.range n).map L) true = 0 := by simpa using h
  obtain ⟨hb, hl1, hl2⟩ := gradeOk_b (errG_zero h).1
  have hok := (errG_zero h).1
  have hb' : (-20 ≤ p.l0 ∧ p.l0 ≤ p.h0 ∧ p.h0 ≤ 20) ∧ (-20 ≤ p.l1 ∧ p.l1 ≤ p.h1 ∧ p.h1 ≤ 20) ∧ (-20 ≤ p.l2 ∧ p.l2 ≤ p.h2 ∧ p.h2 ≤ 20) ∧ (-20 ≤ p.l3 ∧ p.l3 ≤ p.h3 ∧ p.h3 ≤ 20) ∧ (-20 ≤ p.l4 ∧ p.l4 ≤ p.h4 ∧ p.h4 ≤ 20) ∧ 0 ≤ p.st ∧ p.st ≤ 10 := by
    simp only [gradeOk, headB, inB, ptI, ptB, Bool.and_eq_true, decide_eq_true_eq] at hok
    omega
  have hr : resC p ((List.range n).map L) = (match clashV p with
    | some q => (q.1, q.2, 0)
    | none => (0, 0, 4)) := by rw [resC, if_pos h]
  generalize resC p ((List.range n).map L) = R at hr ⊢
  refine loop_okR (g.ok _ _ _) 1 (fun x : {i : Nat // i ≤ 5 ∧ ∀ q ∈ clL, q.1 < i → clB p q.1 q.2 = false} => ⟨[(4, ⟨[], .sp 2 0⟩), (5, ⟨[], .sp 3 0⟩), (17, ⟨[], .agg [.si .i64 p.l0, .si .i64 p.h0, .si .i64 p.l1, .si .i64 p.h1, .si .i64 p.l2, .si .i64 p.h2, .si .i64 p.l3, .si .i64 p.h3, .si .i64 p.l4, .si .i64 p.h4]⟩), (18, ⟨[], .si .i64 x.1⟩)], [], [(3, .cells 108 (bnX 0 4 p)), (4, .vec 51 2 (n + 1) fun i => liC (lims2 n L i)), (2, .cells 30 [.si .i64 0]), (0, .ro 2 n fun i => liC (L i))], 7, [(1000000, [.si .i64 83, .sp 2 0])]⟩) (fun x => 5 - x.1) hG ⟨0, by omega, fun q _ hq => by omega⟩ (fun j => j) ?_ ?_
  · refine ⟨?_, ?_, rfl, rfl, rfl, rfl, ?_⟩ <;> repeat' (first | exact trivial | exact rfl | (intro i hi; exact ⟨rfl, rfl⟩) | refine And.intro ?_ ?_)
  rintro ⟨i, hi, hfi⟩
  rcases (show i = 0 ∨ i = 1 ∨ i = 2 ∨ i = 3 ∨ i = 4 ∨ i = 5 by omega) with rfl | rfl | rfl | rfl | rfl | rfl
  · show exec _ _ ⟨[(4, ⟨[], .sp 2 0⟩), (5, ⟨[], .sp 3 0⟩), (17, ⟨[], .agg [.si .i64 p.l0, .si .i64 p.h0, .si .i64 p.l1, .si .i64 p.h1, .si .i64 p.l2, .si .i64 p.h2, .si .i64 p.l3, .si .i64 p.h3, .si .i64 p.l4, .si .i64 p.h4]⟩), (18, ⟨[], .si .i64 0⟩)], [], [(3, .cells 108 (bnX 0 4 p)), (4, .vec 51 2 (n + 1) fun i => liC (lims2 n L i)), (2, .cells 30 [.si .i64 0]), (0, .ro 2 n fun i => liC (L i))], 7, [(1000000, [.si .i64 83, .sp 2 0])]⟩ _
    refine Br.mk (fun _ => ?_) (fun h => by cases h)
    refine Chk.mk (bnd 0 5 rfl) ?_
    refine loop_okR (g.ok _ _ _) 1 (fun x : {k : Nat // k ≤ 5 ∧ ∀ q ∈ clL, q.1 < 0 ∨ q.1 = 0 ∧ q.2 < k → clB p q.1 q.2 = false} => ⟨[(27, ⟨[], .si .i64 x.1⟩), (26, ⟨[], .agg [.si .i64 p.l0, .si .i64 p.h0, .si .i64 p.l1, .si .i64 p.h1, .si .i64 p.l2, .si .i64 p.h2, .si .i64 p.l3, .si .i64 p.h3, .si .i64 p.l4, .si .i64 p.h4]⟩), (6, ⟨[], .si .i64 0⟩), (7, ⟨[], .sp 7 0⟩), (4, ⟨[], .sp 2 0⟩), (5, ⟨[], .sp 3 0⟩), (17, ⟨[], .agg [.si .i64 p.l0, .si .i64 p.h0, .si .i64 p.l1, .si .i64 p.h1, .si .i64 p.l2, .si .i64 p.h2, .si .i64 p.l3, .si .i64 p.h3, .si .i64 p.l4, .si .i64 p.h4]⟩), (18, ⟨[], .si .i64 0⟩)], [], [(7, .cells 24 [.si .i64 p.l0, .si .i64 p.h0]), (3, .cells 108 (bnX 0 4 p)), (4, .vec 51 2 (n + 1) fun i => liC (lims2 n L i)), (2, .cells 30 [.si .i64 0]), (0, .ro 2 n fun i => liC (L i))], 8, [(1000000, [.si .i64 83, .sp 2 0])]⟩) (fun x => 5 - x.1) hG ⟨0, by omega, fun q hm hq => by
      rcases hq with hq | hq
      · exact hfi q hm hq
      · omega⟩ (fun j => j) ?_ ?_
    · refine ⟨?_, ?_, rfl, rfl, rfl, rfl, ?_⟩ <;> repeat' (first | exact trivial | exact rfl | (intro i hi; exact ⟨rfl, rfl⟩) | refine And.intro ?_ ?_)
    rintro ⟨k, hk, hfk⟩
    rcases (show k = 0 ∨ k = 1 ∨ k = 2 ∨ k = 3 ∨ k = 4 ∨ k = 5 by omega) with rfl | rfl | rfl | rfl | rfl | rfl
    · show exec _ _ ⟨[(27, ⟨[], .si .i64 0⟩), (26, ⟨[], .agg [.si .i64 p.l0, .si .i64 p.h0, .si .i64 p.l1, .si .i64 p.h1, .si .i64 p.l2, .si .i64 p.h2, .si .i64 p.l3, .si .i64 p.h3, .si .i64 p.l4, .si .i64 p.h4]⟩), (6, ⟨[], .si .i64 0⟩), (7, ⟨[], .sp 7 0⟩), (4, ⟨[], .sp 2 0⟩), (5, ⟨[], .sp 3 0⟩), (17, ⟨[], .agg [.si .i64 p.l0, .si .i64 p.h0, .si .i64 p.l1, .si .i64 p.h1, .si .i64 p.l2, .si .i64 p.h2, .si .i64 p.l3, .si .i64 p.h3, .si .i64 p.l4, .si .i64 p.h4]⟩), (18, ⟨[], .si .i64 0⟩)], [], [(7, .cells 24 [.si .i64 p.l0, .si .i64 p.h0]), (3, .cells 108 (bnX 0 4 p)), (4, .vec 51 2 (n + 1) fun i => liC (lims2 n L i)), (2, .cells 30 [.si .i64 0]), (0, .ro 2 n fun i => liC (L i))], 8, [(1000000, [.si .i64 83, .sp 2 0])]⟩ _
      refine Br.mk (fun _ => ?_) (fun h => by cases h)
      refine Chk.mk (bnd 0 5 rfl) ?_
      refine drawn_ok (g.ok _ _ _) fol [0,0,3,7,15,31,15,79,255,15,527,15,2063,7695,16383,32767,15,15,262143,15,524303,1572879,3670031,7864335,16777215,33554431,67108863] [] 26 (by kernel_rfl) ?_
      refine Chk.mk (under_of (show InK .i64 (p.l0 - p.h0) from ⟨by omega, by omega⟩)) ?_
      refine Chk.mk (under_of (show InK .i64 (p.l0 - p.h0) from ⟨by omega, by omega⟩)) ?_
      refine Chk.mk (under_of (show InK .i64 ((0 : Int) + 0) from ⟨by decide, by decide⟩)) ?_
      refine Chk.mk (under_of (show InK .i64 (farV 0 0 * p.st) from by rw [show farV 0 0 = 0 from rfl]; exact ⟨by omega, by omega⟩)) ?_
      refine Br.mk (fun h2 => by cases h2) (fun h2 => ?_)
      refine Chk.mk (ink1 0 rfl) ⟨⟨1, by omega, fun q hm hq => ?_⟩, (fun j => j), ?_, by show 5 - 1 < 5 - 0; omega⟩
      · refine hfi q hm ?_
        have := (show ∀ q ∈ clL, q.1 < q.2 by decide) q hm
        omega
      refine ⟨?_, ?_, rfl, rfl, rfl, rfl, ?_⟩ <;> repeat' (first | exact trivial | exact rfl | (intro i hi; exact ⟨rfl, rfl⟩) | refine And.intro ?_ ?_)
    · show exec _ _ ⟨[(27, ⟨[], .si .i64 1⟩), (26, ⟨[], .agg [.si .i64 p.l0, .si .i64 p.h0, .si .i64 p.l1, .si .i64 p.h1, .si .i64 p.l2, .si .i64 p.h2, .si .i64 p.l3, .si .i64 p.h3, .si .i64 p.l4, .si .i64 p.h4]⟩), (6, ⟨[], .si .i64 0⟩), (7, ⟨[], .sp 7 0⟩), (4, ⟨[], .sp 2 0⟩), (5, ⟨[], .sp 3 0⟩), (17, ⟨[], .agg [.si .i64 p.l0, .si .i64 p.h0, .si .i64 p.l1, .si .i64 p.h1, .si .i64 p.l2, .si .i64 p.h2, .si .i64 p.l3, .si .i64 p.h3, .si .i64 p.l4, .si .i64 p.h4]⟩), (18, ⟨[], .si .i64 0⟩)], [], [(7, .cells 24 [.si .i64 p.l0, .si .i64 p.h0]), (3, .cells 108 (bnX 0 4 p)), (4, .vec 51 2 (n + 1) fun i => liC (lims2 n L i)), (2, .cells 30 [.si .i64 0]), (0, .ro 2 n fun i => liC (L i))], 8, [(1000000, [.si .i64 83, .sp 2 0])]⟩ _
      refine Br.mk (fun _ => ?_) (fun h => by cases h)
      refine Chk.mk (bnd 1 5 rfl) ?_
      refine drawn_ok (g.ok _ _ _) fol [0,0,3,7,15,31,15,79,255,15,527,15,2063,7695,16383,32767,15,15,262143,15,524303,1572879,3670031,7864335,16777215,33554431,67108863] [] 26 (by kernel_rfl) ?_
      refine Chk.mk (under_of (show InK .i64 (p.l0 - p.h1) from ⟨by omega, by omega⟩)) ?_
      refine Chk.mk (under_of (show InK .i64 (p.l1 - p.h0) from ⟨by omega, by omega⟩)) ?_
      refine Chk.mk (under_of (show InK .i64 ((0 : Int) + 1) from ⟨by decide, by decide⟩)) ?_
      refine Chk.mk (under_of (show InK .i64 (farV 0 1 * p.st) from by rw [show farV 0 1 = 1 from rfl]; exact ⟨by omega, by omega⟩)) ?_
      refine Br.mk (fun h2 => ?_) (fun h2 => ?_)
      · have h2 : clB p 0 1 = true := h2
        have hv : clashV p = some (0, 1) := by simp [clashV, clL, h2]
        rw [hv] at hr
        subst hr
        exact ⟨.inl rfl, end_noid ⟨⟨rfl, rfl⟩, ⟨rfl, rfl⟩, ⟨rfl, rfl⟩, trivial⟩ rfl rfl (by repeat' (first | exact trivial | exact rfl | (intro i hi; exact ⟨rfl, rfl⟩) | refine And.intro ?_ ?_))⟩
      have h2 : clB p 0 1 = false := h2
      refine Chk.mk (ink1 1 rfl) ⟨⟨2, by omega, fun q hm hq => ?_⟩, (fun j => j), ?_, by show 5 - 2 < 5 - 1; omega⟩
      · rcases (show (q.1 < 0 ∨ q.1 = 0 ∧ q.2 < 1) ∨ q = (0, 1) by
          obtain ⟨qa, qb⟩ := q
          simp only [Prod.mk.injEq] at hq ⊢
          omega) with hq | rfl
        · exact hfk q hm hq
        · exact h2
      refine ⟨?_, ?_, rfl, rfl, rfl, rfl, ?_⟩ <;> repeat' (first | exact trivial | exact rfl | (intro i hi; exact ⟨rfl, rfl⟩) | refine And.intro ?_ ?_)
    · show exec _ _ ⟨[(27, ⟨[], .si .i64 2⟩), (26, ⟨[], .agg [.si .i64 p.l0, .si .i64 p.h0, .si .i64 p.l1, .si .i64 p.h1, .si .i64 p.l2, .si .i64 p.h2, .si .i64 p.l3, .si .i64 p.h3, .si .i64 p.l4, .si .i64 p.h4]⟩), (6, ⟨[], .si .i64 0⟩), (7, ⟨[], .sp 7 0⟩), (4, ⟨[], .sp 2 0⟩), (5, ⟨[], .sp 3 0⟩), (17, ⟨[], .agg [.si .i64 p.l0, .si .i64 p.h0, .si .i64 p.l1, .si .i64 p.h1, .si .i64 p.l2, .si .i64 p.h2, .si .i64 p.l3, .si .i64 p.h3, .si .i64 p.l4, .si .i64 p.h4]⟩), (18, ⟨[], .si .i64 0⟩)], [], [(7, .cells 24 [.si .i64 p.l0, .si .i64 p.h0]), (3, .cells 108 (bnX 0 4 p)), (4, .vec 51 2 (n + 1) fun i => liC (lims2 n L i)), (2, .cells 30 [.si .i64 0]), (0, .ro 2 n fun i => liC (L i))], 8, [(1000000, [.si .i64 83, .sp 2 0])]⟩ _
      refine Br.mk (fun _ => ?_) (fun h => by cases h)
      refine Chk.mk (bnd 2 5 rfl) ?_
      refine drawn_ok (g.ok _ _ _) fol [0,0,3,7,15,31,15,79,255,15,527,15,2063,7695,16383,32767,15,15,262143,15,524303,1572879,3670031,7864335,16777215,33554431,67108863] [] 26 (by kernel_rfl) ?_
      refine Chk.mk (under_of (show InK .i64 (p.l0 - p.h2) from ⟨by omega, by omega⟩)) ?_
      refine Chk.mk (under_of (show InK .i64 (p.l2 - p.h0) from ⟨by omega, by omega⟩)) ?_
      refine Chk.mk (under_of (show InK .i64 ((0 : Int) + 2) from ⟨by decide, by decide⟩)) ?_
      refine Chk.mk (under_of (show InK .i64 (farV 0 2 * p.st) from by rw [show farV 0 2 = 1 from rfl]; exact ⟨by omega, by omega⟩)) ?_
      refine Br.mk (fun h2 => ?_) (fun h2 => ?_)
      · have h2 : clB p 0 2 = true := h2
        have f01 := hfk (0, 1) (by decide) (by simp)
        have hv : clashV p = some (0, 2) := by simp [clashV, clL, h2, f01]
        rw [hv] at hr
        subst hr
        exact ⟨.inl rfl, end_noid ⟨⟨rfl, rfl⟩, ⟨rfl, rfl⟩, ⟨rfl, rfl⟩, trivial⟩ rfl rfl (by repeat' (first | exact trivial | exact rfl | (intro i hi; exact ⟨rfl, rfl⟩) | refine And.intro ?_ ?_))⟩
      have h2 : clB p 0 2 = false := h2
      refine Chk.mk (ink1 2 rfl) ⟨⟨3, by omega, fun q hm hq => ?_⟩, (fun j => j), ?_, by show 5 - 3 < 5 - 2; omega⟩
      · rcases (show (q.1 < 0 ∨ q.1 = 0 ∧ q.2 < 2) ∨ q = (0, 2) by
          obtain ⟨qa, qb⟩ := q
          simp only [Prod.mk.injEq] at hq ⊢
          omega) with hq | rfl
        · exact hfk q hm hq
        · exact h2
      refine ⟨?_, ?_, rfl, rfl, rfl, rfl, ?_⟩ <;> repeat' (first | exact trivial | exact rfl | (intro i hi; exact ⟨rfl, rfl⟩) | refine And.intro ?_ ?_)
    · show exec _ _ ⟨[(27, ⟨[], .si .i64 3⟩), (26, ⟨[], .agg [.si .i64 p.l0, .si .i64 p.h0, .si .i64 p.l1, .si .i64 p.h1, .si .i64 p.l2, .si .i64 p.h2, .si .i64 p.l3, .si .i64 p.h3, .si .i64 p.l4, .si .i64 p.h4]⟩), (6, ⟨[], .si .i64 0⟩), (7, ⟨[], .sp 7 0⟩), (4, ⟨[], .sp 2 0⟩), (5, ⟨[], .sp 3 0⟩), (17, ⟨[], .agg [.si .i64 p.l0, .si .i64 p.h0, .si .i64 p.l1, .si .i64 p.h1, .si .i64 p.l2, .si .i64 p.h2, .si .i64 p.l3, .si .i64 p.h3, .si .i64 p.l4, .si .i64 p.h4]⟩), (18, ⟨[], .si .i64 0⟩)], [], [(7, .cells 24 [.si .i64 p.l0, .si .i64 p.h0]), (3, .cells 108 (bnX 0 4 p)), (4, .vec 51 2 (n + 1) fun i => liC (lims2 n L i)), (2, .cells 30 [.si .i64 0]), (0, .ro 2 n fun i => liC (L i))], 8, [(1000000, [.si .i64 83, .sp 2 0])]⟩ _
      refine Br.mk (fun _ => ?_) (fun h => by cases h)
      refine Chk.mk (bnd 3 5 rfl) ?_
      refine drawn_ok (g.ok _ _ _) fol [0,0,3,7,15,31,15,79,255,15,527,15,2063,7695,16383,32767,15,15,262143,15,524303,1572879,3670031,7864335,16777215,33554431,67108863] [] 26 (by kernel_rfl) ?_
      refine Chk.mk (under_of (show InK .i64 (p.l0 - p.h3) from ⟨by omega, by omega⟩)) ?_
      refine Chk.mk (under_of (show InK .i64 (p.l3 - p.h0) from ⟨by omega, by omega⟩)) ?_
      refine Chk.mk (under_of (show InK .i64 ((0 : Int) + 3) from ⟨by decide, by decide⟩)) ?_
      refine Chk.mk (under_of (show InK .i64 (farV 0 3 * p.st) from by rw [show farV 0 3 = 1 from rfl]; exact ⟨by omega, by omega⟩)) ?_
      refine Br.mk (fun h2 => ?_) (fun h2 => ?_)
      · have h2 : clB p 0 3 = true := h2
        have f01 := hfk (0, 1) (by decide) (by simp)
        have f02 := hfk (0, 2) (by decide) (by simp)
        have hv : clashV p = some (0, 3) := by simp [clashV, clL, h2, f01, f02]
        rw [hv] at hr
        subst hr
        exact ⟨.inl rfl, end_noid ⟨⟨rfl, rfl⟩, ⟨rfl, rfl⟩, ⟨rfl, rfl⟩, trivial⟩ rfl rfl (by repeat' (first | exact trivial | exact rfl | (intro i hi; exact ⟨rfl, rfl⟩) | refine And.intro ?_ ?_))⟩
      have h2 : clB p 0 3 = false := h2
      refine Chk.mk (ink1 3 rfl) ⟨⟨4, by omega, fun q hm hq => ?_⟩, (fun j => j), ?_, by show 5 - 4 < 5 - 3; omega⟩
      · rcases (show (q.1 < 0 ∨ q.1 = 0 ∧ q.2 < 3) ∨ q = (0, 3) by
          obtain ⟨qa, qb⟩ := q
          simp only [Prod.mk.injEq] at hq ⊢
          omega) with hq | rfl
        · exact hfk q hm hq
        · exact h2
      refine ⟨?_, ?_, rfl, rfl, rfl, rfl, ?_⟩ <;> repeat' (first | exact trivial | exact rfl | (intro i hi; exact ⟨rfl, rfl⟩) | refine And.intro ?_ ?_)
    · show exec _ _ ⟨[(27, ⟨[], .si .i64 4⟩), (26, ⟨[], .agg [.si .i64 p.l0, .si .i64 p.h0, .si .i64 p.l1, .si .i64 p.h1, .si .i64 p.l2, .si .i64 p.h2, .si .i64 p.l3, .si .i64 p.h3, .si .i64 p.l4, .si .i64 p.h4]⟩), (6, ⟨[], .si .i64 0⟩), (7, ⟨[], .sp 7 0⟩), (4, ⟨[], .sp 2 0⟩), (5, ⟨[], .sp 3 0⟩), (17, ⟨[], .agg [.si .i64 p.l0, .si .i64 p.h0, .si .i64 p.l1, .si .i64 p.h1, .si .i64 p.l2, .si .i64 p.h2, .si .i64 p.l3, .si .i64 p.h3, .si .i64 p.l4, .si .i64 p.h4]⟩), (18, ⟨[], .si .i64 0⟩)], [], [(7, .cells 24 [.si .i64 p.l0, .si .i64 p.h0]), (3, .cells 108 (bnX 0 4 p)), (4, .vec 51 2 (n + 1) fun i => liC (lims2 n L i)), (2, .cells 30 [.si .i64 0]), (0, .ro 2 n fun i => liC (L i))], 8, [(1000000, [.si .i64 83, .sp 2 0])]⟩ _
      refine Br.mk (fun _ => ?_) (fun h => by cases h)
      refine Chk.mk (bnd 4 5 rfl) ?_
      refine drawn_ok (g.ok _ _ _) fol [0,0,3,7,15,31,15,79,255,15,527,15,2063,7695,16383,32767,15,15,262143,15,524303,1572879,3670031,7864335,16777215,33554431,67108863] [] 26 (by kernel_rfl) ?_
      refine Chk.mk (under_of (show InK .i64 (p.l0 - p.h4) from ⟨by omega, by omega⟩)) ?_
      refine Chk.mk (under_of (show InK .i64 (p.l4 - p.h0) from ⟨by omega, by omega⟩)) ?_
      refine Chk.mk (under_of (show InK .i64 ((0 : Int) + 4) from ⟨by decide, by decide⟩)) ?_
      refine Chk.mk (under_of (show InK .i64 (farV 0 4 * p.st) from by rw [show farV 0 4 = 1 from rfl]; exact ⟨by omega, by omega⟩)) ?_
      refine Br.mk (fun h2 => ?_) (fun h2 => ?_)
      · have h2 : clB p 0 4 = true := h2
        have f01 := hfk (0, 1) (by decide) (by simp)
        have f02 := hfk (0, 2) (by decide) (by simp)
        have f03 := hfk (0, 3) (by decide) (by simp)
        have hv : clashV p = some (0, 4) := by simp [clashV, clL, h2, f01, f02, f03]
        rw [hv] at hr
        subst hr
        exact ⟨.inl rfl, end_noid ⟨⟨rfl, rfl⟩, ⟨rfl, rfl⟩, ⟨rfl, rfl⟩, trivial⟩ rfl rfl (by repeat' (first | exact trivial | exact rfl | (intro i hi; exact ⟨rfl, rfl⟩) | refine And.intro ?_ ?_))⟩
      have h2 : clB p 0 4 = false := h2
      refine Chk.mk (ink1 4 rfl) ⟨⟨5, by omega, fun q hm hq => ?_⟩, (fun j => j), ?_, by show 5 - 5 < 5 - 4; omega⟩
      · rcases (show (q.1 < 0 ∨ q.1 = 0 ∧ q.2 < 4) ∨ q = (0, 4) by
          obtain ⟨qa, qb⟩ := q
          simp only [Prod.mk.injEq] at hq ⊢
          omega) with hq | rfl
        · exact hfk q hm hq
        · exact h2
      refine ⟨?_, ?_, rfl, rfl, rfl, rfl, ?_⟩ <;> repeat' (first | exact trivial | exact rfl | (intro i hi; exact ⟨rfl, rfl⟩) | refine And.intro ?_ ?_)
    · refine Br.mk (fun h => by cases h) (fun _ => ?_)
      refine Chk.mk (ink1 0 rfl) ⟨⟨1, by omega, fun q hm hq => hfk q hm ?_⟩, (fun j => j), ?_, by show 5 - 1 < 5 - 0; omega⟩
      · have := (show ∀ q ∈ clL, q.2 < 5 by decide) q hm
        omega
      refine ⟨?_, ?_, rfl, rfl, rfl, rfl, ?_⟩ <;> repeat' (first | exact trivial | exact rfl | (intro i hi; exact ⟨rfl, rfl⟩) | refine And.intro ?_ ?_)
  · show exec _ _ ⟨[(4, ⟨[], .sp 2 0⟩), (5, ⟨[], .sp 3 0⟩), (17, ⟨[], .agg [.si .i64 p.l0, .si .i64 p.h0, .si .i64 p.l1, .si .i64 p.h1, .si .i64 p.l2, .si .i64 p.h2, .si .i64 p.l3, .si .i64 p.h3, .si .i64 p.l4, .si .i64 p.h4]⟩), (18, ⟨[], .si .i64 1⟩)], [], [(3, .cells 108 (bnX 0 4 p)), (4, .vec 51 2 (n + 1) fun i => liC (lims2 n L i)), (2, .cells 30 [.si .i64 0]), (0, .ro 2 n fun i => liC (L i))], 7, [(1000000, [.si .i64 83, .sp 2 0])]⟩ _
    refine Br.mk (fun _ => ?_) (fun h => by cases h)
    refine Chk.mk (bnd 1 5 rfl) ?_
    refine loop_okR (g.ok _ _ _) 1 (fun x : {k : Nat // k ≤ 5 ∧ ∀ q ∈ clL, q.1 < 1 ∨ q.1 = 1 ∧ q.2 < k → clB p q.1 q.2 = false} => ⟨[(27, ⟨[], .si .i64 x.1⟩), (26, ⟨[], .agg [.si .i64 p.l0, .si .i64 p.h0, .si .i64 p.l1, .si .i64 p.h1, .si .i64 p.l2, .si .i64 p.h2, .si .i64 p.l3, .si .i64 p.h3, .si .i64 p.l4, .si .i64 p.h4]⟩), (6, ⟨[], .si .i64 1⟩), (7, ⟨[], .sp 7 0⟩), (4, ⟨[], .sp 2 0⟩), (5, ⟨[], .sp 3 0⟩), (17, ⟨[], .agg [.si .i64 p.l0, .si .i64 p.h0, .si .i64 p.l1, .si .i64 p.h1, .si .i64 p.l2, .si .i64 p.h2, .si .i64 p.l3, .si .i64 p.h3, .si .i64 p.l4, .si .i64 p.h4]⟩), (18, ⟨[], .si .i64 1⟩)], [], [(7, .cells 24 [.si .i64 p.l1, .si .i64 p.h1]), (3, .cells 108 (bnX 0 4 p)), (4, .vec 51 2 (n + 1) fun i => liC (lims2 n L i)), (2, .cells 30 [.si .i64 0]), (0, .ro 2 n fun i => liC (L i))], 8, [(1000000, [.si .i64 83, .sp 2 0])]⟩) (fun x => 5 - x.1) hG ⟨0, by omega, fun q hm hq => by
      rcases hq with hq | hq
      · exact hfi q hm hq
      · omega⟩ (fun j => j) ?_ ?_
    · refine ⟨?_, ?_, rfl, rfl, rfl, rfl, ?_⟩ <;> repeat' (first | exact trivial | exact rfl | (intro i hi; exact ⟨rfl, rfl⟩) | refine And.intro ?_ ?_)
    rintro ⟨k, hk, hfk⟩
    rcases (show k = 0 ∨ k = 1 ∨ k = 2 ∨ k = 3 ∨ k = 4 ∨ k = 5 by omega) with rfl | rfl | rfl | rfl | rfl | rfl
    · show exec _ _ ⟨[(27, ⟨[], .si .i64 0⟩), (26, ⟨[], .agg [.si .i64 p.l0, .si .i64 p.h0, .si .i64 p.l1, .si .i64 p.h1, .si .i64 p.l2, .si .i64 p.h2, .si .i64 p.l3, .si .i64 p.h3, .si .i64 p.l4, .si .i64 p.h4]⟩), (6, ⟨[], .si .i64 1⟩), (7, ⟨[], .sp 7 0⟩), (4, ⟨[], .sp 2 0⟩), (5, ⟨[], .sp 3 0⟩), (17, ⟨[], .agg [.si .i64 p.l0, .si .i64 p.h0, .si .i64 p.l1, .si .i64 p.h1, .si .i64 p.l2, .si .i64 p.h2, .si .i64 p.l3, .si .i64 p.h3, .si .i64 p.l4, .si .i64 p.h4]⟩), (18, ⟨[], .si .i64 1⟩)], [], [(7, .cells 24 [.si .i64 p.l1, .si .i64 p.h1]), (3, .cells 108 (bnX 0 4 p)), (4, .vec 51 2 (n + 1) fun i => liC (lims2 n L i)), (2, .cells 30 [.si .i64 0]), (0, .ro 2 n fun i => liC (L i))], 8, [(1000000, [.si .i64 83, .sp 2 0])]⟩ _
      refine Br.mk (fun _ => ?_) (fun h => by cases h)
      refine Chk.mk (bnd 0 5 rfl) ?_
      refine drawn_ok (g.ok _ _ _) fol [0,0,3,7,15,31,15,79,255,15,527,15,2063,7695,16383,32767,15,15,262143,15,524303,1572879,3670031,7864335,16777215,33554431,67108863] [] 26 (by kernel_rfl) ?_
      refine Chk.mk (under_of (show InK .i64 (p.l1 - p.h0) from ⟨by omega, by omega⟩)) ?_
      refine Chk.mk (under_of (show InK .i64 (p.l0 - p.h1) from ⟨by omega, by omega⟩)) ?_
      refine Chk.mk (under_of (show InK .i64 ((1 : Int) + 0) from ⟨by decide, by decide⟩)) ?_
      refine Chk.mk (under_of (show InK .i64 (farV 1 0 * p.st) from by rw [show farV 1 0 = 1 from rfl]; exact ⟨by omega, by omega⟩)) ?_
      refine Br.mk (fun h2 => by cases h2) (fun h2 => ?_)
      refine Chk.mk (ink1 0 rfl) ⟨⟨1, by omega, fun q hm hq => ?_⟩, (fun j => j), ?_, by show 5 - 1 < 5 - 0; omega⟩
      · refine hfi q hm ?_
        have := (show ∀ q ∈ clL, q.1 < q.2 by decide) q hm
        omega
      refine ⟨?_, ?_, rfl, rfl, rfl, rfl, ?_⟩ <;> repeat' (first | exact trivial | exact rfl | (intro i hi; exact ⟨rfl, rfl⟩) | refine And.intro ?_ ?_)
    · show exec _ _ ⟨[(27, ⟨[], .si .i64 1⟩), (26, ⟨[], .agg [.si .i64 p.l0, .si .i64 p.h0, .si .i64 p.l1, .si .i64 p.h1, .si .i64 p.l2, .si .i64 p.h2, .si .i64 p.l3, .si .i64 p.h3, .si .i64 p.l4, .si .i64 p.h4]⟩), (6, ⟨[], .si .i64 1⟩), (7, ⟨[], .sp 7 0⟩), (4, ⟨[], .sp 2 0⟩), (5, ⟨[], .sp 3 0⟩), (17, ⟨[], .agg [.si .i64 p.l0, .si .i64 p.h0, .si .i64 p.l1, .si .i64 p.h1, .si .i64 p.l2, .si .i64 p.h2, .si .i64 p.l3, .si .i64 p.h3, .si .i64 p.l4, .si .i64 p.h4]⟩), (18, ⟨[], .si .i64 1⟩)], [], [(7, .cells 24 [.si .i64 p.l1, .si .i64 p.h1]), (3, .cells 108 (bnX 0 4 p)), (4, .vec 51 2 (n + 1) fun i => liC (lims2 n L i)), (2, .cells 30 [.si .i64 0]), (0, .ro 2 n fun i => liC (L i))], 8, [(1000000, [.si .i64 83, .sp 2 0])]⟩ _
      refine Br.mk (fun _ => ?_) (fun h => by cases h)
      refine Chk.mk (bnd 1 5 rfl) ?_
      refine drawn_ok (g.ok _ _ _) fol [0,0,3,7,15,31,15,79,255,15,527,15,2063,7695,16383,32767,15,15,262143,15,524303,1572879,3670031,7864335,16777215,33554431,67108863] [] 26 (by kernel_rfl) ?_
      refine Chk.mk (under_of (show InK .i64 (p.l1 - p.h1) from ⟨by omega, by omega⟩)) ?_
      refine Chk.mk (under_of (show InK .i64 (p.l1 - p.h1) from ⟨by omega, by omega⟩)) ?_
      refine Chk.mk (under_of (show InK .i64 ((1 : Int) + 1) from ⟨by decide, by decide⟩)) ?_
      refine Chk.mk (under_of (show InK .i64 (farV 1 1 * p.st) from by rw [show farV 1 1 = 0 from rfl]; exact ⟨by omega, by omega⟩)) ?_
      refine Br.mk (fun h2 => by cases h2) (fun h2 => ?_)
      refine Chk.mk (ink1 1 rfl) ⟨⟨2, by omega, fun q hm hq => ?_⟩, (fun j => j), ?_, by show 5 - 2 < 5 - 1; omega⟩
      · refine hfi q hm ?_
        have := (show ∀ q ∈ clL, q.1 < q.2 by decide) q hm
        omega
      refine ⟨?_, ?_, rfl, rfl, rfl, rfl, ?_⟩ <;> repeat' (first | exact trivial | exact rfl | (intro i hi; exact ⟨rfl, rfl⟩) | refine And.intro ?_ ?_)
    · show exec _ _ ⟨[(27, ⟨[], .si .i64 2⟩), (26, ⟨[], .agg [.si .i64 p.l0, .si .i64 p.h0, .si .i64 p.l1, .si .i64 p.h1, .si .i64 p.l2, .si .i64 p.h2, .si .i64 p.l3, .si .i64 p.h3, .si .i64 p.l4, .si .i64 p.h4]⟩), (6, ⟨[], .si .i64 1⟩), (7, ⟨[], .sp 7 0⟩), (4, ⟨[], .sp 2 0⟩), (5, ⟨[], .sp 3 0⟩), (17, ⟨[], .agg [.si .i64 p.l0, .si .i64 p.h0, .si .i64 p.l1, .si .i64 p.h1, .si .i64 p.l2, .si .i64 p.h2, .si .i64 p.l3, .si .i64 p.h3, .si .i64 p.l4, .si .i64 p.h4]⟩), (18, ⟨[], .si .i64 1⟩)], [], [(7, .cells 24 [.si .i64 p.l1, .si .i64 p.h1]), (3, .cells 108 (bnX 0 4 p)), (4, .vec 51 2 (n + 1) fun i => liC (lims2 n L i)), (2, .cells 30 [.si .i64 0]), (0, .ro 2 n fun i => liC (L i))], 8, [(1000000, [.si .i64 83, .sp 2 0])]⟩ _
      refine Br.mk (fun _ => ?_) (fun h => by cases h)
      refine Chk.mk (bnd 2 5 rfl) ?_
      refine drawn_ok (g.ok _ _ _) fol [0,0,3,7,15,31,15,79,255,15,527,15,2063,7695,16383,32767,15,15,262143,15,524303,1572879,3670031,7864335,16777215,33554431,67108863] [] 26 (by kernel_rfl) ?_
      refine Chk.mk (under_of (show InK .i64 (p.l1 - p.h2) from ⟨by omega, by omega⟩)) ?_
      refine Chk.mk (under_of (show InK .i64 (p.l2 - p.h1) from ⟨by omega, by omega⟩)) ?_
      refine Chk.mk (under_of (show InK .i64 ((1 : Int) + 2) from ⟨by decide, by decide⟩)) ?_
      refine Chk.mk (under_of (show InK .i64 (farV 1 2 * p.st) from by rw [show farV 1 2 = 1 from rfl]; exact ⟨by omega, by omega⟩)) ?_
      refine Br.mk (fun h2 => ?_) (fun h2 => ?_)
      · have h2 : clB p 1 2 = true := h2
        have f01 := hfk (0, 1) (by decide) (by simp)
        have f02 := hfk (0, 2) (by decide) (by simp)
        have f03 := hfk (0, 3) (by decide) (by simp)
        have f04 := hfk (0, 4) (by decide) (by simp)
        have hv : clashV p = some (1, 2) := by simp [clashV, clL, h2, f01, f02, f03, f04]
        rw [hv] at hr
        subst hr
        exact ⟨.inl rfl, end_noid ⟨⟨rfl, rfl⟩, ⟨rfl, rfl⟩, ⟨rfl, rfl⟩, trivial⟩ rfl rfl (by repeat' (first | exact trivial | exact rfl | (intro i hi; exact ⟨rfl, rfl⟩) | refine And.intro ?_ ?_))⟩
      have h2 : clB p 1 2 = false := h2
      refine Chk.mk (ink1 2 rfl) ⟨⟨3, by omega, fun q hm hq => ?_⟩, (fun j => j), ?_, by show 5 - 3 < 5 - 2; omega⟩
      · rcases (show (q.1 < 1 ∨ q.1 = 1 ∧ q.2 < 2) ∨ q = (1, 2) by
          obtain ⟨qa, qb⟩ := q
          simp only [Prod.mk.injEq] at hq ⊢
          omega) with hq | rfl
        · exact hfk q hm hq
        · exact h2
      refine ⟨?_, ?_, rfl, rfl, rfl, rfl, ?_⟩ <;> repeat' (first | exact trivial | exact rfl | (intro i hi; exact ⟨rfl, rfl⟩) | refine And.intro ?_ ?_)
    · show exec _ _ ⟨[(27, ⟨[], .si .i64 3⟩), (26, ⟨[], .agg [.si .i64 p.l0, .si .i64 p.h0, .si .i64 p.l1, .si .i64 p.h1, .si .i64 p.l2, .si .i64 p.h2, .si .i64 p.l3, .si .i64 p.h3, .si .i64 p.l4, .si .i64 p.h4]⟩), (6, ⟨[], .si .i64 1⟩), (7, ⟨[], .sp 7 0⟩), (4, ⟨[], .sp 2 0⟩), (5, ⟨[], .sp 3 0⟩), (17, ⟨[], .agg [.si .i64 p.l0, .si .i64 p.h0, .si .i64 p.l1, .si .i64 p.h1, .si .i64 p.l2, .si .i64 p.h2, .si .i64 p.l3, .si .i64 p.h3, .si .i64 p.l4, .si .i64 p.h4]⟩), (18, ⟨[], .si .i64 1⟩)], [], [(7, .cells 24 [.si .i64 p.l1, .si .i64 p.h1]), (3, .cells 108 (bnX 0 4 p)), (4, .vec 51 2 (n + 1) fun i => liC (lims2 n L i)), (2, .cells 30 [.si .i64 0]), (0, .ro 2 n fun i => liC (L i))], 8, [(1000000, [.si .i64 83, .sp 2 0])]⟩ _
      refine Br.mk (fun _ => ?_) (fun h => by cases h)
      refine Chk.mk (bnd 3 5 rfl) ?_
      refine drawn_ok (g.ok _ _ _) fol [0,0,3,7,15,31,15,79,255,15,527,15,2063,7695,16383,32767,15,15,262143,15,524303,1572879,3670031,7864335,16777215,33554431,67108863] [] 26 (by kernel_rfl) ?_
      refine Chk.mk (under_of (show InK .i64 (p.l1 - p.h3) from ⟨by omega, by omega⟩)) ?_
      refine Chk.mk (under_of (show InK .i64 (p.l3 - p.h1) from ⟨by omega, by omega⟩)) ?_
      refine Chk.mk (under_of (show InK .i64 ((1 : Int) + 3) from ⟨by decide, by decide⟩)) ?_
      refine Chk.mk (under_of (show InK .i64 (farV 1 3 * p.st) from by rw [show farV 1 3 = 2 from rfl]; exact ⟨by omega, by omega⟩)) ?_
      refine Br.mk (fun h2 => ?_) (fun h2 => ?_)
      · have h2 : clB p 1 3 = true := h2
        have f01 := hfk (0, 1) (by decide) (by simp)
        have f02 := hfk (0, 2) (by decide) (by simp)
        have f03 := hfk (0, 3) (by decide) (by simp)
        have f04 := hfk (0, 4) (by decide) (by simp)
        have f12 := hfk (1, 2) (by decide) (by simp)
        have hv : clashV p = some (1, 3) := by simp [clashV, clL, h2, f01, f02, f03, f04, f12]
        rw [hv] at hr
        subst hr
        exact ⟨.inl rfl, end_noid ⟨⟨rfl, rfl⟩, ⟨rfl, rfl⟩, ⟨rfl, rfl⟩, trivial⟩ rfl rfl (by repeat' (first | exact trivial | exact rfl | (intro i hi; exact ⟨rfl, rfl⟩) | refine And.intro ?_ ?_))⟩
      have h2 : clB p 1 3 = false := h2
      refine Chk.mk (ink1 3 rfl) ⟨⟨4, by omega, fun q hm hq => ?_⟩, (fun j => j), ?_, by show 5 - 4 < 5 - 3; omega⟩
      · rcases (show (q.1 < 1 ∨ q.1 = 1 ∧ q.2 < 3) ∨ q = (1, 3) by
          obtain ⟨qa, qb⟩ := q
          simp only [Prod.mk.injEq] at hq ⊢
          omega) with hq | rfl
        · exact hfk q hm hq
        · exact h2
      refine ⟨?_, ?_, rfl, rfl, rfl, rfl, ?_⟩ <;> repeat' (first | exact trivial | exact rfl | (intro i hi; exact ⟨rfl, rfl⟩) | refine And.intro ?_ ?_)
    · show exec _ _ ⟨[(27, ⟨[], .si .i64 4⟩), (26, ⟨[], .agg [.si .i64 p.l0, .si .i64 p.h0, .si .i64 p.l1, .si .i64 p.h1, .si .i64 p.l2, .si .i64 p.h2, .si .i64 p.l3, .si .i64 p.h3, .si .i64 p.l4, .si .i64 p.h4]⟩), (6, ⟨[], .si .i64 1⟩), (7, ⟨[], .sp 7 0⟩), (4, ⟨[], .sp 2 0⟩), (5, ⟨[], .sp 3 0⟩), (17, ⟨[], .agg [.si .i64 p.l0, .si .i64 p.h0, .si .i64 p.l1, .si .i64 p.h1, .si .i64 p.l2, .si .i64 p.h2, .si .i64 p.l3, .si .i64 p.h3, .si .i64 p.l4, .si .i64 p.h4]⟩), (18, ⟨[], .si .i64 1⟩)], [], [(7, .cells 24 [.si .i64 p.l1, .si .i64 p.h1]), (3, .cells 108 (bnX 0 4 p)), (4, .vec 51 2 (n + 1) fun i => liC (lims2 n L i)), (2, .cells 30 [.si .i64 0]), (0, .ro 2 n fun i => liC (L i))], 8, [(1000000, [.si .i64 83, .sp 2 0])]⟩ _
      refine Br.mk (fun _ => ?_) (fun h => by cases h)
      refine Chk.mk (bnd 4 5 rfl) ?_
      refine drawn_ok (g.ok _ _ _) fol [0,0,3,7,15,31,15,79,255,15,527,15,2063,7695,16383,32767,15,15,262143,15,524303,1572879,3670031,7864335,16777215,33554431,67108863] [] 26 (by kernel_rfl) ?_
      refine Chk.mk (under_of (show InK .i64 (p.l1 - p.h4) from ⟨by omega, by omega⟩)) ?_
      refine Chk.mk (under_of (show InK .i64 (p.l4 - p.h1) from ⟨by omega, by omega⟩)) ?_
      refine Chk.mk (under_of (show InK .i64 ((1 : Int) + 4) from ⟨by decide, by decide⟩)) ?_
      refine Chk.mk (under_of (show InK .i64 (farV 1 4 * p.st) from by rw [show farV 1 4 = 1 from rfl]; exact ⟨by omega, by omega⟩)) ?_
      refine Br.mk (fun h2 => ?_) (fun h2 => ?_)
      · have h2 : clB p 1 4 = true := h2
        have f01 := hfk (0, 1) (by decide) (by simp)
        have f02 := hfk (0, 2) (by decide) (by simp)
        have f03 := hfk (0, 3) (by decide) (by simp)
        have f04 := hfk (0, 4) (by decide) (by simp)
        have f12 := hfk (1, 2) (by decide) (by simp)
        have f13 := hfk (1, 3) (by decide) (by simp)
        have hv : clashV p = some (1, 4) := by simp [clashV, clL, h2, f01, f02, f03, f04, f12, f13]
        rw [hv] at hr
        subst hr
        exact ⟨.inl rfl, end_noid ⟨⟨rfl, rfl⟩, ⟨rfl, rfl⟩, ⟨rfl, rfl⟩, trivial⟩ rfl rfl (by repeat' (first | exact trivial | exact rfl | (intro i hi; exact ⟨rfl, rfl⟩) | refine And.intro ?_ ?_))⟩
      have h2 : clB p 1 4 = false := h2
      refine Chk.mk (ink1 4 rfl) ⟨⟨5, by omega, fun q hm hq => ?_⟩, (fun j => j), ?_, by show 5 - 5 < 5 - 4; omega⟩
      · rcases (show (q.1 < 1 ∨ q.1 = 1 ∧ q.2 < 4) ∨ q = (1, 4) by
          obtain ⟨qa, qb⟩ := q
          simp only [Prod.mk.injEq] at hq ⊢
          omega) with hq | rfl
        · exact hfk q hm hq
        · exact h2
      refine ⟨?_, ?_, rfl, rfl, rfl, rfl, ?_⟩ <;> repeat' (first | exact trivial | exact rfl | (intro i hi; exact ⟨rfl, rfl⟩) | refine And.intro ?_ ?_)
    · refine Br.mk (fun h => by cases h) (fun _ => ?_)
      refine Chk.mk (ink1 1 rfl) ⟨⟨2, by omega, fun q hm hq => hfk q hm ?_⟩, (fun j => j), ?_, by show 5 - 2 < 5 - 1; omega⟩
      · have := (show ∀ q ∈ clL, q.2 < 5 by decide) q hm
        omega
      refine ⟨?_, ?_, rfl, rfl, rfl, rfl, ?_⟩ <;> repeat' (first | exact trivial | exact rfl | (intro i hi; exact ⟨rfl, rfl⟩) | refine And.intro ?_ ?_)
  · show exec _ _ ⟨[(4, ⟨[], .sp 2 0⟩), (5, ⟨[], .sp 3 0⟩), (17, ⟨[], .agg [.si .i64 p.l0, .si .i64 p.h0, .si .i64 p.l1, .si .i64 p.h1, .si .i64 p.l2, .si .i64 p.h2, .si .i64 p.l3, .si .i64 p.h3, .si .i64 p.l4, .si .i64 p.h4]⟩), (18, ⟨[], .si .i64 2⟩)], [], [(3, .cells 108 (bnX 0 4 p)), (4, .vec 51 2 (n + 1) fun i => liC (lims2 n L i)), (2, .cells 30 [.si .i64 0]), (0, .ro 2 n fun i => liC (L i))], 7, [(1000000, [.si .i64 83, .sp 2 0])]⟩ _
    refine Br.mk (fun _ => ?_) (fun h => by cases h)
    refine Chk.mk (bnd 2 5 rfl) ?_
    refine loop_okR (g.ok _ _ _) 1 (fun x : {k : Nat // k ≤ 5 ∧ ∀ q ∈ clL, q.1 < 2 ∨ q.1 = 2 ∧ q.2 < k → clB p q.1 q.2 = false} => ⟨[(27, ⟨[], .si .i64 x.1⟩), (26, ⟨[], .agg [.si .i64 p.l0, .si .i64 p.h0, .si .i64 p.l1, .si .i64 p.h1, .si .i64 p.l2, .si .i64 p.h2, .si .i64 p.l3, .si .i64 p.h3, .si .i64 p.l4, .si .i64 p.h4]⟩), (6, ⟨[], .si .i64 2⟩), (7, ⟨[], .sp 7 0⟩), (4, ⟨[], .sp 2 0⟩), (5, ⟨[], .sp 3 0⟩), (17, ⟨[], .agg [.si .i64 p.l0, .si .i64 p.h0, .si .i64 p.l1, .si .i64 p.h1, .si .i64 p.l2, .si .i64 p.h2, .si .i64 p.l3, .si .i64 p.h3, .si .i64 p.l4, .si .i64 p.h4]⟩), (18, ⟨[], .si .i64 2⟩)], [], [(7, .cells 24 [.si .i64 p.l2, .si .i64 p.h2]), (3, .cells 108 (bnX 0 4 p)), (4, .vec 51 2 (n + 1) fun i => liC (lims2 n L i)), (2, .cells 30 [.si .i64 0]), (0, .ro 2 n fun i => liC (L i))], 8, [(1000000, [.si .i64 83, .sp 2 0])]⟩) (fun x => 5 - x.1) hG ⟨0, by omega, fun q hm hq => by
      rcases hq with hq | hq
      · exact hfi q hm hq
      · omega⟩ (fun j => j) ?_ ?_
    · refine ⟨?_, ?_, rfl, rfl, rfl, rfl, ?_⟩ <;> repeat' (first | exact trivial | exact rfl | (intro i hi; exact ⟨rfl, rfl⟩) | refine And.intro ?_ ?_)
    rintro ⟨k, hk, hfk⟩
    rcases (show k = 0 ∨ k = 1 ∨ k = 2 ∨ k = 3 ∨ k = 4 ∨ k = 5 by omega) with rfl | rfl | rfl | rfl | rfl | rfl
    · show exec _ _ ⟨[(27, ⟨[], .si .i64 0⟩), (26, ⟨[], .agg [.si .i64 p.l0, .si .i64 p.h0, .si .i64 p.l1, .si .i64 p.h1, .si .i64 p.l2, .si .i64 p.h2, .si .i64 p.l3, .si .i64 p.h3, .si .i64 p.l4, .si .i64 p.h4]⟩), (6, ⟨[], .si .i64 2⟩), (7, ⟨[], .sp 7 0⟩), (4, ⟨[], .sp 2 0⟩), (5, ⟨[], .sp 3 0⟩), (17, ⟨[], .agg [.si .i64 p.l0, .si .i64 p.h0, .si .i64 p.l1, .si .i64 p.h1, .si .i64 p.l2, .si .i64 p.h2, .si .i64 p.l3, .si .i64 p.h3, .si .i64 p.l4, .si .i64 p.h4]⟩), (18, ⟨[], .si .i64 2⟩)], [], [(7, .cells 24 [.si .i64 p.l2, .si .i64 p.h2]), (3, .cells 108 (bnX 0 4 p)), (4, .vec 51 2 (n + 1) fun i => liC (lims2 n L i)), (2, .cells 30 [.si .i64 0]), (0, .ro 2 n fun i => liC (L i))], 8, [(1000000, [.si .i64 83, .sp 2 0])]⟩ _
      refine Br.mk (fun _ => ?_) (fun h => by cases h)
      refine Chk.mk (bnd 0 5 rfl) ?_
      refine drawn_ok (g.ok _ _ _) fol [0,0,3,7,15,31,15,79,255,15,527,15,2063,7695,16383,32767,15,15,262143,15,524303,1572879,3670031,7864335,16777215,33554431,67108863] [] 26 (by kernel_rfl) ?_
      refine Chk.mk (under_of (show InK .i64 (p.l2 - p.h0) from ⟨by omega, by omega⟩)) ?_
      refine Chk.mk (under_of (show InK .i64 (p.l0 - p.h2) from ⟨by omega, by omega⟩)) ?_
      refine Chk.mk (under_of (show InK .i64 ((2 : Int) + 0) from ⟨by decide, by decide⟩)) ?_
      refine Chk.mk (under_of (show InK .i64 (farV 2 0 * p.st) from by rw [show farV 2 0 = 1 from rfl]; exact ⟨by omega, by omega⟩)) ?_
      refine Br.mk (fun h2 => by cases h2) (fun h2 => ?_)
      refine Chk.mk (ink1 0 rfl) ⟨⟨1, by omega, fun q hm hq => ?_⟩, (fun j => j), ?_, by show 5 - 1 < 5 - 0; omega⟩
      · refine hfi q hm ?_
        have := (show ∀ q ∈ clL, q.1 < q.2 by decide) q hm
        omega
      refine ⟨?_, ?_, rfl, rfl, rfl, rfl, ?_⟩ <;> repeat' (first | exact trivial | exact rfl | (intro i hi; exact ⟨rfl, rfl⟩) | refine And.intro ?_ ?_)
    · show exec _ _ ⟨[(27, ⟨[], .si .i64 1⟩), (26, ⟨[], .agg [.si .i64 p.l0, .si .i64 p.h0, .si .i64 p.l1, .si .i64 p.h1, .si .i64 p.l2, .si .i64 p.h2, .si .i64 p.l3, .si .i64 p.h3, .si .i64 p.l4, .si .i64 p.h4]⟩), (6, ⟨[], .si .i64 2⟩), (7, ⟨[], .sp 7 0⟩), (4, ⟨[], .sp 2 0⟩), (5, ⟨[], .sp 3 0⟩), (17, ⟨[], .agg [.si .i64 p.l0, .si .i64 p.h0, .si .i64 p.l1, .si .i64 p.h1, .si .i64 p.l2, .si .i64 p.h2, .si .i64 p.l3, .si .i64 p.h3, .si .i64 p.l4, .si .i64 p.h4]⟩), (18, ⟨[], .si .i64 2⟩)], [], [(7, .cells 24 [.si .i64 p.l2, .si .i64 p.h2]), (3, .cells 108 (bnX 0 4 p)), (4, .vec 51 2 (n + 1) fun i => liC (lims2 n L i)), (2, .cells 30 [.si .i64 0]), (0, .ro 2 n fun i => liC (L i))], 8, [(1000000, [.si .i64 83, .sp 2 0])]⟩ _
      refine Br.mk (fun _ => ?_) (fun h => by cases h)
      refine Chk.mk (bnd 1 5 rfl) ?_
      refine drawn_ok (g.ok _ _ _) fol [0,0,3,7,15,31,15,79,255,15,527,15,2063,7695,16383,32767,15,15,262143,15,524303,1572879,3670031,7864335,16777215,33554431,67108863] [] 26 (by kernel_rfl) ?_
      refine Chk.mk (under_of (show InK .i64 (p.l2 - p.h1) from ⟨by omega, by omega⟩)) ?_
      refine Chk.mk (under_of (show InK .i64 (p.l1 - p.h2) from ⟨by omega, by omega⟩)) ?_
      refine Chk.mk (under_of (show InK .i64 ((2 : Int) + 1) from ⟨by decide, by decide⟩)) ?_
      refine Chk.mk (under_of (show InK .i64 (farV 2 1 * p.st) from by rw [show farV 2 1 = 1 from rfl]; exact ⟨by omega, by omega⟩)) ?_
      refine Br.mk (fun h2 => by cases h2) (fun h2 => ?_)
      refine Chk.mk (ink1 1 rfl) ⟨⟨2, by omega, fun q hm hq => ?_⟩, (fun j => j), ?_, by show 5 - 2 < 5 - 1; omega⟩
      · refine hfi q hm ?_
        have := (show ∀ q ∈ clL, q.1 < q.2 by decide) q hm
        omega
      refine ⟨?_, ?_, rfl, rfl, rfl, rfl, ?_⟩ <;> repeat' (first | exact trivial | exact rfl | (intro i hi; exact ⟨rfl, rfl⟩) | refine And.intro ?_ ?_)
    · show exec _ _ ⟨[(27, ⟨[], .si .i64 2⟩), (26, ⟨[], .agg [.si .i64 p.l0, .si .i64 p.h0, .si .i64 p.l1, .si .i64 p.h1, .si .i64 p.l2, .si .i64 p.h2, .si .i64 p.l3, .si .i64 p.h3, .si .i64 p.l4, .si .i64 p.h4]⟩), (6, ⟨[], .si .i64 2⟩), (7, ⟨[], .sp 7 0⟩), (4, ⟨[], .sp 2 0⟩), (5, ⟨[], .sp 3 0⟩), (17, ⟨[], .agg [.si .i64 p.l0, .si .i64 p.h0, .si .i64 p.l1, .si .i64 p.h1, .si .i64 p.l2, .si .i64 p.h2, .si .i64 p.l3, .si .i64 p.h3, .si .i64 p.l4, .si .i64 p.h4]⟩), (18, ⟨[], .si .i64 2⟩)], [], [(7, .cells 24 [.si .i64 p.l2, .si .i64 p.h2]), (3, .cells 108 (bnX 0 4 p)), (4, .vec 51 2 (n + 1) fun i => liC (lims2 n L i)), (2, .cells 30 [.si .i64 0]), (0, .ro 2 n fun i => liC (L i))], 8, [(1000000, [.si .i64 83, .sp 2 0])]⟩ _
      refine Br.mk (fun _ => ?_) (fun h => by cases h)
      refine Chk.mk (bnd 2 5 rfl) ?_
      refine drawn_ok (g.ok _ _ _) fol [0,0,3,7,15,31,15,79,255,15,527,15,2063,7695,16383,32767,15,15,262143,15,524303,1572879,3670031,7864335,16777215,33554431,67108863] [] 26 (by kernel_rfl) ?_
      refine Chk.mk (under_of (show InK .i64 (p.l2 - p.h2) from ⟨by omega, by omega⟩)) ?_
      refine Chk.mk (under_of (show InK .i64 (p.l2 - p.h2) from ⟨by omega, by omega⟩)) ?_
      refine Chk.mk (under_of (show InK .i64 ((2 : Int) + 2) from ⟨by decide, by decide⟩)) ?_
      refine Chk.mk (under_of (show InK .i64 (farV 2 2 * p.st) from by rw [show farV 2 2 = 0 from rfl]; exact ⟨by omega, by omega⟩)) ?_
      refine Br.mk (fun h2 => by cases h2) (fun h2 => ?_)
      refine Chk.mk (ink1 2 rfl) ⟨⟨3, by omega, fun q hm hq => ?_⟩, (fun j => j), ?_, by show 5 - 3 < 5 - 2; omega⟩
      · refine hfi q hm ?_
        have := (show ∀ q ∈ clL, q.1 < q.2 by decide) q hm
        omega
      refine ⟨?_, ?_, rfl, rfl, rfl, rfl, ?_⟩ <;> repeat' (first | exact trivial | exact rfl | (intro i hi; exact ⟨rfl, rfl⟩) | refine And.intro ?_ ?_)
    · show exec _ _ ⟨[(27, ⟨[], .si .i64 3⟩), (26, ⟨[], .agg [.si .i64 p.l0, .si .i64 p.h0, .si .i64 p.l1, .si .i64 p.h1, .si .i64 p.l2, .si .i64 p.h2, .si .i64 p.l3, .si .i64 p.h3, .si .i64 p.l4, .si .i64 p.h4]⟩), (6, ⟨[], .si .i64 2⟩), (7, ⟨[], .sp 7 0⟩), (4, ⟨[], .sp 2 0⟩), (5, ⟨[], .sp 3 0⟩), (17, ⟨[], .agg [.si .i64 p.l0, .si .i64 p.h0, .si .i64 p.l1, .si .i64 p.h1, .si .i64 p.l2, .si .i64 p.h2, .si .i64 p.l3, .si .i64 p.h3, .si .i64 p.l4, .si .i64 p.h4]⟩), (18, ⟨[], .si .i64 2⟩)], [], [(7, .cells 24 [.si .i64 p.l2, .si .i64 p.h2]), (3, .cells 108 (bnX 0 4 p)), (4, .vec 51 2 (n + 1) fun i => liC (lims2 n L i)), (2, .cells 30 [.si .i64 0]), (0, .ro 2 n fun i => liC (L i))], 8, [(1000000, [.si .i64 83, .sp 2 0])]⟩ _
      refine Br.mk (fun _ => ?_) (fun h => by cases h)
      refine Chk.mk (bnd 3 5 rfl) ?_
      refine drawn_ok (g.ok _ _ _) fol [0,0,3,7,15,31,15,79,255,15,527,15,2063,7695,16383,32767,15,15,262143,15,524303,1572879,3670031,7864335,16777215,33554431,67108863] [] 26 (by kernel_rfl) ?_
      refine Chk.mk (under_of (show InK .i64 (p.l2 - p.h3) from ⟨by omega, by omega⟩)) ?_
      refine Chk.mk (under_of (show InK .i64 (p.l3 - p.h2) from ⟨by omega, by omega⟩)) ?_
      refine Chk.mk (under_of (show InK .i64 ((2 : Int) + 3) from ⟨by decide, by decide⟩)) ?_
      refine Chk.mk (under_of (show InK .i64 (farV 2 3 * p.st) from by rw [show farV 2 3 = 1 from rfl]; exact ⟨by omega, by omega⟩)) ?_
      refine Br.mk (fun h2 => ?_) (fun h2 => ?_)
      · have h2 : clB p 2 3 = true := h2
        have f01 := hfk (0, 1) (by decide) (by simp)
        have f02 := hfk (0, 2) (by decide) (by simp)
        have f03 := hfk (0, 3) (by decide) (by simp)
        have f04 := hfk (0, 4) (by decide) (by simp)
        have f12 := hfk (1, 2) (by decide) (by simp)
        have f13 := hfk (1, 3) (by decide) (by simp)
        have f14 := hfk (1, 4) (by decide) (by simp)
        have hv : clashV p = some (2, 3) := by simp [clashV, clL, h2, f01, f02, f03, f04, f12, f13, f14]
        rw [hv] at hr
        subst hr
        exact ⟨.inl rfl, end_noid ⟨⟨rfl, rfl⟩, ⟨rfl, rfl⟩, ⟨rfl, rfl⟩, trivial⟩ rfl rfl (by repeat' (first | exact trivial | exact rfl | (intro i hi; exact ⟨rfl, rfl⟩) | refine And.intro ?_ ?_))⟩
      have h2 : clB p 2 3 = false := h2
      refine Chk.mk (ink1 3 rfl) ⟨⟨4, by omega, fun q hm hq => ?_⟩, (fun j => j), ?_, by show 5 - 4 < 5 - 3; omega⟩
      · rcases (show (q.1 < 2 ∨ q.1 = 2 ∧ q.2 < 3) ∨ q = (2, 3) by
          obtain ⟨qa, qb⟩ := q
          simp only [Prod.mk.injEq] at hq ⊢
          omega) with hq | rfl
        · exact hfk q hm hq
        · exact h2
      refine ⟨?_, ?_, rfl, rfl, rfl, rfl, ?_⟩ <;> repeat' (first | exact trivial | exact rfl | (intro i hi; exact ⟨rfl, rfl⟩) | refine And.intro ?_ ?_)
    · show exec _ _ ⟨[(27, ⟨[], .si .i64 4⟩), (26, ⟨[], .agg [.si .i64 p.l0, .si .i64 p.h0, .si .i64 p.l1, .si .i64 p.h1, .si .i64 p.l2, .si .i64 p.h2, .si .i64 p.l3, .si .i64 p.h3, .si .i64 p.l4, .si .i64 p.h4]⟩), (6, ⟨[], .si .i64 2⟩), (7, ⟨[], .sp 7 0⟩), (4, ⟨[], .sp 2 0⟩), (5, ⟨[], .sp 3 0⟩), (17, ⟨[], .agg [.si .i64 p.l0, .si .i64 p.h0, .si .i64 p.l1, .si .i64 p.h1, .si .i64 p.l2, .si .i64 p.h2, .si .i64 p.l3, .si .i64 p.h3, .si .i64 p.l4, .si .i64 p.h4]⟩), (18, ⟨[], .si .i64 2⟩)], [], [(7, .cells 24 [.si .i64 p.l2, .si .i64 p.h2]), (3, .cells 108 (bnX 0 4 p)), (4, .vec 51 2 (n + 1) fun i => liC (lims2 n L i)), (2, .cells 30 [.si .i64 0]), (0, .ro 2 n fun i => liC (L i))], 8, [(1000000, [.si .i64 83, .sp 2 0])]⟩ _
      refine Br.mk (fun _ => ?_) (fun h => by cases h)
      refine Chk.mk (bnd 4 5 rfl) ?_
      refine drawn_ok (g.ok _ _ _) fol [0,0,3,7,15,31,15,79,255,15,527,15,2063,7695,16383,32767,15,15,262143,15,524303,1572879,3670031,7864335,16777215,33554431,67108863] [] 26 (by kernel_rfl) ?_
      refine Chk.mk (under_of (show InK .i64 (p.l2 - p.h4) from ⟨by omega, by omega⟩)) ?_
      refine Chk.mk (under_of (show InK .i64 (p.l4 - p.h2) from ⟨by omega, by omega⟩)) ?_
      refine Chk.mk (under_of (show InK .i64 ((2 : Int) + 4) from ⟨by decide, by decide⟩)) ?_
      refine Chk.mk (under_of (show InK .i64 (farV 2 4 * p.st) from by rw [show farV 2 4 = 2 from rfl]; exact ⟨by omega, by omega⟩)) ?_
      refine Br.mk (fun h2 => ?_) (fun h2 => ?_)
      · have h2 : clB p 2 4 = true := h2
        have f01 := hfk (0, 1) (by decide) (by simp)
        have f02 := hfk (0, 2) (by decide) (by simp)
        have f03 := hfk (0, 3) (by decide) (by simp)
        have f04 := hfk (0, 4) (by decide) (by simp)
        have f12 := hfk (1, 2) (by decide) (by simp)
        have f13 := hfk (1, 3) (by decide) (by simp)
        have f14 := hfk (1, 4) (by decide) (by simp)
        have f23 := hfk (2, 3) (by decide) (by simp)
        have hv : clashV p = some (2, 4) := by simp [clashV, clL, h2, f01, f02, f03, f04, f12, f13, f14, f23]
        rw [hv] at hr
        subst hr
        exact ⟨.inl rfl, end_noid ⟨⟨rfl, rfl⟩, ⟨rfl, rfl⟩, ⟨rfl, rfl⟩, trivial⟩ rfl rfl (by repeat' (first | exact trivial | exact rfl | (intro i hi; exact ⟨rfl, rfl⟩) | refine And.intro ?_ ?_))⟩
      have h2 : clB p 2 4 = false := h2
      refine Chk.mk (ink1 4 rfl) ⟨⟨5, by omega, fun q hm hq => ?_⟩, (fun j => j), ?_, by show 5 - 5 < 5 - 4; omega⟩
      · rcases (show (q.1 < 2 ∨ q.1 = 2 ∧ q.2 < 4) ∨ q = (2, 4) by
          obtain ⟨qa, qb⟩ := q
          simp only [Prod.mk.injEq] at hq ⊢
          omega) with hq | rfl
        · exact hfk q hm hq
        · exact h2
      refine ⟨?_, ?_, rfl, rfl, rfl, rfl, ?_⟩ <;> repeat' (first | exact trivial | exact rfl | (intro i hi; exact ⟨rfl, rfl⟩) | refine And.intro ?_ ?_)
    · refine Br.mk (fun h => by cases h) (fun _ => ?_)
      refine Chk.mk (ink1 2 rfl) ⟨⟨3, by omega, fun q hm hq => hfk q hm ?_⟩, (fun j => j), ?_, by show 5 - 3 < 5 - 2; omega⟩
      · have := (show ∀ q ∈ clL, q.2 < 5 by decide) q hm
        omega
      refine ⟨?_, ?_, rfl, rfl, rfl, rfl, ?_⟩ <;> repeat' (first | exact trivial | exact rfl | (intro i hi; exact ⟨rfl, rfl⟩) | refine And.intro ?_ ?_)
  · show exec _ _ ⟨[(4, ⟨[], .sp 2 0⟩), (5, ⟨[], .sp 3 0⟩), (17, ⟨[], .agg [.si .i64 p.l0, .si .i64 p.h0, .si .i64 p.l1, .si .i64 p.h1, .si .i64 p.l2, .si .i64 p.h2, .si .i64 p.l3, .si .i64 p.h3, .si .i64 p.l4, .si .i64 p.h4]⟩), (18, ⟨[], .si .i64 3⟩)], [], [(3, .cells 108 (bnX 0 4 p)), (4, .vec 51 2 (n + 1) fun i => liC (lims2 n L i)), (2, .cells 30 [.si .i64 0]), (0, .ro 2 n fun i => liC (L i))], 7, [(1000000, [.si .i64 83, .sp 2 0])]⟩ _
    refine Br.mk (fun _ => ?_) (fun h => by cases h)
    refine Chk.mk (bnd 3 5 rfl) ?_
    refine loop_okR (g.ok _ _ _) 1 (fun x : {k : Nat // k ≤ 5 ∧ ∀ q ∈ clL, q.1 < 3 ∨ q.1 = 3 ∧ q.2 < k → clB p q.1 q.2 = false} => ⟨[(27, ⟨[], .si .i64 x.1⟩), (26, ⟨[], .agg [.si .i64 p.l0, .si .i64 p.h0, .si .i64 p.l1, .si .i64 p.h1, .si .i64 p.l2, .si .i64 p.h2, .si .i64 p.l3, .si .i64 p.h3, .si .i64 p.l4, .si .i64 p.h4]⟩), (6, ⟨[], .si .i64 3⟩), (7, ⟨[], .sp 7 0⟩), (4, ⟨[], .sp 2 0⟩), (5, ⟨[], .sp 3 0⟩), (17, ⟨[], .agg [.si .i64 p.l0, .si .i64 p.h0, .si .i64 p.l1, .si .i64 p.h1, .si .i64 p.l2, .si .i64 p.h2, .si .i64 p.l3, .si .i64 p.h3, .si .i64 p.l4, .si .i64 p.h4]⟩), (18, ⟨[], .si .i64 3⟩)], [], [(7, .cells 24 [.si .i64 p.l3, .si .i64 p.h3]), (3, .cells 108 (bnX 0 4 p)), (4, .vec 51 2 (n + 1) fun i => liC (lims2 n L i)), (2, .cells 30 [.si .i64 0]), (0, .ro 2 n fun i => liC (L i))], 8, [(1000000, [.si .i64 83, .sp 2 0])]⟩) (fun x => 5 - x.1) hG ⟨0, by omega, fun q hm hq => by
      rcases hq with hq | hq
      · exact hfi q hm hq
      · omega⟩ (fun j => j) ?_ ?_
    · refine ⟨?_, ?_, rfl, rfl, rfl, rfl, ?_⟩ <;> repeat' (first | exact trivial | exact rfl | (intro i hi; exact ⟨rfl, rfl⟩) | refine And.intro ?_ ?_)
    rintro ⟨k, hk, hfk⟩
    rcases (show k = 0 ∨ k = 1 ∨ k = 2 ∨ k = 3 ∨ k = 4 ∨ k = 5 by omega) with rfl | rfl | rfl | rfl | rfl | rfl
    · show exec _ _ ⟨[(27, ⟨[], .si .i64 0⟩), (26, ⟨[], .agg [.si .i64 p.l0, .si .i64 p.h0, .si .i64 p.l1, .si .i64 p.h1, .si .i64 p.l2, .si .i64 p.h2, .si .i64 p.l3, .si .i64 p.h3, .si .i64 p.l4, .si .i64 p.h4]⟩), (6, ⟨[], .si .i64 3⟩), (7, ⟨[], .sp 7 0⟩), (4, ⟨[], .sp 2 0⟩), (5, ⟨[], .sp 3 0⟩), (17, ⟨[], .agg [.si .i64 p.l0, .si .i64 p.h0, .si .i64 p.l1, .si .i64 p.h1, .si .i64 p.l2, .si .i64 p.h2, .si .i64 p.l3, .si .i64 p.h3, .si .i64 p.l4, .si .i64 p.h4]⟩), (18, ⟨[], .si .i64 3⟩)], [], [(7, .cells 24 [.si .i64 p.l3, .si .i64 p.h3]), (3, .cells 108 (bnX 0 4 p)), (4, .vec 51 2 (n + 1) fun i => liC (lims2 n L i)), (2, .cells 30 [.si .i64 0]), (0, .ro 2 n fun i => liC (L i))], 8, [(1000000, [.si .i64 83, .sp 2 0])]⟩ _
      refine Br.mk (fun _ => ?_) (fun h => by cases h)
      refine Chk.mk (bnd 0 5 rfl) ?_
      refine drawn_ok (g.ok _ _ _) fol [0,0,3,7,15,31,15,79,255,15,527,15,2063,7695,16383,32767,15,15,262143,15,524303,1572879,3670031,7864335,16777215,33554431,67108863] [] 26 (by kernel_rfl) ?_
      refine Chk.mk (under_of (show InK .i64 (p.l3 - p.h0) from ⟨by omega, by omega⟩)) ?_
      refine Chk.mk (under_of (show InK .i64 (p.l0 - p.h3) from ⟨by omega, by omega⟩)) ?_
      refine Chk.mk (under_of (show InK .i64 ((3 : Int) + 0) from ⟨by decide, by decide⟩)) ?_
      refine Chk.mk (under_of (show InK .i64 (farV 3 0 * p.st) from by rw [show farV 3 0 = 1 from rfl]; exact ⟨by omega, by omega⟩)) ?_
      refine Br.mk (fun h2 => by cases h2) (fun h2 => ?_)
      refine Chk.mk (ink1 0 rfl) ⟨⟨1, by omega, fun q hm hq => ?_⟩, (fun j => j), ?_, by show 5 - 1 < 5 - 0; omega⟩
      · refine hfi q hm ?_
        have := (show ∀ q ∈ clL, q.1 < q.2 by decide) q hm
        omega
      refine ⟨?_, ?_, rfl, rfl, rfl, rfl, ?_⟩ <;> repeat' (first | exact trivial | exact rfl | (intro i hi; exact ⟨rfl, rfl⟩) | refine And.intro ?_ ?_)
    · show exec _ _ ⟨[(27, ⟨[], .si .i64 1⟩), (26, ⟨[], .agg [.si .i64 p.l0, .si .i64 p.h0, .si .i64 p.l1, .si .i64 p.h1, .si .i64 p.l2, .si .i64 p.h2, .si .i64 p.l3, .si .i64 p.h3, .si .i64 p.l4, .si .i64 p.h4]⟩), (6, ⟨[], .si .i64 3⟩), (7, ⟨[], .sp 7 0⟩), (4, ⟨[], .sp 2 0⟩), (5, ⟨[], .sp 3 0⟩), (17, ⟨[], .agg [.si .i64 p.l0, .si .i64 p.h0, .si .i64 p.l1, .si .i64 p.h1, .si .i64 p.l2, .si .i64 p.h2, .si .i64 p.l3, .si .i64 p.h3, .si .i64 p.l4, .si .i64 p.h4]⟩), (18, ⟨[], .si .i64 3⟩)], [], [(7, .cells 24 [.si .i64 p.l3, .si .i64 p.h3]), (3, .cells 108 (bnX 0 4 p)), (4, .vec 51 2 (n + 1) fun i => liC (lims2 n L i)), (2, .cells 30 [.si .i64 0]), (0, .ro 2 n fun i => liC (L i))], 8, [(1000000, [.si .i64 83, .sp 2 0])]⟩ _
      refine Br.mk (fun _ => ?_) (fun h => by cases h)
      refine Chk.mk (bnd 1 5 rfl) ?_
      refine drawn_ok (g.ok _ _ _) fol [0,0,3,7,15,31,15,79,255,15,527,15,2063,7695,16383,32767,15,15,262143,15,524303,1572879,3670031,7864335,16777215,33554431,67108863] [] 26 (by kernel_rfl) ?_
      refine Chk.mk (under_of (show InK .i64 (p.l3 - p.h1) from ⟨by omega, by omega⟩)) ?_
      refine Chk.mk (under_of (show InK .i64 (p.l1 - p.h3) from ⟨by omega, by omega⟩)) ?_
      refine Chk.mk (under_of (show InK .i64 ((3 : Int) + 1) from ⟨by decide, by decide⟩)) ?_
      refine Chk.mk (under_of (show InK .i64 (farV 3 1 * p.st) from by rw [show farV 3 1 = 2 from rfl]; exact ⟨by omega, by omega⟩)) ?_
      refine Br.mk (fun h2 => by cases h2) (fun h2 => ?_)
      refine Chk.mk (ink1 1 rfl) ⟨⟨2, by omega, fun q hm hq => ?_⟩, (fun j => j), ?_, by show 5 - 2 < 5 - 1; omega⟩
      · refine hfi q hm ?_
        have := (show ∀ q ∈ clL, q.1 < q.2 by decide) q hm
        omega
      refine ⟨?_, ?_, rfl, rfl, rfl, rfl, ?_⟩ <;> repeat' (first | exact trivial | exact rfl | (intro i hi; exact ⟨rfl, rfl⟩) | refine And.intro ?_ ?_)
    · show exec _ _ ⟨[(27, ⟨[], .si .i64 2⟩), (26, ⟨[], .agg [.si .i64 p.l0, .si .i64 p.h0, .si .i64 p.l1, .si .i64 p.h1, .si .i64 p.l2, .si .i64 p.h2, .si .i64 p.l3, .si .i64 p.h3, .si .i64 p.l4, .si .i64 p.h4]⟩), (6, ⟨[], .si .i64 3⟩), (7, ⟨[], .sp 7 0⟩), (4, ⟨[], .sp 2 0⟩), (5, ⟨[], .sp 3 0⟩), (17, ⟨[], .agg [.si .i64 p.l0, .si .i64 p.h0, .si .i64 p.l1, .si .i64 p.h1, .si .i64 p.l2, .si .i64 p.h2, .si .i64 p.l3, .si .i64 p.h3, .si .i64 p.l4, .si .i64 p.h4]⟩), (18, ⟨[], .si .i64 3⟩)], [], [(7, .cells 24 [.si .i64 p.l3, .si .i64 p.h3]), (3, .cells 108 (bnX 0 4 p)), (4, .vec 51 2 (n + 1) fun i => liC (lims2 n L i)), (2, .cells 30 [.si .i64 0]), (0, .ro 2 n fun i => liC (L i))], 8, [(1000000, [.si .i64 83, .sp 2 0])]⟩ _
      refine Br.mk (fun _ => ?_) (fun h => by cases h)
      refine Chk.mk (bnd 2 5 rfl) ?_
      refine drawn_ok (g.ok _ _ _) fol [0,0,3,7,15,31,15,79,255,15,527,15,2063,7695,16383,32767,15,15,262143,15,524303,1572879,3670031,7864335,16777215,33554431,67108863] [] 26 (by kernel_rfl) ?_
      refine Chk.mk (under_of (show InK .i64 (p.l3 - p.h2) from ⟨by omega, by omega⟩)) ?_
      refine Chk.mk (under_of (show InK .i64 (p.l2 - p.h3) from ⟨by omega, by omega⟩)) ?_
      refine Chk.mk (under_of (show InK .i64 ((3 : Int) + 2) from ⟨by decide, by decide⟩)) ?_
      refine Chk.mk (under_of (show InK .i64 (farV 3 2 * p.st) from by rw [show farV 3 2 = 1 from rfl]; exact ⟨by omega, by omega⟩)) ?_
      refine Br.mk (fun h2 => by cases h2) (fun h2 => ?_)
      refine Chk.mk (ink1 2 rfl) ⟨⟨3, by omega, fun q hm hq => ?_⟩, (fun j => j), ?_, by show 5 - 3 < 5 - 2; omega⟩
      · refine hfi q hm ?_
        have := (show ∀ q ∈ clL, q.1 < q.2 by decide) q hm
        omega
      refine ⟨?_, ?_, rfl, rfl, rfl, rfl, ?_⟩ <;> repeat' (first | exact trivial | exact rfl | (intro i hi; exact ⟨rfl, rfl⟩) | refine And.intro ?_ ?_)
    · show exec _ _ ⟨[(27, ⟨[], .si .i64 3⟩), (26, ⟨[], .agg [.si .i64 p.l0, .si .i64 p.h0, .si .i64 p.l1, .si .i64 p.h1, .si .i64 p.l2, .si .i64 p.h2, .si .i64 p.l3, .si .i64 p.h3, .si .i64 p.l4, .si .i64 p.h4]⟩), (6, ⟨[], .si .i64 3⟩), (7, ⟨[], .sp 7 0⟩), (4, ⟨[], .sp 2 0⟩), (5, ⟨[], .sp 3 0⟩), (17, ⟨[], .agg [.si .i64 p.l0, .si .i64 p.h0, .si .i64 p.l1, .si .i64 p.h1, .si .i64 p.l2, .si .i64 p.h2, .si .i64 p.l3, .si .i64 p.h3, .si .i64 p.l4, .si .i64 p.h4]⟩), (18, ⟨[], .si .i64 3⟩)], [], [(7, .cells 24 [.si .i64 p.l3, .si .i64 p.h3]), (3, .cells 108 (bnX 0 4 p)), (4, .vec 51 2 (n + 1) fun i => liC (lims2 n L i)), (2, .cells 30 [.si .i64 0]), (0, .ro 2 n fun i => liC (L i))], 8, [(1000000, [.si .i64 83, .sp 2 0])]⟩ _
      refine Br.mk (fun _ => ?_) (fun h => by cases h)
      refine Chk.mk (bnd 3 5 rfl) ?_
      refine drawn_ok (g.ok _ _ _) fol [0,0,3,7,15,31,15,79,255,15,527,15,2063,7695,16383,32767,15,15,262143,15,524303,1572879,3670031,7864335,16777215,33554431,67108863] [] 26 (by kernel_rfl) ?_
      refine Chk.mk (under_of (show InK .i64 (p.l3 - p.h3) from ⟨by omega, by omega⟩)) ?_
      refine Chk.mk (under_of (show InK .i64 (p.l3 - p.h3) from ⟨by omega, by omega⟩)) ?_
      refine Chk.mk (under_of (show InK .i64 ((3 : Int) + 3) from ⟨by decide, by decide⟩)) ?_
      refine Chk.mk (under_of (show InK .i64 (farV 3 3 * p.st) from by rw [show farV 3 3 = 0 from rfl]; exact ⟨by omega, by omega⟩)) ?_
      refine Br.mk (fun h2 => by cases h2) (fun h2 => ?_)
      refine Chk.mk (ink1 3 rfl) ⟨⟨4, by omega, fun q hm hq => ?_⟩, (fun j => j), ?_, by show 5 - 4 < 5 - 3; omega⟩
      · refine hfi q hm ?_
        have := (show ∀ q ∈ clL, q.1 < q.2 by decide) q hm
        omega
      refine ⟨?_, ?_, rfl, rfl, rfl, rfl, ?_⟩ <;> repeat' (first | exact trivial | exact rfl | (intro i hi; exact ⟨rfl, rfl⟩) | refine And.intro ?_ ?_)
    · show exec _ _ ⟨[(27, ⟨[], .si .i64 4⟩), (26, ⟨[], .agg [.si .i64 p.l0, .si .i64 p.h0, .si .i64 p.l1, .si .i64 p.h1, .si .i64 p.l2, .si .i64 p.h2, .si .i64 p.l3, .si .i64 p.h3, .si .i64 p.l4, .si .i64 p.h4]⟩), (6, ⟨[], .si .i64 3⟩), (7, ⟨[], .sp 7 0⟩), (4, ⟨[], .sp 2 0⟩), (5, ⟨[], .sp 3 0⟩), (17, ⟨[], .agg [.si .i64 p.l0, .si .i64 p.h0, .si .i64 p.l1, .si .i64 p.h1, .si .i64 p.l2, .si .i64 p.h2, .si .i64 p.l3, .si .i64 p.h3, .si .i64 p.l4, .si .i64 p.h4]⟩), (18, ⟨[], .si .i64 3⟩)], [], [(7, .cells 24 [.si .i64 p.l3, .si .i64 p.h3]), (3, .cells 108 (bnX 0 4 p)), (4, .vec 51 2 (n + 1) fun i => liC (lims2 n L i)), (2, .cells 30 [.si .i64 0]), (0, .ro 2 n fun i => liC (L i))], 8, [(1000000, [.si .i64 83, .sp 2 0])]⟩ _
      refine Br.mk (fun _ => ?_) (fun h => by cases h)
      refine Chk.mk (bnd 4 5 rfl) ?_
      refine drawn_ok (g.ok _ _ _) fol [0,0,3,7,15,31,15,79,255,15,527,15,2063,7695,16383,32767,15,15,262143,15,524303,1572879,3670031,7864335,16777215,33554431,67108863] [] 26 (by kernel_rfl) ?_
      refine Chk.mk (under_of (show InK .i64 (p.l3 - p.h4) from ⟨by omega, by omega⟩)) ?_
      refine Chk.mk (under_of (show InK .i64 (p.l4 - p.h3) from ⟨by omega, by omega⟩)) ?_
      refine Chk.mk (under_of (show InK .i64 ((3 : Int) + 4) from ⟨by decide, by decide⟩)) ?_
      refine Chk.mk (under_of (show InK .i64 (farV 3 4 * p.st) from by rw [show farV 3 4 = 1 from rfl]; exact ⟨by omega, by omega⟩)) ?_
      refine Br.mk (fun h2 => ?_) (fun h2 => ?_)
      · have h2 : clB p 3 4 = true := h2
        have f01 := hfk (0, 1) (by decide) (by simp)
        have f02 := hfk (0, 2) (by decide) (by simp)
        have f03 := hfk (0, 3) (by decide) (by simp)
        have f04 := hfk (0, 4) (by decide) (by simp)
        have f12 := hfk (1, 2) (by decide) (by simp)
        have f13 := hfk (1, 3) (by decide) (by simp)
        have f14 := hfk (1, 4) (by decide) (by simp)
        have f23 := hfk (2, 3) (by decide) (by simp)
        have f24 := hfk (2, 4) (by decide) (by simp)
        have hv : clashV p = some (3, 4) := by simp [clashV, clL, h2, f01, f02, f03, f04, f12, f13, f14, f23, f24]
        rw [hv] at hr
        subst hr
        exact ⟨.inl rfl, end_noid ⟨⟨rfl, rfl⟩, ⟨rfl, rfl⟩, ⟨rfl, rfl⟩, trivial⟩ rfl rfl (by repeat' (first | exact trivial | exact rfl | (intro i hi; exact ⟨rfl, rfl⟩) | refine And.intro ?_ ?_))⟩
      have h2 : clB p 3 4 = false := h2
      refine Chk.mk (ink1 4 rfl) ⟨⟨5, by omega, fun q hm hq => ?_⟩, (fun j => j), ?_, by show 5 - 5 < 5 - 4; omega⟩
      · rcases (show (q.1 < 3 ∨ q.1 = 3 ∧ q.2 < 4) ∨ q = (3, 4) by
          obtain ⟨qa, qb⟩ := q
          simp only [Prod.mk.injEq] at hq ⊢
          omega) with hq | rfl
        · exact hfk q hm hq
        · exact h2
      refine ⟨?_, ?_, rfl, rfl, rfl, rfl, ?_⟩ <;> repeat' (first | exact trivial | exact rfl | (intro i hi; exact ⟨rfl, rfl⟩) | refine And.intro ?_ ?_)
    · refine Br.mk (fun h => by cases h) (fun _ => ?_)
      refine Chk.mk (ink1 3 rfl) ⟨⟨4, by omega, fun q hm hq => hfk q hm ?_⟩, (fun j => j), ?_, by show 5 - 4 < 5 - 3; omega⟩
      · have := (show ∀ q ∈ clL, q.2 < 5 by decide) q hm
        omega
      refine ⟨?_, ?_, rfl, rfl, rfl, rfl, ?_⟩ <;> repeat' (first | exact trivial | exact rfl | (intro i hi; exact ⟨rfl, rfl⟩) | refine And.intro ?_ ?_)
  · show exec _ _ ⟨[(4, ⟨[], .sp 2 0⟩), (5, ⟨[], .sp 3 0⟩), (17, ⟨[], .agg [.si .i64 p.l0, .si .i64 p.h0, .si .i64 p.l1, .si .i64 p.h1, .si .i64 p.l2, .si .i64 p.h2, .si .i64 p.l3, .si .i64 p.h3, .si .i64 p.l4, .si .i64 p.h4]⟩), (18, ⟨[], .si .i64 4⟩)], [], [(3, .cells 108 (bnX 0 4 p)), (4, .vec 51 2 (n + 1) fun i => liC (lims2 n L i)), (2, .cells 30 [.si .i64 0]), (0, .ro 2 n fun i => liC (L i))], 7, [(1000000, [.si .i64 83, .sp 2 0])]⟩ _
    refine Br.mk (fun _ => ?_) (fun h => by cases h)
    refine Chk.mk (bnd 4 5 rfl) ?_
    refine loop_okR (g.ok _ _ _) 1 (fun x : {k : Nat // k ≤ 5 ∧ ∀ q ∈ clL, q.1 < 4 ∨ q.1 = 4 ∧ q.2 < k → clB p q.1 q.2 = false} => ⟨[(27, ⟨[], .si .i64 x.1⟩), (26, ⟨[], .agg [.si .i64 p.l0, .si .i64 p.h0, .si .i64 p.l1, .si .i64 p.h1, .si .i64 p.l2, .si .i64 p.h2, .si .i64 p.l3, .si .i64 p.h3, .si .i64 p.l4, .si .i64 p.h4]⟩), (6, ⟨[], .si .i64 4⟩), (7, ⟨[], .sp 7 0⟩), (4, ⟨[], .sp 2 0⟩), (5, ⟨[], .sp 3 0⟩), (17, ⟨[], .agg [.si .i64 p.l0, .si .i64 p.h0, .si .i64 p.l1, .si .i64 p.h1, .si .i64 p.l2, .si .i64 p.h2, .si .i64 p.l3, .si .i64 p.h3, .si .i64 p.l4, .si .i64 p.h4]⟩), (18, ⟨[], .si .i64 4⟩)], [], [(7, .cells 24 [.si .i64 p.l4, .si .i64 p.h4]), (3, .cells 108 (bnX 0 4 p)), (4, .vec 51 2 (n + 1) fun i => liC (lims2 n L i)), (2, .cells 30 [.si .i64 0]), (0, .ro 2 n fun i => liC (L i))], 8, [(1000000, [.si .i64 83, .sp 2 0])]⟩) (fun x => 5 - x.1) hG ⟨0, by omega, fun q hm hq => by
      rcases hq with hq | hq
      · exact hfi q hm hq
      · omega⟩ (fun j => j) ?_ ?_
    · refine ⟨?_, ?_, rfl, rfl, rfl, rfl, ?_⟩ <;> repeat' (first | exact trivial | exact rfl | (intro i hi; exact ⟨rfl, rfl⟩) | refine And.intro ?_ ?_)
    rintro ⟨k, hk, hfk⟩
    rcases (show k = 0 ∨ k = 1 ∨ k = 2 ∨ k = 3 ∨ k = 4 ∨ k = 5 by omega) with rfl | rfl | rfl | rfl | rfl | rfl
    · show exec _ _ ⟨[(27, ⟨[], .si .i64 0⟩), (26, ⟨[], .agg [.si .i64 p.l0, .si .i64 p.h0, .si .i64 p.l1, .si .i64 p.h1, .si .i64 p.l2, .si .i64 p.h2, .si .i64 p.l3, .si .i64 p.h3, .si .i64 p.l4, .si .i64 p.h4]⟩), (6, ⟨[], .si .i64 4⟩), (7, ⟨[], .sp 7 0⟩), (4, ⟨[], .sp 2 0⟩), (5, ⟨[], .sp 3 0⟩), (17, ⟨[], .agg [.si .i64 p.l0, .si .i64 p.h0, .si .i64 p.l1, .si .i64 p.h1, .si .i64 p.l2, .si .i64 p.h2, .si .i64 p.l3, .si .i64 p.h3, .si .i64 p.l4, .si .i64 p.h4]⟩), (18, ⟨[], .si .i64 4⟩)], [], [(7, .cells 24 [.si .i64 p.l4, .si .i64 p.h4]), (3, .cells 108 (bnX 0 4 p)), (4, .vec 51 2 (n + 1) fun i => liC (lims2 n L i)), (2, .cells 30 [.si .i64 0]), (0, .ro 2 n fun i => liC (L i))], 8, [(1000000, [.si .i64 83, .sp 2 0])]⟩ _
      refine Br.mk (fun _ => ?_) (fun h => by cases h)
      refine Chk.mk (bnd 0 5 rfl) ?_
      refine drawn_ok (g.ok _ _ _) fol [0,0,3,7,15,31,15,79,255,15,527,15,2063,7695,16383,32767,15,15,262143,15,524303,1572879,3670031,7864335,16777215,33554431,67108863] [] 26 (by kernel_rfl) ?_
      refine Chk.mk (under_of (show InK .i64 (p.l4 - p.h0) from ⟨by omega, by omega⟩)) ?_
      refine Chk.mk (under_of (show InK .i64 (p.l0 - p.h4) from ⟨by omega, by omega⟩)) ?_
      refine Chk.mk (under_of (show InK .i64 ((4 : Int) + 0) from ⟨by decide, by decide⟩)) ?_
      refine Chk.mk (under_of (show InK .i64 (farV 4 0 * p.st) from by rw [show farV 4 0 = 1 from rfl]; exact ⟨by omega, by omega⟩)) ?_
      refine Br.mk (fun h2 => by cases h2) (fun h2 => ?_)
      refine Chk.mk (ink1 0 rfl) ⟨⟨1, by omega, fun q hm hq => ?_⟩, (fun j => j), ?_, by show 5 - 1 < 5 - 0; omega⟩
      · refine hfi q hm ?_
        have := (show ∀ q ∈ clL, q.1 < q.2 by decide) q hm
        omega
      refine ⟨?_, ?_, rfl, rfl, rfl, rfl, ?_⟩ <;> repeat' (first | exact trivial | exact rfl | (intro i hi; exact ⟨rfl, rfl⟩) | refine And.intro ?_ ?_)
    · show exec _ _ ⟨[(27, ⟨[], .si .i64 1⟩), (26, ⟨[], .agg [.si .i64 p.l0, .si .i64 p.h0, .si .i64 p.l1, .si .i64 p.h1, .si .i64 p.l2, .si .i64 p.h2, .si .i64 p.l3, .si .i64 p.h3, .si .i64 p.l4, .si .i64 p.h4]⟩), (6, ⟨[], .si .i64 4⟩), (7, ⟨[], .sp 7 0⟩), (4, ⟨[], .sp 2 0⟩), (5, ⟨[], .sp 3 0⟩), (17, ⟨[], .agg [.si .i64 p.l0, .si .i64 p.h0, .si .i64 p.l1, .si .i64 p.h1, .si .i64 p.l2, .si .i64 p.h2, .si .i64 p.l3, .si .i64 p.h3, .si .i64 p.l4, .si .i64 p.h4]⟩), (18, ⟨[], .si .i64 4⟩)], [], [(7, .cells 24 [.si .i64 p.l4, .si .i64 p.h4]), (3, .cells 108 (bnX 0 4 p)), (4, .vec 51 2 (n + 1) fun i => liC (lims2 n L i)), (2, .cells 30 [.si .i64 0]), (0, .ro 2 n fun i => liC (L i))], 8, [(1000000, [.si .i64 83, .sp 2 0])]⟩ _
      refine Br.mk (fun _ => ?_) (fun h => by cases h)
      refine Chk.mk (bnd 1 5 rfl) ?_
      refine drawn_ok (g.ok _ _ _) fol [0,0,3,7,15,31,15,79,255,15,527,15,2063,7695,16383,32767,15,15,262143,15,524303,1572879,3670031,7864335,16777215,33554431,67108863] [] 26 (by kernel_rfl) ?_
      refine Chk.mk (under_of (show InK .i64 (p.l4 - p.h1) from ⟨by omega, by omega⟩)) ?_
      refine Chk.mk (under_of (show InK .i64 (p.l1 - p.h4) from ⟨by omega, by omega⟩)) ?_
      refine Chk.mk (under_of (show InK .i64 ((4 : Int) + 1) from ⟨by decide, by decide⟩)) ?_
      refine Chk.mk (under_of (show InK .i64 (farV 4 1 * p.st) from by rw [show farV 4 1 = 1 from rfl]; exact ⟨by omega, by omega⟩)) ?_
      refine Br.mk (fun h2 => by cases h2) (fun h2 => ?_)
      refine Chk.mk (ink1 1 rfl) ⟨⟨2, by omega, fun q hm hq => ?_⟩, (fun j => j), ?_, by show 5 - 2 < 5 - 1; omega⟩
      · refine hfi q hm ?_
        have := (show ∀ q ∈ clL, q.1 < q.2 by decide) q hm
        omega
      refine ⟨?_, ?_, rfl, rfl, rfl, rfl, ?_⟩ <;> repeat' (first | exact trivial | exact rfl | (intro i hi; exact ⟨rfl, rfl⟩) | refine And.intro ?_ ?_)
    · show exec _ _ ⟨[(27, ⟨[], .si .i64 2⟩), (26, ⟨[], .agg [.si .i64 p.l0, .si .i64 p.h0, .si .i64 p.l1, .si .i64 p.h1, .si .i64 p.l2, .si .i64 p.h2, .si .i64 p.l3, .si .i64 p.h3, .si .i64 p.l4, .si .i64 p.h4]⟩), (6, ⟨[], .si .i64 4⟩), (7, ⟨[], .sp 7 0⟩), (4, ⟨[], .sp 2 0⟩), (5, ⟨[], .sp 3 0⟩), (17, ⟨[], .agg [.si .i64 p.l0, .si .i64 p.h0, .si .i64 p.l1, .si .i64 p.h1, .si .i64 p.l2, .si .i64 p.h2, .si .i64 p.l3, .si .i64 p.h3, .si .i64 p.l4, .si .i64 p.h4]⟩), (18, ⟨[], .si .i64 4⟩)], [], [(7, .cells 24 [.si .i64 p.l4, .si .i64 p.h4]), (3, .cells 108 (bnX 0 4 p)), (4, .vec 51 2 (n + 1) fun i => liC (lims2 n L i)), (2, .cells 30 [.si .i64 0]), (0, .ro 2 n fun i => liC (L i))], 8, [(1000000, [.si .i64 83, .sp 2 0])]⟩ _
      refine Br.mk (fun _ => ?_) (fun h => by cases h)
      refine Chk.mk (bnd 2 5 rfl) ?_
      refine drawn_ok (g.ok _ _ _) fol [0,0,3,7,15,31,15,79,255,15,527,15,2063,7695,16383,32767,15,15,262143,15,524303,1572879,3670031,7864335,16777215,33554431,67108863] [] 26 (by kernel_rfl) ?_
      refine Chk.mk (under_of (show InK .i64 (p.l4 - p.h2) from ⟨by omega, by omega⟩)) ?_
      refine Chk.mk (under_of (show InK .i64 (p.l2 - p.h4) from ⟨by omega, by omega⟩)) ?_
      refine Chk.mk (under_of (show InK .i64 ((4 : Int) + 2) from ⟨by decide, by decide⟩)) ?_
      refine Chk.mk (under_of (show InK .i64 (farV 4 2 * p.st) from by rw [show farV 4 2 = 2 from rfl]; exact ⟨by omega, by omega⟩)) ?_
      refine Br.mk (fun h2 => by cases h2) (fun h2 => ?_)
      refine Chk.mk (ink1 2 rfl) ⟨⟨3, by omega, fun q hm hq => ?_⟩, (fun j => j), ?_, by show 5 - 3 < 5 - 2; omega⟩
      · refine hfi q hm ?_
        have := (show ∀ q ∈ clL, q.1 < q.2 by decide) q hm
        omega
      refine ⟨?_, ?_, rfl, rfl, rfl, rfl, ?_⟩ <;> repeat' (first | exact trivial | exact rfl | (intro i hi; exact ⟨rfl, rfl⟩) | refine And.intro ?_ ?_)
    · show exec _ _ ⟨[(27, ⟨[], .si .i64 3⟩), (26, ⟨[], .agg [.si .i64 p.l0, .si .i64 p.h0, .si .i64 p.l1, .si .i64 p.h1, .si .i64 p.l2, .si .i64 p.h2, .si .i64 p.l3, .si .i64 p.h3, .si .i64 p.l4, .si .i64 p.h4]⟩), (6, ⟨[], .si .i64 4⟩), (7, ⟨[], .sp 7 0⟩), (4, ⟨[], .sp 2 0⟩), (5, ⟨[], .sp 3 0⟩), (17, ⟨[], .agg [.si .i64 p.l0, .si .i64 p.h0, .si .i64 p.l1, .si .i64 p.h1, .si .i64 p.l2, .si .i64 p.h2, .si .i64 p.l3, .si .i64 p.h3, .si .i64 p.l4, .si .i64 p.h4]⟩), (18, ⟨[], .si .i64 4⟩)], [], [(7, .cells 24 [.si .i64 p.l4, .si .i64 p.h4]), (3, .cells 108 (bnX 0 4 p)), (4, .vec 51 2 (n + 1) fun i => liC (lims2 n L i)), (2, .cells 30 [.si .i64 0]), (0, .ro 2 n fun i => liC (L i))], 8, [(1000000, [.si .i64 83, .sp 2 0])]⟩ _
      refine Br.mk (fun _ => ?_) (fun h => by cases h)
      refine Chk.mk (bnd 3 5 rfl) ?_
      refine drawn_ok (g.ok _ _ _) fol [0,0,3,7,15,31,15,79,255,15,527,15,2063,7695,16383,32767,15,15,262143,15,524303,1572879,3670031,7864335,16777215,33554431,67108863] [] 26 (by kernel_rfl) ?_
      refine Chk.mk (under_of (show InK .i64 (p.l4 - p.h3) from ⟨by omega, by omega⟩)) ?_
      refine Chk.mk (under_of (show InK .i64 (p.l3 - p.h4) from ⟨by omega, by omega⟩)) ?_
      refine Chk.mk (under_of (show InK .i64 ((4 : Int) + 3) from ⟨by decide, by decide⟩)) ?_
      refine Chk.mk (under_of (show InK .i64 (farV 4 3 * p.st) from by rw [show farV 4 3 = 1 from rfl]; exact ⟨by omega, by omega⟩)) ?_
      refine Br.mk (fun h2 => by cases h2) (fun h2 => ?_)
      refine Chk.mk (ink1 3 rfl) ⟨⟨4, by omega, fun q hm hq => ?_⟩, (fun j => j), ?_, by show 5 - 4 < 5 - 3; omega⟩
      · refine hfi q hm ?_
        have := (show ∀ q ∈ clL, q.1 < q.2 by decide) q hm
        omega
      refine ⟨?_, ?_, rfl, rfl, rfl, rfl, ?_⟩ <;> repeat' (first | exact trivial | exact rfl | (intro i hi; exact ⟨rfl, rfl⟩) | refine And.intro ?_ ?_)
    · show exec _ _ ⟨[(27, ⟨[], .si .i64 4⟩), (26, ⟨[], .agg [.si .i64 p.l0, .si .i64 p.h0, .si .i64 p.l1, .si .i64 p.h1, .si .i64 p.l2, .si .i64 p.h2, .si .i64 p.l3, .si .i64 p.h3, .si .i64 p.l4, .si .i64 p.h4]⟩), (6, ⟨[], .si .i64 4⟩), (7, ⟨[], .sp 7 0⟩), (4, ⟨[], .sp 2 0⟩), (5, ⟨[], .sp 3 0⟩), (17, ⟨[], .agg [.si .i64 p.l0, .si .i64 p.h0, .si .i64 p.l1, .si .i64 p.h1, .si .i64 p.l2, .si .i64 p.h2, .si .i64 p.l3, .si .i64 p.h3, .si .i64 p.l4, .si .i64 p.h4]⟩), (18, ⟨[], .si .i64 4⟩)], [], [(7, .cells 24 [.si .i64 p.l4, .si .i64 p.h4]), (3, .cells 108 (bnX 0 4 p)), (4, .vec 51 2 (n + 1) fun i => liC (lims2 n L i)), (2, .cells 30 [.si .i64 0]), (0, .ro 2 n fun i => liC (L i))], 8, [(1000000, [.si .i64 83, .sp 2 0])]⟩ _
      refine Br.mk (fun _ => ?_) (fun h => by cases h)
      refine Chk.mk (bnd 4 5 rfl) ?_
      refine drawn_ok (g.ok _ _ _) fol [0,0,3,7,15,31,15,79,255,15,527,15,2063,7695,16383,32767,15,15,262143,15,524303,1572879,3670031,7864335,16777215,33554431,67108863] [] 26 (by kernel_rfl) ?_
      refine Chk.mk (under_of (show InK .i64 (p.l4 - p.h4) from ⟨by omega, by omega⟩)) ?_
      refine Chk.mk (under_of (show InK .i64 (p.l4 - p.h4) from ⟨by omega, by omega⟩)) ?_
      refine Chk.mk (under_of (show InK .i64 ((4 : Int) + 4) from ⟨by decide, by decide⟩)) ?_
      refine Chk.mk (under_of (show InK .i64 (farV 4 4 * p.st) from by rw [show farV 4 4 = 0 from rfl]; exact ⟨by omega, by omega⟩)) ?_
      refine Br.mk (fun h2 => by cases h2) (fun h2 => ?_)
      refine Chk.mk (ink1 4 rfl) ⟨⟨5, by omega, fun q hm hq => ?_⟩, (fun j => j), ?_, by show 5 - 5 < 5 - 4; omega⟩
      · refine hfi q hm ?_
        have := (show ∀ q ∈ clL, q.1 < q.2 by decide) q hm
        omega
      refine ⟨?_, ?_, rfl, rfl, rfl, rfl, ?_⟩ <;> repeat' (first | exact trivial | exact rfl | (intro i hi; exact ⟨rfl, rfl⟩) | refine And.intro ?_ ?_)
    · refine Br.mk (fun h => by cases h) (fun _ => ?_)
      refine Chk.mk (ink1 4 rfl) ⟨⟨5, by omega, fun q hm hq => hfk q hm ?_⟩, (fun j => j), ?_, by show 5 - 5 < 5 - 4; omega⟩
      · have := (show ∀ q ∈ clL, q.2 < 5 by decide) q hm
        omega
      refine ⟨?_, ?_, rfl, rfl, rfl, rfl, ?_⟩ <;> repeat' (first | exact trivial | exact rfl | (intro i hi; exact ⟨rfl, rfl⟩) | refine And.intro ?_ ?_)
  · refine Br.mk (fun h => by cases h) (fun _ => ?_)
    have hv : clashV p = none := by
      refine List.find?_eq_none.2 fun q hq => ?_
      have := (show ∀ q ∈ clL, q.1 < 5 by decide) q hq
      rw [hfi q hq this]
      simp
    rw [hv] at hr
    subst hr
    exact ⟨.inl rfl, end_noid ⟨⟨rfl, rfl⟩, ⟨rfl, rfl⟩, ⟨rfl, rfl⟩, trivial⟩ rfl rfl (by repeat' (first | exact trivial | exact rfl | (intro i hi; exact ⟨rfl, rfl⟩) | refine And.intro ?_ ?_))⟩
theorem g29 {l : List (Nat × Ct)} (g : Good P T l) : Good P T ((29, c29) :: l) := g.add (k29 g) c29_mono (body_of Try.func29 (c := code Try.f29) rfl (by decide))
end Go.X.Gr
end

section
set_option linter.unusedVariables false
set_option linter.unusedSimpArgs false
set_option linter.unusedSectionVars false
/- Grade: OnesCount. -/
set_option linter.unusedVariables false
set_option linter.unusedSimpArgs false
set_option maxRecDepth 10000
set_option maxHeartbeats 4000000
namespace Go.X.Gr
open Go Go.Proofs Go.X

/-- How many of the first five bits are set. -/
def popV (x : Nat) : Nat := x % 2 + x / 2 % 2 + x / 4 % 2 + x / 8 % 2 + x / 16 % 2
def c81 : Ct := plainCt fun
  | [.si .u64 x] => some ⟨some (0 ≤ x ∧ x < 32), none, .si .i64 (popV x.toNat : Nat), []⟩
  | _ => none
theorem b101 : Body P 101 := body_of Try.func101 (c := code Try.f101) rfl (by decide)
theorem k81 {l : List (Nat × Ct)} (g0 : Good P T l) : COk P 81 c81 := by
  have g := good0
  refine cok (C := tabC _) g.ok Try.func81 (c := code Try.f81) rfl fun fr args H out h hp => ?_
  simp only [c81, plainCt] at h
  split at h
  · rename_i x
    cases h
    obtain ⟨h0, h1⟩ : 0 ≤ x ∧ x < 32 := hp
    rcases (show x = 0 ∨ x = 1 ∨ x = 2 ∨ x = 3 ∨ x = 4 ∨ x = 5 ∨ x = 6 ∨ x = 7 ∨ x = 8 ∨ x = 9 ∨ x = 10 ∨ x = 11 ∨ x = 12 ∨ x = 13 ∨ x = 14 ∨ x = 15 ∨ x = 16 ∨ x = 17 ∨ x = 18 ∨ x = 19 ∨ x = 20 ∨ x = 21 ∨ x = 22 ∨ x = 23 ∨ x = 24 ∨ x = 25 ∨ x = 26 ∨ x = 27 ∨ x = 28 ∨ x = 29 ∨ x = 30 ∨ x = 31 by omega) with rfl | rfl | rfl | rfl | rfl | rfl | rfl | rfl | rfl | rfl | rfl | rfl | rfl | rfl | rfl | rfl | rfl | rfl | rfl | rfl | rfl | rfl | rfl | rfl | rfl | rfl | rfl | rfl | rfl | rfl | rfl | rfl
    all_goals
      refine walk_plain rfl (Nat.le_of_ble_eq_true rfl) fun G hG => ?_
      refine Br.mk (fun h => by cases h) (fun _ => ?_)
      refine fb_call (g.ok _ _ _) cont_std rfl rfl rfl rfl ?_
      refine ⟨b101, ?_⟩
      refine callS_exec g.ok Try.func101 (c := code Try.f101) rfl (Nat.le_of_ble_eq_true rfl) fun G2 hG2 => ?_
      repeat refine Chk.mk (by first | decide | (refine ⟨?_, ?_⟩ <;> decide) | (refine ⟨?_, ?_, ⟨?_, ?_⟩, ⟨?_, ?_⟩⟩ <;> decide)) ?_
      exact ⟨.inl rfl, end_plain ⟨rfl, rfl⟩ rfl rfl⟩
  · cases h
theorem g81 {l : List (Nat × Ct)} (g : Good P T l) : Good P T ((81, c81) :: l) := g.add (k81 g) (plainCt_mono _) (body_of Try.func81 (c := code Try.f81) rfl (by decide))
end Go.X.Gr
end

section
set_option linter.unusedVariables false
set_option linter.unusedSimpArgs false
set_option linter.unusedSectionVars false
/- Grade: whether all faces of lapped blocks keep a limit. -/
set_option linter.unusedVariables false
set_option linter.unusedSimpArgs false
set_option maxRecDepth 10000
set_option maxHeartbeats 4000000
namespace Go.X.Gr
open Go Go.Proofs Go.X

def lapB (g : Pts) (v : Int) (l : Int × Int) : Bool := (facesV (lkL v) g).all fun p => keepsP p.1 l
def c71 : Ct := fun fr args H => match args with
  | [.si .i64 v, .sp bx 0, .sp gx 0, .sp qx 0] => (match H bx, H gx, H qx with
    | some (.cells 64 [.sp bid 0]), some (.cells 27 gl), some (.cells 3 [.si .i64 q]) => benchK H bid fun g n get m get2 => gradeK H gl fun i1 g' n' get' =>
      some ⟨some (Lims n get ∧ Lims m get2 ∧ Lims n' get' ∧ ptsB g ∧ sm v ∧ 0 ≤ q ∧ q < (n' : Int)), none, .sb (lapB g v (liAt get' q.toNat)), []⟩
    | _, _, _ => none)
  | _ => none
theorem b71 : Body P 71 := body_of Try.func71 (c := code Try.f71) rfl (by decide)
def lpH (n m k : Nat) (g g' : Pts) (l1 l2 l3 : Nat → Int × Int) (q : Int) : List (Nat × HB) := [(0, .ro 2 n fun i => liC (l1 i)), (1, .cells 108 (bnC g)), (2, .ro 2 m fun i => liC (l2 i)), (3, .cells 64 [.sp 1 0]), (4, .cells 27 (grA 6 g')), (5, .cells 3 [.si .i64 q]), (6, .ro 2 k fun i => liC (l3 i))]
theorem k71 {l : List (Nat × Ct)} (g0 : Good P T l) : COk P 71 c71 := by
  have g := g72 (g73 good0)
  refine cok (C := tabC _) g.ok Try.func71 (c := code Try.f71) rfl fun fr args H out h hp => ?_
  unfold c71 at h
  split at h
  case h_2 => cases h
  rename_i v bx gx qx
  split at h
  case h_2 => cases h
  rename_i bid gl q e4 e5 e6
  obtain ⟨i1, i2, p, n, get, m, get2, e1, e2, e3, h⟩ := benchK_some h
  obtain ⟨i3, p', k, get3, rfl, e7, h⟩ := gradeK_some h
  cases h
  obtain ⟨hs, hs2, hs3, hb, hv, hq1, hq2⟩ : Lims n get ∧ Lims m get2 ∧ Lims k get3 ∧ ptsB p ∧ sm v ∧ 0 ≤ q ∧ q < (k : Int) := hp
  have hh : Hand H [(i1, .ro 2 n fun i => liC (liAt get i)), (bid, .cells 108 (bnC p)), (i2, .ro 2 m fun i => liC (liAt get2 i)), (bx, .cells 64 [.sp 1 0]), (gx, .cells 27 (grA 6 p')), (qx, .cells 3 [.si .i64 q]), (i3, .ro 2 k fun i => liC (liAt get3 i))] := hand_mk
    ⟨sliceOf_piece e2 fun i hi => by rw [hs i hi]; rfl, e1, sliceOf_piece e3 fun i hi => by rw [hs2 i hi]; rfl, e4, e5, e6, sliceOf_piece e7 fun i hi => by rw [hs3 i hi]; rfl, trivial⟩
    (by repeat' (first | exact trivial | (intro i hi; exact ⟨trivial, trivial, trivial⟩) | refine And.intro ?_ ?_ | exact (by decide : (0 : Nat) < 7) | exact (by decide : (1 : Nat) < 7) | exact (by decide : (2 : Nat) < 7) | exact (by decide : (6 : Nat) < 7))) rfl
  refine ⟨_, [.si .i64 v, .sp 3 0, .sp 4 0, .sp 5 0], lpH n m k p p' (liAt get) (liAt get2) (liAt get3) q, 7, [], rfl, rfl, Nat.le_of_ble_eq_true rfl, hh, rfl, rfl, fun G hG => ?_⟩
  generalize liAt get = l1
  generalize liAt get2 = l2
  generalize liAt get3 = l3
  refine Chk.mk ⟨⟨lims_i _ _, lims_i _ _, hb⟩, hv⟩ ?_
  obtain ⟨Fv, hFv⟩ : ∃ Fv, facesV (lkL v) p = Fv := ⟨_, rfl⟩
  have hlap : lapB p v (l3 q.toNat) = Fv.all fun x => keepsP x.1 (l3 q.toNat) := by rw [lapB, hFv]
  generalize lapB p v (l3 q.toNat) = R at hlap ⊢
  refine fb_range encF encB Fv 7 (g.ok _ _ _) cont_std rfl rfl rfl rfl rfl rfl rfl encF_key encB_cl rfl (by rw [← hFv]; rfl) ?_
  intro hnd ts clock hts
  refine loop_okR (g.ok _ _ _) 7 (fun x : {z : List ((Fc × Bool) × Nat) × List ((Fc × Bool) × Nat) // ts.Perm (z.1 ++ z.2) ∧ ∀ y ∈ z.1, keepsP y.1.1 (l3 q.toNat) = true} => ⟨[(2, ⟨[], .sp 4 0⟩), (3, ⟨[], .sp 5 0⟩), (12, ⟨[], .sp 11 0⟩)], [],
    [(11, .it 7 clock (x.1.1.map (·.2)) clock), (7, .map (encS encF encB ts) clock)] ++ lpH n m k p p' l1 l2 l3 q, 12, []⟩) (fun x => x.1.2.length) hG ⟨([], ts), by simp, fun y hy => by cases hy⟩ (fun j => j) ?_ ?_
  · refine ⟨?_, ?_, rfl, rfl, rfl, rfl, trivial⟩
    · repeat' (first | exact trivial | exact rfl | refine And.intro ?_ ?_)
    · repeat' (first | exact trivial | exact rfl | (intro i hi; exact ⟨rfl, rfl⟩) | refine allV_find ?_ | refine And.intro ?_ ?_)
  · rintro ⟨⟨vis, rest⟩, hpm0, hkeep⟩
    refine fb_next encF encB 7 11 clock ts vis rest (g.ok _ _ _) cont_std rfl rfl rfl rfl rfl encF_key encB_cl rfl rfl rfl hpm0 ⟨fun hr => ?_, ?_⟩
    · replace hr : rest = [] := hr
      subst hr
      have hv : ts.Perm vis := by simpa using hpm0
      refine Br.mk (fun h => by cases h) (fun _ => ?_)
      have hR : R = true := by
        rw [hlap, List.all_eq_true]
        intro x hx
        obtain ⟨y, hy, rfl⟩ := List.mem_map.1 (hts.mem_iff.2 hx)
        exact hkeep y (hv.mem_iff.1 hy)
      rw [hR]
      exact ⟨.inl rfl, end_noid rfl rfl rfl (by repeat' (first | exact trivial | exact rfl | (intro i hi; exact ⟨rfl, rfl⟩) | refine And.intro ?_ ?_))⟩
    · rintro ⟨⟨⟨a, b⟩, bb⟩, st⟩ rest' hrest
      refine Br.mk (fun _ => ?_) (fun h => by cases h)
      have hpts : (((a, b), bb), st) ∈ ts := hpm0.mem_iff.2 (List.mem_append_right _ (hrest.mem_iff.2 List.mem_cons_self))
      refine fb_entry encF encB 7 11 clock ts vis (((a, b), bb), st) (g.ok _ _ _) cont_std rfl rfl rfl rfl rfl encF_key encB_cl rfl rfl rfl hpts ?_
      refine (show SemC _ _ _ _ from ?_)
      refine drawn_ok (g.ok _ _ _) fol [0,0,2,0,14,30,63,127] [] 8 (by kernel_rfl) ?_
      refine Chk.mk (show 0 ≤ q ∧ q < (k : Int) from ⟨hq1, hq2⟩) ?_
      refine Br.mk (fun h2 => ?_) (fun h2 => ?_)
      · have h2 : (!keepsP (a, b) (l3 q.toNat)) = true := h2
        have h2 : keepsP (a, b) (l3 q.toNat) = false := by simpa using h2
        have hR : R = false := by
          rw [hlap]
          refine Bool.eq_false_iff.2 fun ha => ?_
          have h3 := List.all_eq_true.1 ha ((a, b), bb) (hts.mem_iff.1 (List.mem_map_of_mem (f := fun x => x.1) hpts))
          rw [h2] at h3; cases h3
        rw [hR]
        exact ⟨.inl rfl, end_noid rfl rfl rfl (by repeat' (first | exact trivial | exact rfl | (intro i hi; exact ⟨rfl, rfl⟩) | refine And.intro ?_ ?_))⟩
      · have h2 : (!keepsP (a, b) (l3 q.toNat)) = false := h2
        have h2 : keepsP (a, b) (l3 q.toNat) = true := by simpa using h2
        have hpm : ts.Perm ((vis ++ [(((a, b), bb), st)]) ++ rest') := by
          rw [List.append_assoc]
          exact hpm0.trans (List.Perm.append_left _ hrest)
        refine ⟨⟨(vis ++ [(((a, b), bb), st)], rest'), hpm, fun y hy => ?_⟩, (fun j => j), ?_, (by show rest'.length < rest.length; rw [hrest.length_eq]; simp)⟩
        · rcases List.mem_append.1 hy with hy | hy
          · exact hkeep y hy
          · rw [List.mem_singleton.1 hy]; exact h2
        · refine ⟨?_, ?_, rfl, rfl, rfl, rfl, trivial⟩
          · repeat' (first | exact trivial | exact rfl | refine And.intro ?_ ?_)
          · repeat' (first | exact trivial | exact rfl | (intro i hi; exact ⟨rfl, rfl⟩) | refine allV_find ?_ | refine And.intro ?_ ?_)
end Go.X.Gr
end

section
set_option linter.unusedVariables false
set_option linter.unusedSimpArgs false
set_option linter.unusedSectionVars false
/- Grade: Lap. -/
set_option linter.unusedVariables false
set_option linter.unusedSimpArgs false
set_option maxRecDepth 10000
set_option maxHeartbeats 4000000
namespace Go.X.Gr
open Go Go.Proofs Go.X

theorem b69 : Body P 69 := body_of Try.func69 (c := code Try.f69) rfl (by decide)
theorem b70 : Body P 70 := body_of Try.func70 (c := code Try.f70) rfl (by decide)
/-- The greatest level by which a limit is kept. -/
def lapV (g : Pts) (l : Int × Int) : Option Nat := (List.range 41).find? fun j => lapB g (20 - (j : Int)) l
theorem lapV_some {g : Pts} {l : Int × Int} {j : Nat} (hj : j < 41) (h : lapB g (20 - (j : Int)) l = true) (hf : ∀ i, i < j → lapB g (20 - (i : Int)) l = false) : lapV g l = some j := by
  unfold lapV
  rw [List.find?_range_eq_some]
  exact ⟨h, List.mem_range.2 hj, fun i hi => by rw [hf i hi]; rfl⟩
def resL (g : Pts) (L : List (Int × Int)) (q : Int) : Int × Int := if errT g L (isG L q) = 0 then (match lapV g (L.getD q.toNat (0, 0)) with
  | some j => (20 - (j : Int), 0)
  | none => (0, 4)) else (0, errT g L (isG L q))
def c25 : Ct := fun fr args H => match args with
  | [.agg l, .si .i64 q] => gradeK H l fun i1 g n get => some ⟨some (Lims n get ∧ n ≤ 1000000), none, .tup [.si .i64 (resL g (limsL n get) q).1, .si .i64 (resL g (limsL n get) q).2], []⟩
  | _ => none
theorem c25_mono : CtMono c25 := by
  intro fr args H H' out hH h
  unfold c25 at h ⊢
  split at h
  · exact gradeK_mono hH h
  · cases h
theorem k25 {l : List (Nat × Ct)} (g0 : Good P T l) : COk P 25 c25 := by
  have g := g47 (g61 (g65 (g74 good0)))
  refine cokCM (C := tabC _) g.ok an68 Try.func25 (c := code Try.f25) rfl fun fr args H out h hp => ?_
  unfold c25 at h
  split at h
  case h_2 => cases h
  rename_i l q
  obtain ⟨i1, p, n, get, rfl, e1, h⟩ := gradeK_some h
  cases h
  obtain ⟨hs, hn⟩ : Lims n get ∧ n ≤ 1000000 := hp
  have hh : Hand H [(i1, .ro 2 n fun i => liC (liAt get i))] := hand_one e1 (fun i => rfl) (fun i hi => (hs i hi).symm)
  refine ⟨[(i1, .ro 2 n fun i => liC (liAt get i))], [.agg (grA 0 p), .si .i64 q], [(0, .ro 2 n fun i => liC (liAt get i))], 1, [], rfl, rfl, Nat.le_of_ble_eq_true rfl, hh, rfl, rfl, fun G hG => ?_⟩
  have hlen : (limsL n get).length = n := by simp [limsL]
  have his : isG (limsL n get) q = inB q 0 ((n : Int) - 1) := by rw [isG, hlen]
  have hrU : resL p (limsL n get) q = if errT p (limsL n get) (inB q 0 ((n : Int) - 1)) = 0 then (match lapV p ((limsL n get).getD q.toNat (0, 0)) with
    | some j => (20 - (j : Int), 0)
    | none => (0, 4)) else (0, errT p (limsL n get) (inB q 0 ((n : Int) - 1))) := by rw [resL, his]
  generalize resL p (limsL n get) q = U at hrU ⊢
  have hget : 0 ≤ q → q < (n : Int) → (limsL n get).getD q.toNat (0, 0) = liAt get q.toNat := fun h1 h2 => by
    rw [List.getD_eq_getElem?_getD, limsL, List.getElem?_map, List.getElem?_range (by omega)]
    rfl
  generalize hL : limsL n get = L at *
  have hL' : (List.range n).map (liAt get) = L := hL
  refine fb_deferC 68 3 (g.ok _ _ _) rfl cont_std rfl rfl rfl rfl rfl rfl rfl ?_
  refine drawn_ok (g.ok _ _ _) fol [0,0,0,6,15,31,0,127] [(7, 28)] 8 (by kernel_rfl) ?_
  refine Chk.mk ⟨lims_i _ _, hn⟩ (Chk.mk ⟨lims_i _ _, hn⟩ ?_)
  refine Br.mk (fun h => ?_) (fun h => ?_)
  · have h : (!decide (errG p ((List.range n).map (liAt get)) (inB q 0 ((n : Int) - 1)) = 0)) = true := h
    rw [hL'] at h
    have h : ¬ errG p L (inB q 0 ((n : Int) - 1)) = 0 := by simpa using h
    have he : errT p L (inB q 0 ((n : Int) - 1)) = errG p L (inB q 0 ((n : Int) - 1)) := by rw [errT, if_neg h]
    rw [he, if_neg h] at hrU
    subst hrU
    refine ⟨.inl rfl, end_noid ⟨⟨rfl, rfl⟩, ⟨rfl, ?_⟩, trivial⟩ rfl rfl (by repeat' (first | exact trivial | exact rfl | (intro i hi; exact ⟨rfl, rfl⟩) | refine allV_find ?_ | refine And.intro ?_ ?_))⟩
    show errG p ((List.range n).map (liAt get)) (inB q 0 ((n : Int) - 1)) = errG p L (inB q 0 ((n : Int) - 1))
    rw [hL']
  have h : (!decide (errG p ((List.range n).map (liAt get)) (inB q 0 ((n : Int) - 1)) = 0)) = false := h
  rw [hL'] at h
  have h : errG p L (inB q 0 ((n : Int) - 1)) = 0 := by simpa using h
  obtain ⟨hb, hl1, hl2⟩ := gradeOk_b (errG_zero h).1
  have hq : 0 ≤ q ∧ q < (n : Int) := by
    have := (errG_zero h).2
    simp only [inB, Bool.and_eq_true, decide_eq_true_eq] at this
    omega
  refine Chk.mk ⟨lims_i _ _, lims_i _ _, hb⟩ ?_
  refine Br.mk (fun h2 => ?_) (fun h2 => ?_)
  · have h2 : (!hasB p) = true := h2
    have h2 : hasB p = false := by simpa using h2
    have he : errT p L (inB q 0 ((n : Int) - 1)) = 10 := by rw [errT, if_pos h, h2]; rfl
    rw [he] at hrU
    subst hrU
    exact ⟨.inl rfl, end_noid ⟨⟨rfl, rfl⟩, ⟨rfl, rfl⟩, trivial⟩ rfl rfl (by repeat' (first | exact trivial | exact rfl | (intro i hi; exact ⟨rfl, rfl⟩) | refine allV_find ?_ | refine And.intro ?_ ?_))⟩
  have h2 : (!hasB p) = false := h2
  have h2 : hasB p = true := by simpa using h2
  have he : errT p L (inB q 0 ((n : Int) - 1)) = 0 := by rw [errT, if_pos h, h2]; rfl
  rw [he, if_pos rfl, hget hq.1 hq.2] at hrU
  obtain ⟨lm, hlm⟩ : ∃ lm, liAt get q.toNat = lm := ⟨_, rfl⟩
  rw [hlm] at hrU
  refine fb_call (g.ok _ _ _) cont_std rfl rfl rfl rfl ?_
  refine ⟨b69, ?_⟩
  refine callS_execM g.ok Try.func69 (c := code Try.f69) rfl (Nat.le_of_ble_eq_true rfl) fun G3 hG3 => ?_
  refine (show SemC _ _ _ _ from ?_)
  refine weaken (g.ok _ _ _) (st' := ⟨[(3, ⟨[], .sp 36 0⟩), (4, ⟨[], .sp 37 0⟩), (5, ⟨[], .sp 38 0⟩), (7, ⟨[], .fn (.func 70) [] []⟩)], [],
    [(38, .cells 4 [.sb false]), (37, .cells 3 [.si .i64 0]), (36, .cells 95 [.fn (.func 71) [] [.sp 28 0, .sp 1 0, .sp 2 0]]), (28, .cells 64 [.sp 20 0]), (20, .cells 108 (bnX 0 21 p)), (21, .vec 51 2 (n + 1) fun i => liC (lims2 n (liAt get) i)), (3, .cells 30 [.si .i64 0]), (2, .cells 3 [.si .i64 q]), (1, .cells 27 (grA 0 p)), (0, .ro 2 n fun i => liC (liAt get i))], 39, []⟩) 36 (fun j => j) hG3 ?_ ?_
  · refine ⟨?_, ?_, injI_id _, rfl, rfl, rfl, trivial⟩ <;> repeat' (first | exact trivial | exact rfl | (intro i hi; exact ⟨rfl, rfl⟩) | refine allV_find ?_ | refine And.intro ?_ ?_)
  refine rangeFunc_ok (g.ok _ _ _) rfl rfl rfl b70 ?_
  intro fn
  refine callS_exec g.ok Try.func70 (c := code Try.f70) rfl (Nat.le_of_ble_eq_true rfl) fun G4 hG4 => ?_
  refine loop_okR (g.ok _ _ _) 41 (fun x : {j : Nat // j ≤ 41 ∧ ∀ i, i < j → lapB p (20 - (i : Int)) lm = false} => ⟨[(0, ⟨[], .fy 40⟩), (2, ⟨[], .si .i64 (20 - (x.1 : Int))⟩)], [],
    [(40, .loop [(3, .sp 36 0), (4, .sp 37 0), (5, .sp 38 0), (7, .fn (.func 70) [] [])] Try.f69.ntmps fn [8] (rfA (code Try.f69)) (rfB (code Try.f69)) 39 .ready none), (39, .dfr), (38, .cells 4 [.sb false]), (37, .cells 3 [.si .i64 0]), (36, .cells 95 [.fn (.func 71) [] [.sp 28 0, .sp 1 0, .sp 2 0]]), (28, .cells 64 [.sp 20 0]), (20, .cells 108 (bnX 0 21 p)), (21, .vec 51 2 (n + 1) fun i => liC (lims2 n (liAt get) i)), (3, .cells 30 [.si .i64 0]), (2, .cells 3 [.si .i64 q]), (1, .cells 27 (grA 0 p)), (0, .ro 2 n fun i => liC (liAt get i))], 41, []⟩) (fun x => 41 - x.1) hG4 ⟨0, by omega, fun i hi => by omega⟩ (fun j => j) ?_ ?_
  · refine ⟨?_, ?_, injI_id _, fixI_id _, rfl, rfl, trivial⟩ <;> repeat' (first | exact trivial | exact rfl | (intro i hi; exact ⟨rfl, rfl⟩) | refine allV_find ?_ | refine And.intro ?_ ?_)
  rintro ⟨j, hj, hfj⟩
  refine Br.mk (fun h3 => ?_) (fun h3 => ?_)
  · have h3 : (20 - (j : Int)) ≥ -20 := of_decide_eq_true h3
    refine fb_yield 40 g.ok (g.ok _ _ _) cont_std rfl rfl rfl rfl rfl rfl rfl rfl rfl (by decide) ?_
    intro G5 r hG5
    refine fb_call (g.ok _ _ _) cont_std rfl rfl rfl rfl ?_
    refine ⟨b71, ?_⟩
    refine callS_ct (k71 good0) rfl ⟨lims_i _ _, lims_i _ _, lims_i _ _, hb, (show sm (20 - (j : Int)) from ⟨by omega, by omega⟩), hq.1, hq.2⟩ (fun _ => ?_) (fun ch h => by cases h)
    refine Br.mk (fun h4 => ?_) (fun h4 => ?_)
    · have h4 : lapB p (20 - (j : Int)) (liAt get q.toNat) = true := h4
      rw [hlm] at h4
      have hv : lapV p lm = some j := by
        exact lapV_some (by omega) h4 hfj
      rw [hv] at hrU
      subst hrU
      refine Br.mk (fun _ => ?_) (fun h => by cases h)
      refine Br.mk (fun h => by cases h) (fun _ => ?_)
      exact ⟨.inl rfl, end_noid ⟨⟨rfl, rfl⟩, ⟨rfl, rfl⟩, trivial⟩ rfl rfl (by repeat' (first | exact trivial | exact rfl | (intro i hi; exact ⟨rfl, rfl⟩) | refine allV_find ?_ | refine And.intro ?_ ?_))⟩
    · have h4 : lapB p (20 - (j : Int)) (liAt get q.toNat) = false := h4
      rw [hlm] at h4
      refine Br.mk (fun h => by cases h) (fun _ => ?_)
      refine Chk.mk (show InK .i64 (20 - (j : Int) - 1) from ⟨by omega, by omega⟩) ⟨⟨j + 1, by omega, fun i hi => ?_⟩, (fun j => j), ?_, by show 41 - (j + 1) < 41 - j; omega⟩
      · rcases (show i < j ∨ i = j by omega) with hi | rfl
        · exact hfj i hi
        · exact h4
      refine ⟨?_, ?_, injI_id _, fixI_id _, rfl, rfl, trivial⟩ <;> repeat' (first | exact trivial | exact rfl | (intro i hi; exact ⟨rfl, rfl⟩) | refine allV_find ?_ | (show 20 - (j : Int) - 1 = 20 - ((j + 1 : Nat) : Int); omega) | refine And.intro ?_ ?_)
  · have h3 : ¬ (20 - (j : Int)) ≥ -20 := of_decide_eq_false h3
    obtain rfl : j = 41 := by omega
    have hv : lapV p lm = none := List.find?_eq_none.2 fun i hi => by
      rw [hfj i (List.mem_range.1 hi)]
      simp
    rw [hv] at hrU
    subst hrU
    refine Br.mk (fun _ => ?_) (fun h => by cases h)
    exact ⟨.inl rfl, end_noid ⟨⟨rfl, rfl⟩, ⟨rfl, rfl⟩, trivial⟩ rfl rfl (by repeat' (first | exact trivial | exact rfl | (intro i hi; exact ⟨rfl, rfl⟩) | refine allV_find ?_ | refine And.intro ?_ ?_))⟩
theorem g25 {l : List (Nat × Ct)} (g : Good P T l) : Good P T ((25, c25) :: l) := g.add (k25 g) c25_mono (body_of Try.func25 (c := code Try.f25) rfl (by decide))
end Go.X.Gr
end
