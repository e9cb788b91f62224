/- The walk of GradeClash. -/
import Derived.Test.YtafggknckgmkaaaNK
import Derived.Test.YtafggknckgmkaaaNI

section
set_option linter.unusedVariables false
set_option linter.unusedSimpArgs false
set_option linter.unusedSectionVars false
/- Grade: the walk of GradeClash. -/
set_option linter.unusedVariables false
set_option linter.unusedSimpArgs false
set_option maxRecDepth 10000
set_option maxHeartbeats 4000000
namespace Go.X.Gr
open Go Go.Proofs Go.X

theorem clX (a b c : Int) : (decide (a > c) || decide (b > c)) = decide (max a b > c) := by
  rw [Bool.eq_iff_iff, Bool.or_eq_true, decide_eq_true_eq, decide_eq_true_eq, decide_eq_true_eq]
  omega
def c11 : Ct := fun fr args H => match args with
  | [.agg l] => gradeK H l fun i1 g n get => some ⟨some (Lims n get), none, .sb true, []⟩
  | _ => none
theorem c11_mono : CtMono c11 := by
  intro fr args H H' out hH h
  unfold c11 at h ⊢
  split at h
  · exact gradeK_mono hH h
  · cases h
theorem k11 {l : List (Nat × Ct)} (g0 : Good P T l) : COk P 11 c11 := by
  have g := g14 (g39 (g40 (g29 (g15 good0))))
  refine cok (C := tabC _) g.ok Try.func11 (c := code Try.f11) rfl fun fr args H out h hp => ?_
  unfold c11 at h
  split at h
  case h_2 => cases h
  rename_i l
  obtain ⟨i1, p, n, get, rfl, e1, h⟩ := gradeK_some h
  cases h
  have hs : Lims n get := hp
  have hh : Hand H [(i1, .ro 2 n fun i => liC (liAt get i))] := hand_one e1 (fun i => rfl) (fun i hi => (hs i hi).symm)
  refine ⟨[(i1, .ro 2 n fun i => liC (liAt get i))], [.agg (grA 0 p)], [(0, .ro 2 n fun i => liC (liAt get i))], 1, [], rfl, rfl, Nat.le_of_ble_eq_true rfl, hh, rfl, rfl, fun G hG => ?_⟩
  generalize liAt get = L
  refine Chk.mk (lims_i _ _) ?_
  refine Chk.mk (fun h => ⟨lims_i _ _, by have h : decide ((n : Int) > 40) = false := h; have := of_decide_eq_false h; omega⟩) ?_
  refine Br.mk (fun h => ?_) (fun h => ?_)
  · exact ⟨.inl rfl, end_noid rfl rfl rfl (by repeat' (first | exact trivial | exact rfl | (intro i hi; exact ⟨rfl, rfl⟩) | refine And.intro ?_ ?_))⟩
  have h : (decide ((n : Int) > 40) || !gradeOk p ((List.range n).map L)) = false := h
  obtain ⟨hn40, hok⟩ : n ≤ 40 ∧ gradeOk p ((List.range n).map L) = true := by
    rw [Bool.or_eq_false_iff, decide_eq_false_iff_not, Bool.not_eq_false'] at h
    exact ⟨by omega, h.2⟩
  obtain ⟨hb, hl1, hl2⟩ := gradeOk_b hok
  have hn1 : 1 ≤ n := by simpa using hl1
  have hn4 : n ≤ 4 := by simpa using hl2
  have ho := gradeOk_o hok
  have ho2 := ho
  unfold ptsO at ho2
  have hlim : Lims n (fun i => liC (L i)) ∧ n ≤ 1000000 := ⟨lims_i _ _, by omega⟩
  refine Chk.mk hlim ?_
  refine Chk.mk hlim ?_
  have hV := errS_ok (F := ptV 0) hok
  have hrc := resC_ok hok
  have hcl := clashV_none ho
  obtain ⟨R, hR⟩ : ∃ R, resC p ((List.range n).map L) = R := ⟨_, rfl⟩
  have hR1 : (resC p ((List.range n).map L)).1 = R.1 := congrArg (fun r => r.1) hR
  have hR2 : (resC p ((List.range n).map L)).2.1 = R.2.1 := congrArg (fun r => r.2.1) hR
  have hR3 : (resC p ((List.range n).map L)).2.2 = R.2.2 := congrArg (fun r => r.2.2) hR
  refine Br.mk (fun h2 => ?_) (fun h2 => ?_)
  · exfalso
    have h2 : ((!(decide ((resC p ((List.range n).map L)).2.2 = 4) == decide (errS (ptV 0) p ((List.range n).map L) true = 0))) || (!decide ((resC p ((List.range n).map L)).2.2 = 0) && ((!decide ((resC p ((List.range n).map L)).2.2 = 4) || !decide ((resC p ((List.range n).map L)).1 = 0)) || !decide ((resC p ((List.range n).map L)).2.1 = 0)))) = true := h2
    rw [hrc, hV] at h2
    cases hc : clashV p with
    | none =>
      rw [hc] at h2
      rw [hcl.1 hc] at h2
      cases h2
    | some q =>
      rw [hc] at h2
      have hb0 : hasB p = false := by
        cases hb0 : hasB p with
        | false => rfl
        | true => rw [hcl.2 hb0] at hc; cases hc
      rw [hb0] at h2
      cases h2
  clear h2
  rw [hR] at hrc
  refine loop_okR (g.ok _ _ _) 1 (fun x : {i : Nat // i ≤ 5 ∧ ∀ q ∈ clL, q.1 < i → clB p q.1 q.2 = false} => ⟨[(1, ⟨[], .sp 1 0⟩), (3, ⟨[], .si .i64 R.1⟩), (4, ⟨[], .si .i64 R.2.1⟩), (5, ⟨[], .si .i64 R.2.2⟩), (54, ⟨[], .si .i64 x.1⟩)], [], [(1, .cells 27 (grA 0 p)), (0, .ro 2 n fun i => liC (L i))], 10, []⟩) (fun x => 5 - x.1) hG ⟨0, by omega, fun q _ hq => by omega⟩ (fun j => j) ?_ ?_
  · refine ⟨?_, ?_, rfl, rfl, rfl, rfl, trivial⟩ <;> repeat' (first | exact trivial | exact rfl | exact hR1 | exact hR2 | exact hR3 | (intro i hi; exact ⟨rfl, rfl⟩) | refine And.intro ?_ ?_)
  rintro ⟨i, hi, hfi⟩
  rcases (show i = 0 ∨ i = 1 ∨ i = 2 ∨ i = 3 ∨ i = 4 ∨ i = 5 by omega) with rfl | rfl | rfl | rfl | rfl | rfl
  · show exec _ _ ⟨[(1, ⟨[], .sp 1 0⟩), (3, ⟨[], .si .i64 R.1⟩), (4, ⟨[], .si .i64 R.2.1⟩), (5, ⟨[], .si .i64 R.2.2⟩), (54, ⟨[], .si .i64 0⟩)], [], [(1, .cells 27 (grA 0 p)), (0, .ro 2 n fun i => liC (L i))], 10, []⟩ _
    refine Br.mk (fun _ => ?_) (fun h => by cases h)
    refine Chk.mk (ink1 0 rfl) ?_
    refine loop_okR (g.ok _ _ _) 1 (fun x : {k : Nat // (1 ≤ k ∧ k ≤ 5) ∧ ∀ q ∈ clL, q.1 < 0 ∨ q.1 = 0 ∧ q.2 < k → clB p q.1 q.2 = false} => ⟨[(8, ⟨[], .si .i64 0⟩), (9, ⟨[], .si .i64 x.1⟩), (1, ⟨[], .sp 1 0⟩), (3, ⟨[], .si .i64 R.1⟩), (4, ⟨[], .si .i64 R.2.1⟩), (5, ⟨[], .si .i64 R.2.2⟩), (54, ⟨[], .si .i64 0⟩)], [], [(1, .cells 27 (grA 0 p)), (0, .ro 2 n fun i => liC (L i))], 10, []⟩) (fun x => 5 - x.1) hG ⟨1, by omega, fun q hm hq => by
      rcases hq with hq | hq
      · exact hfi q hm hq
      · have := (show ∀ q ∈ clL, q.1 < q.2 by decide) q hm
        omega⟩ (fun j => j) ?_ ?_
    · refine ⟨?_, ?_, rfl, rfl, rfl, rfl, trivial⟩ <;> repeat' (first | exact trivial | exact rfl | (intro i hi; exact ⟨rfl, rfl⟩) | refine And.intro ?_ ?_)
    rintro ⟨k, hk, hfk⟩
    rcases (show k = 1 ∨ k = 2 ∨ k = 3 ∨ k = 4 ∨ k = 5 by omega) with rfl | rfl | rfl | rfl | rfl
    · show exec _ _ ⟨[(8, ⟨[], .si .i64 0⟩), (9, ⟨[], .si .i64 1⟩), (1, ⟨[], .sp 1 0⟩), (3, ⟨[], .si .i64 R.1⟩), (4, ⟨[], .si .i64 R.2.1⟩), (5, ⟨[], .si .i64 R.2.2⟩), (54, ⟨[], .si .i64 0⟩)], [], [(1, .cells 27 (grA 0 p)), (0, .ro 2 n fun i => liC (L i))], 10, []⟩ _
      refine Br.mk (fun _ => ?_) (fun h => by cases h)
      refine Chk.mk (under_of (show InK .i64 ((1 : Int) - 0) from ⟨by decide, by decide⟩)) ?_
      refine Chk.mk (under_of (show (2 : Int) ≠ 0 from by decide)) ?_
      refine Br.mk (fun h => by cases h) (fun _ => ?_)
      refine drawn_ok (g.ok _ _ _) fol [0,0,3,7,0,0,48,112,0,0,783,2047] [(10, 42), (11, 46)] 12 (by kernel_rfl) ?_
      refine Chk.mk (bnd 0 5 rfl) ?_
      refine Chk.mk (bnd 1 5 rfl) ?_
      refine Chk.mk (show InK .i64 (p.l0 - p.h1) from ⟨by omega, by omega⟩) ?_
      refine Chk.mk (show InK .i64 (1 * p.st) from ⟨by omega, by omega⟩) ?_
      refine Chk.mk (under_of (show InK .i64 (p.l1 - p.h0) from ⟨by omega, by omega⟩)) ?_
      refine Chk.mk (under_of (show InK .i64 (1 * p.st) from ⟨by omega, by omega⟩)) ?_
      refine Br.mk (fun h2 => ?_) (fun h2 => ?_)
      · have h2 : (decide (p.l0 - p.h1 > 1 * p.st) || decide (p.l1 - p.h0 > 1 * p.st)) = true := h2
        rw [clX] at h2
        have h2 : clB p 0 1 = true := h2
        have hv : clashV p = some (0, 1) := by simp [clashV, clL, h2]
        rw [hv] at hrc
        subst hrc
        exact ⟨.inl rfl, end_noid rfl rfl rfl (by repeat' (first | exact trivial | exact rfl | (intro i hi; exact ⟨rfl, rfl⟩) | refine And.intro ?_ ?_))⟩
      have h2 : (decide (p.l0 - p.h1 > 1 * p.st) || decide (p.l1 - p.h0 > 1 * p.st)) = false := h2
      rw [clX] at h2
      have h2 : clB p 0 1 = false := h2
      refine Chk.mk (ink1 1 rfl) ⟨⟨2, by omega, fun q hm hq => ?_⟩, (fun j => j), ?_, by show 5 - 2 < 5 - 1; omega⟩
      · rcases (show (q.1 < 0 ∨ q.1 = 0 ∧ q.2 < 1) ∨ q = (0, 1) by
          obtain ⟨qa, qb⟩ := q
          simp only [Prod.mk.injEq] at hq ⊢
          omega) with hq | rfl
        · exact hfk q hm hq
        · exact h2
      refine ⟨?_, ?_, rfl, rfl, rfl, rfl, trivial⟩ <;> repeat' (first | exact trivial | exact rfl | (intro i hi; exact ⟨rfl, rfl⟩) | refine And.intro ?_ ?_)
    · show exec _ _ ⟨[(8, ⟨[], .si .i64 0⟩), (9, ⟨[], .si .i64 2⟩), (1, ⟨[], .sp 1 0⟩), (3, ⟨[], .si .i64 R.1⟩), (4, ⟨[], .si .i64 R.2.1⟩), (5, ⟨[], .si .i64 R.2.2⟩), (54, ⟨[], .si .i64 0⟩)], [], [(1, .cells 27 (grA 0 p)), (0, .ro 2 n fun i => liC (L i))], 10, []⟩ _
      refine Br.mk (fun _ => ?_) (fun h => by cases h)
      refine Chk.mk (under_of (show InK .i64 ((2 : Int) - 0) from ⟨by decide, by decide⟩)) ?_
      refine Chk.mk (under_of (show (2 : Int) ≠ 0 from by decide)) ?_
      refine Br.mk (fun h => by cases h) (fun _ => ?_)
      refine drawn_ok (g.ok _ _ _) fol [0,0,3,7,0,0,48,112,0,0,783,2047] [(10, 42), (11, 46)] 12 (by kernel_rfl) ?_
      refine Chk.mk (bnd 0 5 rfl) ?_
      refine Chk.mk (bnd 2 5 rfl) ?_
      refine Chk.mk (show InK .i64 (p.l0 - p.h2) from ⟨by omega, by omega⟩) ?_
      refine Chk.mk (show InK .i64 (1 * p.st) from ⟨by omega, by omega⟩) ?_
      refine Chk.mk (under_of (show InK .i64 (p.l2 - p.h0) from ⟨by omega, by omega⟩)) ?_
      refine Chk.mk (under_of (show InK .i64 (1 * p.st) from ⟨by omega, by omega⟩)) ?_
      refine Br.mk (fun h2 => ?_) (fun h2 => ?_)
      · have h2 : (decide (p.l0 - p.h2 > 1 * p.st) || decide (p.l2 - p.h0 > 1 * p.st)) = true := h2
        rw [clX] at h2
        have h2 : clB p 0 2 = true := h2
        have f01 := hfk (0, 1) (by decide) (by simp)
        have hv : clashV p = some (0, 2) := by simp [clashV, clL, h2, f01]
        rw [hv] at hrc
        subst hrc
        exact ⟨.inl rfl, end_noid rfl rfl rfl (by repeat' (first | exact trivial | exact rfl | (intro i hi; exact ⟨rfl, rfl⟩) | refine And.intro ?_ ?_))⟩
      have h2 : (decide (p.l0 - p.h2 > 1 * p.st) || decide (p.l2 - p.h0 > 1 * p.st)) = false := h2
      rw [clX] at h2
      have h2 : clB p 0 2 = false := h2
      refine Chk.mk (ink1 2 rfl) ⟨⟨3, by omega, fun q hm hq => ?_⟩, (fun j => j), ?_, by show 5 - 3 < 5 - 2; omega⟩
      · rcases (show (q.1 < 0 ∨ q.1 = 0 ∧ q.2 < 2) ∨ q = (0, 2) by
          obtain ⟨qa, qb⟩ := q
          simp only [Prod.mk.injEq] at hq ⊢
          omega) with hq | rfl
        · exact hfk q hm hq
        · exact h2
      refine ⟨?_, ?_, rfl, rfl, rfl, rfl, trivial⟩ <;> repeat' (first | exact trivial | exact rfl | (intro i hi; exact ⟨rfl, rfl⟩) | refine And.intro ?_ ?_)
    · show exec _ _ ⟨[(8, ⟨[], .si .i64 0⟩), (9, ⟨[], .si .i64 3⟩), (1, ⟨[], .sp 1 0⟩), (3, ⟨[], .si .i64 R.1⟩), (4, ⟨[], .si .i64 R.2.1⟩), (5, ⟨[], .si .i64 R.2.2⟩), (54, ⟨[], .si .i64 0⟩)], [], [(1, .cells 27 (grA 0 p)), (0, .ro 2 n fun i => liC (L i))], 10, []⟩ _
      refine Br.mk (fun _ => ?_) (fun h => by cases h)
      refine Chk.mk (under_of (show InK .i64 ((3 : Int) - 0) from ⟨by decide, by decide⟩)) ?_
      refine Chk.mk (under_of (show (2 : Int) ≠ 0 from by decide)) ?_
      refine Br.mk (fun h => by cases h) (fun _ => ?_)
      refine drawn_ok (g.ok _ _ _) fol [0,0,3,7,0,0,48,112,0,0,783,2047] [(10, 42), (11, 46)] 12 (by kernel_rfl) ?_
      refine Chk.mk (bnd 0 5 rfl) ?_
      refine Chk.mk (bnd 3 5 rfl) ?_
      refine Chk.mk (show InK .i64 (p.l0 - p.h3) from ⟨by omega, by omega⟩) ?_
      refine Chk.mk (show InK .i64 (1 * p.st) from ⟨by omega, by omega⟩) ?_
      refine Chk.mk (under_of (show InK .i64 (p.l3 - p.h0) from ⟨by omega, by omega⟩)) ?_
      refine Chk.mk (under_of (show InK .i64 (1 * p.st) from ⟨by omega, by omega⟩)) ?_
      refine Br.mk (fun h2 => ?_) (fun h2 => ?_)
      · have h2 : (decide (p.l0 - p.h3 > 1 * p.st) || decide (p.l3 - p.h0 > 1 * p.st)) = true := h2
        rw [clX] at h2
        have h2 : clB p 0 3 = true := h2
        have f01 := hfk (0, 1) (by decide) (by simp)
        have f02 := hfk (0, 2) (by decide) (by simp)
        have hv : clashV p = some (0, 3) := by simp [clashV, clL, h2, f01, f02]
        rw [hv] at hrc
        subst hrc
        exact ⟨.inl rfl, end_noid rfl rfl rfl (by repeat' (first | exact trivial | exact rfl | (intro i hi; exact ⟨rfl, rfl⟩) | refine And.intro ?_ ?_))⟩
      have h2 : (decide (p.l0 - p.h3 > 1 * p.st) || decide (p.l3 - p.h0 > 1 * p.st)) = false := h2
      rw [clX] at h2
      have h2 : clB p 0 3 = false := h2
      refine Chk.mk (ink1 3 rfl) ⟨⟨4, by omega, fun q hm hq => ?_⟩, (fun j => j), ?_, by show 5 - 4 < 5 - 3; omega⟩
      · rcases (show (q.1 < 0 ∨ q.1 = 0 ∧ q.2 < 3) ∨ q = (0, 3) by
          obtain ⟨qa, qb⟩ := q
          simp only [Prod.mk.injEq] at hq ⊢
          omega) with hq | rfl
        · exact hfk q hm hq
        · exact h2
      refine ⟨?_, ?_, rfl, rfl, rfl, rfl, trivial⟩ <;> repeat' (first | exact trivial | exact rfl | (intro i hi; exact ⟨rfl, rfl⟩) | refine And.intro ?_ ?_)
    · show exec _ _ ⟨[(8, ⟨[], .si .i64 0⟩), (9, ⟨[], .si .i64 4⟩), (1, ⟨[], .sp 1 0⟩), (3, ⟨[], .si .i64 R.1⟩), (4, ⟨[], .si .i64 R.2.1⟩), (5, ⟨[], .si .i64 R.2.2⟩), (54, ⟨[], .si .i64 0⟩)], [], [(1, .cells 27 (grA 0 p)), (0, .ro 2 n fun i => liC (L i))], 10, []⟩ _
      refine Br.mk (fun _ => ?_) (fun h => by cases h)
      refine Chk.mk (under_of (show InK .i64 ((4 : Int) - 0) from ⟨by decide, by decide⟩)) ?_
      refine Chk.mk (under_of (show (2 : Int) ≠ 0 from by decide)) ?_
      refine Br.mk (fun h => by cases h) (fun _ => ?_)
      refine drawn_ok (g.ok _ _ _) fol [0,0,3,7,0,0,48,112,0,0,783,2047] [(10, 42), (11, 46)] 12 (by kernel_rfl) ?_
      refine Chk.mk (bnd 0 5 rfl) ?_
      refine Chk.mk (bnd 4 5 rfl) ?_
      refine Chk.mk (show InK .i64 (p.l0 - p.h4) from ⟨by omega, by omega⟩) ?_
      refine Chk.mk (show InK .i64 (1 * p.st) from ⟨by omega, by omega⟩) ?_
      refine Chk.mk (under_of (show InK .i64 (p.l4 - p.h0) from ⟨by omega, by omega⟩)) ?_
      refine Chk.mk (under_of (show InK .i64 (1 * p.st) from ⟨by omega, by omega⟩)) ?_
      refine Br.mk (fun h2 => ?_) (fun h2 => ?_)
      · have h2 : (decide (p.l0 - p.h4 > 1 * p.st) || decide (p.l4 - p.h0 > 1 * p.st)) = true := h2
        rw [clX] at h2
        have h2 : clB p 0 4 = true := h2
        have f01 := hfk (0, 1) (by decide) (by simp)
        have f02 := hfk (0, 2) (by decide) (by simp)
        have f03 := hfk (0, 3) (by decide) (by simp)
        have hv : clashV p = some (0, 4) := by simp [clashV, clL, h2, f01, f02, f03]
        rw [hv] at hrc
        subst hrc
        exact ⟨.inl rfl, end_noid rfl rfl rfl (by repeat' (first | exact trivial | exact rfl | (intro i hi; exact ⟨rfl, rfl⟩) | refine And.intro ?_ ?_))⟩
      have h2 : (decide (p.l0 - p.h4 > 1 * p.st) || decide (p.l4 - p.h0 > 1 * p.st)) = false := h2
      rw [clX] at h2
      have h2 : clB p 0 4 = false := h2
      refine Chk.mk (ink1 4 rfl) ⟨⟨5, by omega, fun q hm hq => ?_⟩, (fun j => j), ?_, by show 5 - 5 < 5 - 4; omega⟩
      · rcases (show (q.1 < 0 ∨ q.1 = 0 ∧ q.2 < 4) ∨ q = (0, 4) by
          obtain ⟨qa, qb⟩ := q
          simp only [Prod.mk.injEq] at hq ⊢
          omega) with hq | rfl
        · exact hfk q hm hq
        · exact h2
      refine ⟨?_, ?_, rfl, rfl, rfl, rfl, trivial⟩ <;> repeat' (first | exact trivial | exact rfl | (intro i hi; exact ⟨rfl, rfl⟩) | refine And.intro ?_ ?_)
    · show exec _ _ ⟨[(8, ⟨[], .si .i64 0⟩), (9, ⟨[], .si .i64 5⟩), (1, ⟨[], .sp 1 0⟩), (3, ⟨[], .si .i64 R.1⟩), (4, ⟨[], .si .i64 R.2.1⟩), (5, ⟨[], .si .i64 R.2.2⟩), (54, ⟨[], .si .i64 0⟩)], [], [(1, .cells 27 (grA 0 p)), (0, .ro 2 n fun i => liC (L i))], 10, []⟩ _
      refine Br.mk (fun h => by cases h) (fun _ => ?_)
      refine Chk.mk (ink1 0 rfl) ⟨⟨1, by omega, fun q hm hq => hfk q hm ?_⟩, (fun j => j), ?_, by show 5 - 1 < 5 - 0; omega⟩
      · have := (show ∀ q ∈ clL, q.2 < 5 by decide) q hm
        omega
      refine ⟨?_, ?_, rfl, rfl, rfl, rfl, trivial⟩ <;> repeat' (first | exact trivial | exact rfl | (intro i hi; exact ⟨rfl, rfl⟩) | refine And.intro ?_ ?_)
  · show exec _ _ ⟨[(1, ⟨[], .sp 1 0⟩), (3, ⟨[], .si .i64 R.1⟩), (4, ⟨[], .si .i64 R.2.1⟩), (5, ⟨[], .si .i64 R.2.2⟩), (54, ⟨[], .si .i64 1⟩)], [], [(1, .cells 27 (grA 0 p)), (0, .ro 2 n fun i => liC (L i))], 10, []⟩ _
    refine Br.mk (fun _ => ?_) (fun h => by cases h)
    refine Chk.mk (ink1 1 rfl) ?_
    refine loop_okR (g.ok _ _ _) 1 (fun x : {k : Nat // (2 ≤ k ∧ k ≤ 5) ∧ ∀ q ∈ clL, q.1 < 1 ∨ q.1 = 1 ∧ q.2 < k → clB p q.1 q.2 = false} => ⟨[(8, ⟨[], .si .i64 1⟩), (9, ⟨[], .si .i64 x.1⟩), (1, ⟨[], .sp 1 0⟩), (3, ⟨[], .si .i64 R.1⟩), (4, ⟨[], .si .i64 R.2.1⟩), (5, ⟨[], .si .i64 R.2.2⟩), (54, ⟨[], .si .i64 1⟩)], [], [(1, .cells 27 (grA 0 p)), (0, .ro 2 n fun i => liC (L i))], 10, []⟩) (fun x => 5 - x.1) hG ⟨2, by omega, fun q hm hq => by
      rcases hq with hq | hq
      · exact hfi q hm hq
      · have := (show ∀ q ∈ clL, q.1 < q.2 by decide) q hm
        omega⟩ (fun j => j) ?_ ?_
    · refine ⟨?_, ?_, rfl, rfl, rfl, rfl, trivial⟩ <;> repeat' (first | exact trivial | exact rfl | (intro i hi; exact ⟨rfl, rfl⟩) | refine And.intro ?_ ?_)
    rintro ⟨k, hk, hfk⟩
    rcases (show k = 2 ∨ k = 3 ∨ k = 4 ∨ k = 5 by omega) with rfl | rfl | rfl | rfl
    · show exec _ _ ⟨[(8, ⟨[], .si .i64 1⟩), (9, ⟨[], .si .i64 2⟩), (1, ⟨[], .sp 1 0⟩), (3, ⟨[], .si .i64 R.1⟩), (4, ⟨[], .si .i64 R.2.1⟩), (5, ⟨[], .si .i64 R.2.2⟩), (54, ⟨[], .si .i64 1⟩)], [], [(1, .cells 27 (grA 0 p)), (0, .ro 2 n fun i => liC (L i))], 10, []⟩ _
      refine Br.mk (fun _ => ?_) (fun h => by cases h)
      refine Chk.mk (under_of (show InK .i64 ((2 : Int) - 1) from ⟨by decide, by decide⟩)) ?_
      refine Chk.mk (under_of (show (2 : Int) ≠ 0 from by decide)) ?_
      refine Br.mk (fun h => by cases h) (fun _ => ?_)
      refine drawn_ok (g.ok _ _ _) fol [0,0,3,7,0,0,48,112,0,0,783,2047] [(10, 42), (11, 46)] 12 (by kernel_rfl) ?_
      refine Chk.mk (bnd 1 5 rfl) ?_
      refine Chk.mk (bnd 2 5 rfl) ?_
      refine Chk.mk (show InK .i64 (p.l1 - p.h2) from ⟨by omega, by omega⟩) ?_
      refine Chk.mk (show InK .i64 (1 * p.st) from ⟨by omega, by omega⟩) ?_
      refine Chk.mk (under_of (show InK .i64 (p.l2 - p.h1) from ⟨by omega, by omega⟩)) ?_
      refine Chk.mk (under_of (show InK .i64 (1 * p.st) from ⟨by omega, by omega⟩)) ?_
      refine Br.mk (fun h2 => ?_) (fun h2 => ?_)
      · have h2 : (decide (p.l1 - p.h2 > 1 * p.st) || decide (p.l2 - p.h1 > 1 * p.st)) = true := h2
        rw [clX] at h2
        have h2 : clB p 1 2 = true := h2
        have f01 := hfk (0, 1) (by decide) (by simp)
        have f02 := hfk (0, 2) (by decide) (by simp)
        have f03 := hfk (0, 3) (by decide) (by simp)
        have f04 := hfk (0, 4) (by decide) (by simp)
        have hv : clashV p = some (1, 2) := by simp [clashV, clL, h2, f01, f02, f03, f04]
        rw [hv] at hrc
        subst hrc
        exact ⟨.inl rfl, end_noid rfl rfl rfl (by repeat' (first | exact trivial | exact rfl | (intro i hi; exact ⟨rfl, rfl⟩) | refine And.intro ?_ ?_))⟩
      have h2 : (decide (p.l1 - p.h2 > 1 * p.st) || decide (p.l2 - p.h1 > 1 * p.st)) = false := h2
      rw [clX] at h2
      have h2 : clB p 1 2 = false := h2
      refine Chk.mk (ink1 2 rfl) ⟨⟨3, by omega, fun q hm hq => ?_⟩, (fun j => j), ?_, by show 5 - 3 < 5 - 2; omega⟩
      · rcases (show (q.1 < 1 ∨ q.1 = 1 ∧ q.2 < 2) ∨ q = (1, 2) by
          obtain ⟨qa, qb⟩ := q
          simp only [Prod.mk.injEq] at hq ⊢
          omega) with hq | rfl
        · exact hfk q hm hq
        · exact h2
      refine ⟨?_, ?_, rfl, rfl, rfl, rfl, trivial⟩ <;> repeat' (first | exact trivial | exact rfl | (intro i hi; exact ⟨rfl, rfl⟩) | refine And.intro ?_ ?_)
    · show exec _ _ ⟨[(8, ⟨[], .si .i64 1⟩), (9, ⟨[], .si .i64 3⟩), (1, ⟨[], .sp 1 0⟩), (3, ⟨[], .si .i64 R.1⟩), (4, ⟨[], .si .i64 R.2.1⟩), (5, ⟨[], .si .i64 R.2.2⟩), (54, ⟨[], .si .i64 1⟩)], [], [(1, .cells 27 (grA 0 p)), (0, .ro 2 n fun i => liC (L i))], 10, []⟩ _
      refine Br.mk (fun _ => ?_) (fun h => by cases h)
      refine Chk.mk (under_of (show InK .i64 ((3 : Int) - 1) from ⟨by decide, by decide⟩)) ?_
      refine Chk.mk (under_of (show (2 : Int) ≠ 0 from by decide)) ?_
      refine Br.mk (fun _ => ?_) (fun h => by cases h)
      refine drawn_ok (g.ok _ _ _) fol [0,0,3,7,0,0,48,112,0,0,783,2047] [(10, 42), (11, 46)] 12 (by kernel_rfl) ?_
      refine Chk.mk (bnd 1 5 rfl) ?_
      refine Chk.mk (bnd 3 5 rfl) ?_
      refine Chk.mk (show InK .i64 (p.l1 - p.h3) from ⟨by omega, by omega⟩) ?_
      refine Chk.mk (show InK .i64 (2 * p.st) from ⟨by omega, by omega⟩) ?_
      refine Chk.mk (under_of (show InK .i64 (p.l3 - p.h1) from ⟨by omega, by omega⟩)) ?_
      refine Chk.mk (under_of (show InK .i64 (2 * p.st) from ⟨by omega, by omega⟩)) ?_
      refine Br.mk (fun h2 => ?_) (fun h2 => ?_)
      · have h2 : (decide (p.l1 - p.h3 > 2 * p.st) || decide (p.l3 - p.h1 > 2 * p.st)) = true := h2
        rw [clX] at h2
        have h2 : clB p 1 3 = true := h2
        have f01 := hfk (0, 1) (by decide) (by simp)
        have f02 := hfk (0, 2) (by decide) (by simp)
        have f03 := hfk (0, 3) (by decide) (by simp)
        have f04 := hfk (0, 4) (by decide) (by simp)
        have f12 := hfk (1, 2) (by decide) (by simp)
        have hv : clashV p = some (1, 3) := by simp [clashV, clL, h2, f01, f02, f03, f04, f12]
        rw [hv] at hrc
        subst hrc
        exact ⟨.inl rfl, end_noid rfl rfl rfl (by repeat' (first | exact trivial | exact rfl | (intro i hi; exact ⟨rfl, rfl⟩) | refine And.intro ?_ ?_))⟩
      have h2 : (decide (p.l1 - p.h3 > 2 * p.st) || decide (p.l3 - p.h1 > 2 * p.st)) = false := h2
      rw [clX] at h2
      have h2 : clB p 1 3 = false := h2
      refine Chk.mk (ink1 3 rfl) ⟨⟨4, by omega, fun q hm hq => ?_⟩, (fun j => j), ?_, by show 5 - 4 < 5 - 3; omega⟩
      · rcases (show (q.1 < 1 ∨ q.1 = 1 ∧ q.2 < 3) ∨ q = (1, 3) by
          obtain ⟨qa, qb⟩ := q
          simp only [Prod.mk.injEq] at hq ⊢
          omega) with hq | rfl
        · exact hfk q hm hq
        · exact h2
      refine ⟨?_, ?_, rfl, rfl, rfl, rfl, trivial⟩ <;> repeat' (first | exact trivial | exact rfl | (intro i hi; exact ⟨rfl, rfl⟩) | refine And.intro ?_ ?_)
    · show exec _ _ ⟨[(8, ⟨[], .si .i64 1⟩), (9, ⟨[], .si .i64 4⟩), (1, ⟨[], .sp 1 0⟩), (3, ⟨[], .si .i64 R.1⟩), (4, ⟨[], .si .i64 R.2.1⟩), (5, ⟨[], .si .i64 R.2.2⟩), (54, ⟨[], .si .i64 1⟩)], [], [(1, .cells 27 (grA 0 p)), (0, .ro 2 n fun i => liC (L i))], 10, []⟩ _
      refine Br.mk (fun _ => ?_) (fun h => by cases h)
      refine Chk.mk (under_of (show InK .i64 ((4 : Int) - 1) from ⟨by decide, by decide⟩)) ?_
      refine Chk.mk (under_of (show (2 : Int) ≠ 0 from by decide)) ?_
      refine Br.mk (fun h => by cases h) (fun _ => ?_)
      refine drawn_ok (g.ok _ _ _) fol [0,0,3,7,0,0,48,112,0,0,783,2047] [(10, 42), (11, 46)] 12 (by kernel_rfl) ?_
      refine Chk.mk (bnd 1 5 rfl) ?_
      refine Chk.mk (bnd 4 5 rfl) ?_
      refine Chk.mk (show InK .i64 (p.l1 - p.h4) from ⟨by omega, by omega⟩) ?_
      refine Chk.mk (show InK .i64 (1 * p.st) from ⟨by omega, by omega⟩) ?_
      refine Chk.mk (under_of (show InK .i64 (p.l4 - p.h1) from ⟨by omega, by omega⟩)) ?_
      refine Chk.mk (under_of (show InK .i64 (1 * p.st) from ⟨by omega, by omega⟩)) ?_
      refine Br.mk (fun h2 => ?_) (fun h2 => ?_)
      · have h2 : (decide (p.l1 - p.h4 > 1 * p.st) || decide (p.l4 - p.h1 > 1 * p.st)) = true := h2
        rw [clX] at h2
        have h2 : clB p 1 4 = true := h2
        have f01 := hfk (0, 1) (by decide) (by simp)
        have f02 := hfk (0, 2) (by decide) (by simp)
        have f03 := hfk (0, 3) (by decide) (by simp)
        have f04 := hfk (0, 4) (by decide) (by simp)
        have f12 := hfk (1, 2) (by decide) (by simp)
        have f13 := hfk (1, 3) (by decide) (by simp)
        have hv : clashV p = some (1, 4) := by simp [clashV, clL, h2, f01, f02, f03, f04, f12, f13]
        rw [hv] at hrc
        subst hrc
        exact ⟨.inl rfl, end_noid rfl rfl rfl (by repeat' (first | exact trivial | exact rfl | (intro i hi; exact ⟨rfl, rfl⟩) | refine And.intro ?_ ?_))⟩
      have h2 : (decide (p.l1 - p.h4 > 1 * p.st) || decide (p.l4 - p.h1 > 1 * p.st)) = false := h2
      rw [clX] at h2
      have h2 : clB p 1 4 = false := h2
      refine Chk.mk (ink1 4 rfl) ⟨⟨5, by omega, fun q hm hq => ?_⟩, (fun j => j), ?_, by show 5 - 5 < 5 - 4; omega⟩
      · rcases (show (q.1 < 1 ∨ q.1 = 1 ∧ q.2 < 4) ∨ q = (1, 4) by
          obtain ⟨qa, qb⟩ := q
          simp only [Prod.mk.injEq] at hq ⊢
          omega) with hq | rfl
        · exact hfk q hm hq
        · exact h2
      refine ⟨?_, ?_, rfl, rfl, rfl, rfl, trivial⟩ <;> repeat' (first | exact trivial | exact rfl | (intro i hi; exact ⟨rfl, rfl⟩) | refine And.intro ?_ ?_)
    · show exec _ _ ⟨[(8, ⟨[], .si .i64 1⟩), (9, ⟨[], .si .i64 5⟩), (1, ⟨[], .sp 1 0⟩), (3, ⟨[], .si .i64 R.1⟩), (4, ⟨[], .si .i64 R.2.1⟩), (5, ⟨[], .si .i64 R.2.2⟩), (54, ⟨[], .si .i64 1⟩)], [], [(1, .cells 27 (grA 0 p)), (0, .ro 2 n fun i => liC (L i))], 10, []⟩ _
      refine Br.mk (fun h => by cases h) (fun _ => ?_)
      refine Chk.mk (ink1 1 rfl) ⟨⟨2, by omega, fun q hm hq => hfk q hm ?_⟩, (fun j => j), ?_, by show 5 - 2 < 5 - 1; omega⟩
      · have := (show ∀ q ∈ clL, q.2 < 5 by decide) q hm
        omega
      refine ⟨?_, ?_, rfl, rfl, rfl, rfl, trivial⟩ <;> repeat' (first | exact trivial | exact rfl | (intro i hi; exact ⟨rfl, rfl⟩) | refine And.intro ?_ ?_)
  · show exec _ _ ⟨[(1, ⟨[], .sp 1 0⟩), (3, ⟨[], .si .i64 R.1⟩), (4, ⟨[], .si .i64 R.2.1⟩), (5, ⟨[], .si .i64 R.2.2⟩), (54, ⟨[], .si .i64 2⟩)], [], [(1, .cells 27 (grA 0 p)), (0, .ro 2 n fun i => liC (L i))], 10, []⟩ _
    refine Br.mk (fun _ => ?_) (fun h => by cases h)
    refine Chk.mk (ink1 2 rfl) ?_
    refine loop_okR (g.ok _ _ _) 1 (fun x : {k : Nat // (3 ≤ k ∧ k ≤ 5) ∧ ∀ q ∈ clL, q.1 < 2 ∨ q.1 = 2 ∧ q.2 < k → clB p q.1 q.2 = false} => ⟨[(8, ⟨[], .si .i64 2⟩), (9, ⟨[], .si .i64 x.1⟩), (1, ⟨[], .sp 1 0⟩), (3, ⟨[], .si .i64 R.1⟩), (4, ⟨[], .si .i64 R.2.1⟩), (5, ⟨[], .si .i64 R.2.2⟩), (54, ⟨[], .si .i64 2⟩)], [], [(1, .cells 27 (grA 0 p)), (0, .ro 2 n fun i => liC (L i))], 10, []⟩) (fun x => 5 - x.1) hG ⟨3, by omega, fun q hm hq => by
      rcases hq with hq | hq
      · exact hfi q hm hq
      · have := (show ∀ q ∈ clL, q.1 < q.2 by decide) q hm
        omega⟩ (fun j => j) ?_ ?_
    · refine ⟨?_, ?_, rfl, rfl, rfl, rfl, trivial⟩ <;> repeat' (first | exact trivial | exact rfl | (intro i hi; exact ⟨rfl, rfl⟩) | refine And.intro ?_ ?_)
    rintro ⟨k, hk, hfk⟩
    rcases (show k = 3 ∨ k = 4 ∨ k = 5 by omega) with rfl | rfl | rfl
    · show exec _ _ ⟨[(8, ⟨[], .si .i64 2⟩), (9, ⟨[], .si .i64 3⟩), (1, ⟨[], .sp 1 0⟩), (3, ⟨[], .si .i64 R.1⟩), (4, ⟨[], .si .i64 R.2.1⟩), (5, ⟨[], .si .i64 R.2.2⟩), (54, ⟨[], .si .i64 2⟩)], [], [(1, .cells 27 (grA 0 p)), (0, .ro 2 n fun i => liC (L i))], 10, []⟩ _
      refine Br.mk (fun _ => ?_) (fun h => by cases h)
      refine Chk.mk (under_of (show InK .i64 ((3 : Int) - 2) from ⟨by decide, by decide⟩)) ?_
      refine Chk.mk (under_of (show (2 : Int) ≠ 0 from by decide)) ?_
      refine Br.mk (fun h => by cases h) (fun _ => ?_)
      refine drawn_ok (g.ok _ _ _) fol [0,0,3,7,0,0,48,112,0,0,783,2047] [(10, 42), (11, 46)] 12 (by kernel_rfl) ?_
      refine Chk.mk (bnd 2 5 rfl) ?_
      refine Chk.mk (bnd 3 5 rfl) ?_
      refine Chk.mk (show InK .i64 (p.l2 - p.h3) from ⟨by omega, by omega⟩) ?_
      refine Chk.mk (show InK .i64 (1 * p.st) from ⟨by omega, by omega⟩) ?_
      refine Chk.mk (under_of (show InK .i64 (p.l3 - p.h2) from ⟨by omega, by omega⟩)) ?_
      refine Chk.mk (under_of (show InK .i64 (1 * p.st) from ⟨by omega, by omega⟩)) ?_
      refine Br.mk (fun h2 => ?_) (fun h2 => ?_)
      · have h2 : (decide (p.l2 - p.h3 > 1 * p.st) || decide (p.l3 - p.h2 > 1 * p.st)) = true := h2
        rw [clX] at h2
        have h2 : clB p 2 3 = true := h2
        have f01 := hfk (0, 1) (by decide) (by simp)
        have f02 := hfk (0, 2) (by decide) (by simp)
        have f03 := hfk (0, 3) (by decide) (by simp)
        have f04 := hfk (0, 4) (by decide) (by simp)
        have f12 := hfk (1, 2) (by decide) (by simp)
        have f13 := hfk (1, 3) (by decide) (by simp)
        have f14 := hfk (1, 4) (by decide) (by simp)
        have hv : clashV p = some (2, 3) := by simp [clashV, clL, h2, f01, f02, f03, f04, f12, f13, f14]
        rw [hv] at hrc
        subst hrc
        exact ⟨.inl rfl, end_noid rfl rfl rfl (by repeat' (first | exact trivial | exact rfl | (intro i hi; exact ⟨rfl, rfl⟩) | refine And.intro ?_ ?_))⟩
      have h2 : (decide (p.l2 - p.h3 > 1 * p.st) || decide (p.l3 - p.h2 > 1 * p.st)) = false := h2
      rw [clX] at h2
      have h2 : clB p 2 3 = false := h2
      refine Chk.mk (ink1 3 rfl) ⟨⟨4, by omega, fun q hm hq => ?_⟩, (fun j => j), ?_, by show 5 - 4 < 5 - 3; omega⟩
      · rcases (show (q.1 < 2 ∨ q.1 = 2 ∧ q.2 < 3) ∨ q = (2, 3) by
          obtain ⟨qa, qb⟩ := q
          simp only [Prod.mk.injEq] at hq ⊢
          omega) with hq | rfl
        · exact hfk q hm hq
        · exact h2
      refine ⟨?_, ?_, rfl, rfl, rfl, rfl, trivial⟩ <;> repeat' (first | exact trivial | exact rfl | (intro i hi; exact ⟨rfl, rfl⟩) | refine And.intro ?_ ?_)
    · show exec _ _ ⟨[(8, ⟨[], .si .i64 2⟩), (9, ⟨[], .si .i64 4⟩), (1, ⟨[], .sp 1 0⟩), (3, ⟨[], .si .i64 R.1⟩), (4, ⟨[], .si .i64 R.2.1⟩), (5, ⟨[], .si .i64 R.2.2⟩), (54, ⟨[], .si .i64 2⟩)], [], [(1, .cells 27 (grA 0 p)), (0, .ro 2 n fun i => liC (L i))], 10, []⟩ _
      refine Br.mk (fun _ => ?_) (fun h => by cases h)
      refine Chk.mk (under_of (show InK .i64 ((4 : Int) - 2) from ⟨by decide, by decide⟩)) ?_
      refine Chk.mk (under_of (show (2 : Int) ≠ 0 from by decide)) ?_
      refine Br.mk (fun _ => ?_) (fun h => by cases h)
      refine drawn_ok (g.ok _ _ _) fol [0,0,3,7,0,0,48,112,0,0,783,2047] [(10, 42), (11, 46)] 12 (by kernel_rfl) ?_
      refine Chk.mk (bnd 2 5 rfl) ?_
      refine Chk.mk (bnd 4 5 rfl) ?_
      refine Chk.mk (show InK .i64 (p.l2 - p.h4) from ⟨by omega, by omega⟩) ?_
      refine Chk.mk (show InK .i64 (2 * p.st) from ⟨by omega, by omega⟩) ?_
      refine Chk.mk (under_of (show InK .i64 (p.l4 - p.h2) from ⟨by omega, by omega⟩)) ?_
      refine Chk.mk (under_of (show InK .i64 (2 * p.st) from ⟨by omega, by omega⟩)) ?_
      refine Br.mk (fun h2 => ?_) (fun h2 => ?_)
      · have h2 : (decide (p.l2 - p.h4 > 2 * p.st) || decide (p.l4 - p.h2 > 2 * p.st)) = true := h2
        rw [clX] at h2
        have h2 : clB p 2 4 = true := h2
        have f01 := hfk (0, 1) (by decide) (by simp)
        have f02 := hfk (0, 2) (by decide) (by simp)
        have f03 := hfk (0, 3) (by decide) (by simp)
        have f04 := hfk (0, 4) (by decide) (by simp)
        have f12 := hfk (1, 2) (by decide) (by simp)
        have f13 := hfk (1, 3) (by decide) (by simp)
        have f14 := hfk (1, 4) (by decide) (by simp)
        have f23 := hfk (2, 3) (by decide) (by simp)
        have hv : clashV p = some (2, 4) := by simp [clashV, clL, h2, f01, f02, f03, f04, f12, f13, f14, f23]
        rw [hv] at hrc
        subst hrc
        exact ⟨.inl rfl, end_noid rfl rfl rfl (by repeat' (first | exact trivial | exact rfl | (intro i hi; exact ⟨rfl, rfl⟩) | refine And.intro ?_ ?_))⟩
      have h2 : (decide (p.l2 - p.h4 > 2 * p.st) || decide (p.l4 - p.h2 > 2 * p.st)) = false := h2
      rw [clX] at h2
      have h2 : clB p 2 4 = false := h2
      refine Chk.mk (ink1 4 rfl) ⟨⟨5, by omega, fun q hm hq => ?_⟩, (fun j => j), ?_, by show 5 - 5 < 5 - 4; omega⟩
      · rcases (show (q.1 < 2 ∨ q.1 = 2 ∧ q.2 < 4) ∨ q = (2, 4) by
          obtain ⟨qa, qb⟩ := q
          simp only [Prod.mk.injEq] at hq ⊢
          omega) with hq | rfl
        · exact hfk q hm hq
        · exact h2
      refine ⟨?_, ?_, rfl, rfl, rfl, rfl, trivial⟩ <;> repeat' (first | exact trivial | exact rfl | (intro i hi; exact ⟨rfl, rfl⟩) | refine And.intro ?_ ?_)
    · show exec _ _ ⟨[(8, ⟨[], .si .i64 2⟩), (9, ⟨[], .si .i64 5⟩), (1, ⟨[], .sp 1 0⟩), (3, ⟨[], .si .i64 R.1⟩), (4, ⟨[], .si .i64 R.2.1⟩), (5, ⟨[], .si .i64 R.2.2⟩), (54, ⟨[], .si .i64 2⟩)], [], [(1, .cells 27 (grA 0 p)), (0, .ro 2 n fun i => liC (L i))], 10, []⟩ _
      refine Br.mk (fun h => by cases h) (fun _ => ?_)
      refine Chk.mk (ink1 2 rfl) ⟨⟨3, by omega, fun q hm hq => hfk q hm ?_⟩, (fun j => j), ?_, by show 5 - 3 < 5 - 2; omega⟩
      · have := (show ∀ q ∈ clL, q.2 < 5 by decide) q hm
        omega
      refine ⟨?_, ?_, rfl, rfl, rfl, rfl, trivial⟩ <;> repeat' (first | exact trivial | exact rfl | (intro i hi; exact ⟨rfl, rfl⟩) | refine And.intro ?_ ?_)
  · show exec _ _ ⟨[(1, ⟨[], .sp 1 0⟩), (3, ⟨[], .si .i64 R.1⟩), (4, ⟨[], .si .i64 R.2.1⟩), (5, ⟨[], .si .i64 R.2.2⟩), (54, ⟨[], .si .i64 3⟩)], [], [(1, .cells 27 (grA 0 p)), (0, .ro 2 n fun i => liC (L i))], 10, []⟩ _
    refine Br.mk (fun _ => ?_) (fun h => by cases h)
    refine Chk.mk (ink1 3 rfl) ?_
    refine loop_okR (g.ok _ _ _) 1 (fun x : {k : Nat // (4 ≤ k ∧ k ≤ 5) ∧ ∀ q ∈ clL, q.1 < 3 ∨ q.1 = 3 ∧ q.2 < k → clB p q.1 q.2 = false} => ⟨[(8, ⟨[], .si .i64 3⟩), (9, ⟨[], .si .i64 x.1⟩), (1, ⟨[], .sp 1 0⟩), (3, ⟨[], .si .i64 R.1⟩), (4, ⟨[], .si .i64 R.2.1⟩), (5, ⟨[], .si .i64 R.2.2⟩), (54, ⟨[], .si .i64 3⟩)], [], [(1, .cells 27 (grA 0 p)), (0, .ro 2 n fun i => liC (L i))], 10, []⟩) (fun x => 5 - x.1) hG ⟨4, by omega, fun q hm hq => by
      rcases hq with hq | hq
      · exact hfi q hm hq
      · have := (show ∀ q ∈ clL, q.1 < q.2 by decide) q hm
        omega⟩ (fun j => j) ?_ ?_
    · refine ⟨?_, ?_, rfl, rfl, rfl, rfl, trivial⟩ <;> repeat' (first | exact trivial | exact rfl | (intro i hi; exact ⟨rfl, rfl⟩) | refine And.intro ?_ ?_)
    rintro ⟨k, hk, hfk⟩
    rcases (show k = 4 ∨ k = 5 by omega) with rfl | rfl
    · show exec _ _ ⟨[(8, ⟨[], .si .i64 3⟩), (9, ⟨[], .si .i64 4⟩), (1, ⟨[], .sp 1 0⟩), (3, ⟨[], .si .i64 R.1⟩), (4, ⟨[], .si .i64 R.2.1⟩), (5, ⟨[], .si .i64 R.2.2⟩), (54, ⟨[], .si .i64 3⟩)], [], [(1, .cells 27 (grA 0 p)), (0, .ro 2 n fun i => liC (L i))], 10, []⟩ _
      refine Br.mk (fun _ => ?_) (fun h => by cases h)
      refine Chk.mk (under_of (show InK .i64 ((4 : Int) - 3) from ⟨by decide, by decide⟩)) ?_
      refine Chk.mk (under_of (show (2 : Int) ≠ 0 from by decide)) ?_
      refine Br.mk (fun h => by cases h) (fun _ => ?_)
      refine drawn_ok (g.ok _ _ _) fol [0,0,3,7,0,0,48,112,0,0,783,2047] [(10, 42), (11, 46)] 12 (by kernel_rfl) ?_
      refine Chk.mk (bnd 3 5 rfl) ?_
      refine Chk.mk (bnd 4 5 rfl) ?_
      refine Chk.mk (show InK .i64 (p.l3 - p.h4) from ⟨by omega, by omega⟩) ?_
      refine Chk.mk (show InK .i64 (1 * p.st) from ⟨by omega, by omega⟩) ?_
      refine Chk.mk (under_of (show InK .i64 (p.l4 - p.h3) from ⟨by omega, by omega⟩)) ?_
      refine Chk.mk (under_of (show InK .i64 (1 * p.st) from ⟨by omega, by omega⟩)) ?_
      refine Br.mk (fun h2 => ?_) (fun h2 => ?_)
      · have h2 : (decide (p.l3 - p.h4 > 1 * p.st) || decide (p.l4 - p.h3 > 1 * p.st)) = true := h2
        rw [clX] at h2
        have h2 : clB p 3 4 = true := h2
        have f01 := hfk (0, 1) (by decide) (by simp)
        have f02 := hfk (0, 2) (by decide) (by simp)
        have f03 := hfk (0, 3) (by decide) (by simp)
        have f04 := hfk (0, 4) (by decide) (by simp)
        have f12 := hfk (1, 2) (by decide) (by simp)
        have f13 := hfk (1, 3) (by decide) (by simp)
        have f14 := hfk (1, 4) (by decide) (by simp)
        have f23 := hfk (2, 3) (by decide) (by simp)
        have f24 := hfk (2, 4) (by decide) (by simp)
        have hv : clashV p = some (3, 4) := by simp [clashV, clL, h2, f01, f02, f03, f04, f12, f13, f14, f23, f24]
        rw [hv] at hrc
        subst hrc
        exact ⟨.inl rfl, end_noid rfl rfl rfl (by repeat' (first | exact trivial | exact rfl | (intro i hi; exact ⟨rfl, rfl⟩) | refine And.intro ?_ ?_))⟩
      have h2 : (decide (p.l3 - p.h4 > 1 * p.st) || decide (p.l4 - p.h3 > 1 * p.st)) = false := h2
      rw [clX] at h2
      have h2 : clB p 3 4 = false := h2
      refine Chk.mk (ink1 4 rfl) ⟨⟨5, by omega, fun q hm hq => ?_⟩, (fun j => j), ?_, by show 5 - 5 < 5 - 4; omega⟩
      · rcases (show (q.1 < 3 ∨ q.1 = 3 ∧ q.2 < 4) ∨ q = (3, 4) by
          obtain ⟨qa, qb⟩ := q
          simp only [Prod.mk.injEq] at hq ⊢
          omega) with hq | rfl
        · exact hfk q hm hq
        · exact h2
      refine ⟨?_, ?_, rfl, rfl, rfl, rfl, trivial⟩ <;> repeat' (first | exact trivial | exact rfl | (intro i hi; exact ⟨rfl, rfl⟩) | refine And.intro ?_ ?_)
    · show exec _ _ ⟨[(8, ⟨[], .si .i64 3⟩), (9, ⟨[], .si .i64 5⟩), (1, ⟨[], .sp 1 0⟩), (3, ⟨[], .si .i64 R.1⟩), (4, ⟨[], .si .i64 R.2.1⟩), (5, ⟨[], .si .i64 R.2.2⟩), (54, ⟨[], .si .i64 3⟩)], [], [(1, .cells 27 (grA 0 p)), (0, .ro 2 n fun i => liC (L i))], 10, []⟩ _
      refine Br.mk (fun h => by cases h) (fun _ => ?_)
      refine Chk.mk (ink1 3 rfl) ⟨⟨4, by omega, fun q hm hq => hfk q hm ?_⟩, (fun j => j), ?_, by show 5 - 4 < 5 - 3; omega⟩
      · have := (show ∀ q ∈ clL, q.2 < 5 by decide) q hm
        omega
      refine ⟨?_, ?_, rfl, rfl, rfl, rfl, trivial⟩ <;> repeat' (first | exact trivial | exact rfl | (intro i hi; exact ⟨rfl, rfl⟩) | refine And.intro ?_ ?_)
  · show exec _ _ ⟨[(1, ⟨[], .sp 1 0⟩), (3, ⟨[], .si .i64 R.1⟩), (4, ⟨[], .si .i64 R.2.1⟩), (5, ⟨[], .si .i64 R.2.2⟩), (54, ⟨[], .si .i64 4⟩)], [], [(1, .cells 27 (grA 0 p)), (0, .ro 2 n fun i => liC (L i))], 10, []⟩ _
    refine Br.mk (fun _ => ?_) (fun h => by cases h)
    refine Chk.mk (ink1 4 rfl) ?_
    refine loop_okR (g.ok _ _ _) 1 (fun x : {k : Nat // (5 ≤ k ∧ k ≤ 5) ∧ ∀ q ∈ clL, q.1 < 4 ∨ q.1 = 4 ∧ q.2 < k → clB p q.1 q.2 = false} => ⟨[(8, ⟨[], .si .i64 4⟩), (9, ⟨[], .si .i64 x.1⟩), (1, ⟨[], .sp 1 0⟩), (3, ⟨[], .si .i64 R.1⟩), (4, ⟨[], .si .i64 R.2.1⟩), (5, ⟨[], .si .i64 R.2.2⟩), (54, ⟨[], .si .i64 4⟩)], [], [(1, .cells 27 (grA 0 p)), (0, .ro 2 n fun i => liC (L i))], 10, []⟩) (fun x => 5 - x.1) hG ⟨5, by omega, fun q hm hq => by
      rcases hq with hq | hq
      · exact hfi q hm hq
      · have := (show ∀ q ∈ clL, q.1 < q.2 by decide) q hm
        omega⟩ (fun j => j) ?_ ?_
    · refine ⟨?_, ?_, rfl, rfl, rfl, rfl, trivial⟩ <;> repeat' (first | exact trivial | exact rfl | (intro i hi; exact ⟨rfl, rfl⟩) | refine And.intro ?_ ?_)
    rintro ⟨k, hk, hfk⟩
    rcases (show k = 5 by omega) with rfl
    · show exec _ _ ⟨[(8, ⟨[], .si .i64 4⟩), (9, ⟨[], .si .i64 5⟩), (1, ⟨[], .sp 1 0⟩), (3, ⟨[], .si .i64 R.1⟩), (4, ⟨[], .si .i64 R.2.1⟩), (5, ⟨[], .si .i64 R.2.2⟩), (54, ⟨[], .si .i64 4⟩)], [], [(1, .cells 27 (grA 0 p)), (0, .ro 2 n fun i => liC (L i))], 10, []⟩ _
      refine Br.mk (fun h => by cases h) (fun _ => ?_)
      refine Chk.mk (ink1 4 rfl) ⟨⟨5, by omega, fun q hm hq => hfk q hm ?_⟩, (fun j => j), ?_, by show 5 - 5 < 5 - 4; omega⟩
      · have := (show ∀ q ∈ clL, q.2 < 5 by decide) q hm
        omega
      refine ⟨?_, ?_, rfl, rfl, rfl, rfl, trivial⟩ <;> repeat' (first | exact trivial | exact rfl | (intro i hi; exact ⟨rfl, rfl⟩) | refine And.intro ?_ ?_)
  · show exec _ _ ⟨[(1, ⟨[], .sp 1 0⟩), (3, ⟨[], .si .i64 R.1⟩), (4, ⟨[], .si .i64 R.2.1⟩), (5, ⟨[], .si .i64 R.2.2⟩), (54, ⟨[], .si .i64 5⟩)], [], [(1, .cells 27 (grA 0 p)), (0, .ro 2 n fun i => liC (L i))], 10, []⟩ _
    refine Br.mk (fun h => by cases h) (fun _ => ?_)
    have hv : clashV p = none := by
      unfold clashV
      rw [List.find?_eq_none]
      intro q hq
      have := (show ∀ q ∈ clL, q.1 < 5 by decide) q hq
      rw [hfi q hq this]
      decide
    rw [hv] at hrc
    subst hrc
    exact ⟨.inl rfl, end_noid rfl rfl rfl (by repeat' (first | exact trivial | exact rfl | (intro i hi; exact ⟨rfl, rfl⟩) | refine And.intro ?_ ?_))⟩
end Go.X.Gr
end
