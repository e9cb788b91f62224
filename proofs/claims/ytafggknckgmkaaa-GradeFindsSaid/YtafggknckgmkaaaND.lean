/- Contracts of functions of the package grade: Ask; the document's word whether a grade is one. -/
import Derived.Test.YtafggknckgmkaaaNB
import Derived.Test.YtafggknckgmkaaaNC

section
set_option linter.unusedVariables false
set_option linter.unusedSimpArgs false
set_option linter.unusedSectionVars false
/- Grade: the document's Grade. -/
set_option linter.unusedVariables false
set_option linter.unusedSimpArgs false
set_option maxRecDepth 10000
set_option maxHeartbeats 4000000
namespace Go.X.Gr
open Go Go.Proofs Go.X

theorem lim_eq {x y a b : Int} (ha : 0 ≤ a) (hb : 0 ≤ b) : ((!inB x 0 20 || !inB y 0 20) || (decide (x < a) || decide (y < b))) = !(inB x a 20 && inB y b 20) := by
  unfold inB
  by_cases h1 : 0 ≤ x <;> by_cases h2 : x ≤ 20 <;> by_cases h3 : 0 ≤ y <;> by_cases h4 : y ≤ 20 <;> by_cases h5 : a ≤ x <;> by_cases h6 : b ≤ y <;> first | omega | (simp only [h1, h2, h3, h4, h5, h6, decide_true, decide_false, Bool.and_true, Bool.and_false, Bool.or_true, Bool.or_false, Bool.not_true, Bool.not_false, Bool.true_and, Bool.false_and, Bool.true_or, Bool.false_or, show decide (x < a) = !decide (a ≤ x) from by by_cases h : a ≤ x <;> simp [h] <;> omega, show decide (y < b) = !decide (b ≤ y) from by by_cases h : b ≤ y <;> simp [h] <;> omega])
def c40 : Ct := fun fr args H => match args with
  | [.agg l] => gradeK H l fun i1 g n get => some ⟨some (Lims n get ∧ n ≤ 1000000), none, .sb (gradeOk g (limsL n get)), []⟩
  | _ => none
theorem c40_mono : CtMono c40 := by
  intro fr args H H' out hH h
  unfold c40 at h ⊢
  split at h
  · exact gradeK_mono hH h
  · cases h
theorem k40 {l : List (Nat × Ct)} (g0 : Good P T l) : COk P 40 c40 := by
  have g := g90 good0
  refine cok (C := tabC _) g.ok Try.func40 (c := code Try.f40) rfl fun fr args H out h hp => ?_
  unfold c40 at h
  split at h
  case h_2 => cases h
  rename_i l
  obtain ⟨i1, p, n, get, rfl, e1, h⟩ := gradeK_some h
  cases h
  obtain ⟨hs, hn⟩ : Lims n get ∧ n ≤ 1000000 := hp
  have hh : Hand H [(i1, .ro 2 n fun i => liC (liAt get i))] := hand_one e1 (fun i => rfl) (fun i hi => (hs i hi).symm)
  refine ⟨[(i1, .ro 2 n fun i => liC (liAt get i))], [.agg (grA 0 p)], [(0, .ro 2 n fun i => liC (liAt get i))], 1, [], rfl, rfl, Nat.le_of_ble_eq_true rfl, hh, rfl, rfl, fun G hG => ?_⟩
  have hE : gradeOk p (limsL n get) = (headB n p.st && (limsB (0, 0) ((List.range n).map (liAt get)) && ptI p 5)) := by
    unfold gradeOk limsL
    rw [List.length_map, List.length_range]
  generalize gradeOk p (limsL n get) = E at hE ⊢
  generalize liAt get = L at hE ⊢
  refine Br.mk (fun h => ?_) (fun h => ?_)
  · have h : (!inB n 1 4 || !inB p.st 0 10) = true := h
    have h : headB n p.st = false := by
      rw [headB]
      cases h1 : inB n 1 4 <;> cases h2 : inB p.st 0 10 <;> simp_all
    rw [h] at hE
    have hE : E = false := hE
    subst hE
    exact ⟨.inl rfl, end_noid rfl rfl rfl (by repeat' (first | exact trivial | exact rfl | (intro i hi; exact ⟨rfl, rfl⟩) | refine And.intro ?_ ?_))⟩
  have h : (!inB n 1 4 || !inB p.st 0 10) = false := h
  have h : headB n p.st = true := by
    rw [headB]
    cases h1 : inB n 1 4 <;> cases h2 : inB p.st 0 10 <;> simp_all
  rw [h, Bool.true_and] at hE
  have hn4 : n ≤ 4 := by
    simp only [headB, inB, Bool.and_eq_true, decide_eq_true_eq] at h
    omega
  obtain ⟨V, hV⟩ : ∃ V, limsB (0, 0) ((List.range n).map L) = V := ⟨_, rfl⟩
  rw [hV] at hE
  have hdrop : ∀ i, i < n → (List.range' i (n - i)).map L = L i :: (List.range' (i + 1) (n - (i + 1))).map L := fun i hi => by
    rw [show n - i = (n - (i + 1)) + 1 by omega, List.range'_succ, List.map_cons]
  refine loop_okR (g.ok _ _ _) 1 (fun x : {i : Nat // i ≤ n ∧ limsB (lastL L i) ((List.range' i (n - i)).map L) = V ∧ 0 ≤ (lastL L i).1 ∧ 0 ≤ (lastL L i).2} => ⟨[(1, ⟨[], .sp 1 0⟩), (3, ⟨[], .si .i64 x.1⟩)], [],
    [(1, .cells 27 (grA 0 p)), (0, .ro 2 n fun i => liC (L i))], 2, []⟩) (fun x => n - x.1) hG ⟨0, Nat.zero_le _, by rw [← hV, List.range_eq_range']; rfl, Int.le_refl _, Int.le_refl _⟩ (fun j => j) ?_ ?_
  · refine ⟨?_, ?_, rfl, rfl, rfl, rfl, trivial⟩ <;> repeat' (first | exact trivial | exact rfl | (intro i hi; exact ⟨rfl, rfl⟩) | refine And.intro ?_ ?_)
  rintro ⟨i, hi, hv, hp1, hp2⟩
  refine Br.mk (fun h1 => ?_) (fun h1 => ?_)
  · have h1 : (i : Int) < (n : Int) := of_decide_eq_true h1
    rw [hdrop i (by omega)] at hv
    have bad : ∀ v : Bool, v = (!limB (lastL L i) (L i)) → (v = true → E = false) ∧ (v = false → limsB (lastL L (i + 1)) ((List.range' (i + 1) (n - (i + 1))).map L) = V ∧ 0 ≤ (L i).1 ∧ 0 ≤ (L i).2) := by
      intro v hve
      rw [hve]
      refine ⟨fun h2 => ?_, fun h2 => ?_⟩
      · have h2 : limB (lastL L i) (L i) = false := by simpa using h2
        rw [limsB, h2] at hv
        rw [hE, ← hv]
        rfl
      · have h2 : limB (lastL L i) (L i) = true := by simpa using h2
        rw [limsB, h2, Bool.true_and] at hv
        refine ⟨hv, ?_⟩
        simp only [limB, inB, Bool.and_eq_true, decide_eq_true_eq] at h2
        omega
    rcases Nat.eq_zero_or_pos i with rfl | hpos
    · show exec _ _ ⟨[(22, ⟨[], _⟩), (21, ⟨[], _⟩), (20, ⟨[], _⟩), (19, ⟨[], _⟩), (18, ⟨[], _⟩), (1, ⟨[], .sp 1 0⟩), (3, ⟨[], .si .i64 0⟩)], [], [(1, .cells 27 (grA 0 p)), (0, .ro 2 n fun i => liC (L i))], 2, []⟩ _
      refine Chk.mk (show (0 : Int) ≤ 0 ∧ 0 < (n : Int) from ⟨by omega, by omega⟩) ?_
      refine drawn_ok (g.ok _ _ _) fol [0,1,3,7,15,31,63,127,255,511,1023,2047,4095,8191,16383,32767,16383,81919,16383,278527,999423,2047999,4145151,8388607,16777215,33554431,67108863,33554431,167772159,33554431,570425343,2046820351,4194303999,8489271295,17179869183,34359738367,68719476735,137438953471] [] 37 (by kernel_rfl) ?_
      refine Chk.mk (under_of (show InK .i64 (0 - 1) from ⟨by omega, by omega⟩)) ?_
      refine Chk.mk (fun h3 => (by have h3 : decide ((0 : Int) > 0) = true := h3; cases h3)) ?_
      refine Chk.mk (under_of (show InK .i64 (0 - 1) from ⟨by omega, by omega⟩)) ?_
      refine Chk.mk (fun _ h3 => (by have h3 : decide ((0 : Int) > 0) = true := h3; cases h3)) ?_
      have hb := bad ((!inB (L 0).1 0 20 || !inB (L 0).2 0 20) || false) (by simp only [limB, lastL, Bool.or_false, Bool.not_and])
      refine Br.mk (fun h2 => ?_) (fun h2 => ?_)
      · rw [hb.1 h2]
        exact ⟨.inl rfl, end_noid rfl rfl rfl (by repeat' (first | exact trivial | exact rfl | (intro i hi; exact ⟨rfl, rfl⟩) | refine And.intro ?_ ?_))⟩
      · obtain ⟨q1, q2, q3⟩ := hb.2 h2
        refine Chk.mk (show InK .i64 (0 + 1) from ⟨by omega, by omega⟩) ⟨⟨0 + 1, by omega, q1, q2, q3⟩, (fun j => j), ?_, by show n - (0 + 1) < n - 0; omega⟩
        refine ⟨?_, ?_, rfl, rfl, rfl, rfl, trivial⟩ <;> repeat' (first | exact trivial | exact rfl | (intro i hi; exact ⟨rfl, rfl⟩) | refine And.intro ?_ ?_)
    obtain ⟨k, rfl⟩ : ∃ k, i = k + 1 := ⟨i - 1, by omega⟩
    · show exec _ _ ⟨[(22, ⟨[], _⟩), (21, ⟨[], _⟩), (20, ⟨[], _⟩), (19, ⟨[], _⟩), (18, ⟨[], _⟩), (1, ⟨[], .sp 1 0⟩), (3, ⟨[], .si .i64 ((k + 1 : Nat) : Int)⟩)], [], [(1, .cells 27 (grA 0 p)), (0, .ro 2 n fun i => liC (L i))], 2, []⟩ _
      refine Chk.mk (show (0 : Int) ≤ ((k + 1 : Nat) : Int) ∧ ((k + 1 : Nat) : Int) < (n : Int) from ⟨by omega, by omega⟩) ?_
      refine drawn_ok (g.ok _ _ _) fol [0,1,3,7,15,31,63,127,255,511,1023,2047,4095,8191,16383,32767,16383,81919,16383,278527,999423,2047999,4145151,8388607,16777215,33554431,67108863,33554431,167772159,33554431,570425343,2046820351,4194303999,8489271295,17179869183,34359738367,68719476735,137438953471] [] 37 (by kernel_rfl) ?_
      refine Chk.mk (under_of (show InK .i64 (((k + 1 : Nat) : Int) - 1) from ⟨by omega, by omega⟩)) ?_
      refine Chk.mk (under_of (show 0 ≤ ((k + 1 : Nat) : Int) - 1 ∧ ((k + 1 : Nat) : Int) - 1 < (n : Int) from ⟨by omega, by omega⟩)) ?_
      refine Chk.mk (under_of (show InK .i64 (((k + 1 : Nat) : Int) - 1) from ⟨by omega, by omega⟩)) ?_
      refine Chk.mk (under_of (show 0 ≤ ((k + 1 : Nat) : Int) - 1 ∧ ((k + 1 : Nat) : Int) - 1 < (n : Int) from ⟨by omega, by omega⟩)) ?_
      have hb := bad ((!inB (L (k + 1)).1 0 20 || !inB (L (k + 1)).2 0 20) || (decide (((k + 1 : Nat) : Int) > 0) && (decide ((L (k + 1)).1 < (L (((k + 1 : Nat) : Int) - 1).toNat).1) || decide ((L (k + 1)).2 < (L (((k + 1 : Nat) : Int) - 1).toNat).2)))) (by
        have e1 : (((k + 1 : Nat) : Int) - 1).toNat = k := by omega
        have hp1 : 0 ≤ (L k).1 := hp1
        have hp2 : 0 ≤ (L k).2 := hp2
        rw [e1, show decide (((k + 1 : Nat) : Int) > 0) = true from decide_eq_true (by omega), Bool.true_and]
        exact lim_eq hp1 hp2)
      refine Br.mk (fun h2 => ?_) (fun h2 => ?_)
      · rw [hb.1 h2]
        exact ⟨.inl rfl, end_noid rfl rfl rfl (by repeat' (first | exact trivial | exact rfl | (intro i hi; exact ⟨rfl, rfl⟩) | refine And.intro ?_ ?_))⟩
      · obtain ⟨q1, q2, q3⟩ := hb.2 h2
        refine Chk.mk (show InK .i64 (((k + 1 : Nat) : Int) + 1) from ⟨by omega, by omega⟩) ⟨⟨k + 1 + 1, by omega, q1, q2, q3⟩, (fun j => j), ?_, by show n - (k + 1 + 1) < n - (k + 1); omega⟩
        refine ⟨?_, ?_, rfl, rfl, rfl, rfl, trivial⟩ <;> repeat' (first | exact trivial | exact rfl | (intro i hi; exact ⟨rfl, rfl⟩) | refine And.intro ?_ ?_)
  have h1 : ¬ (i : Int) < (n : Int) := of_decide_eq_false h1
  obtain rfl : i = n := by omega
  rw [show i - i = 0 by omega] at hv
  have hv : true = V := hv
  subst hv
  rw [Bool.true_and] at hE
  refine loop_okR (g.ok _ _ _) 1 (fun x : {j : Nat // j ≤ 5 ∧ ptI p j = true} => ⟨[(1, ⟨[], .sp 1 0⟩), (5, ⟨[], .si .i64 x.1⟩)], [],
    [(1, .cells 27 (grA 0 p)), (0, .ro 2 i fun i => liC (L i))], 2, []⟩) (fun x => 5 - x.1) hG ⟨0, Nat.zero_le _, rfl⟩ (fun j => j) ?_ ?_
  · refine ⟨?_, ?_, rfl, rfl, rfl, rfl, trivial⟩ <;> repeat' (first | exact trivial | exact rfl | (intro i hi; exact ⟨rfl, rfl⟩) | refine And.intro ?_ ?_)
  rintro ⟨j, hj, hpj⟩
  rcases (show j = 0 ∨ j = 1 ∨ j = 2 ∨ j = 3 ∨ j = 4 ∨ j = 5 by omega) with rfl | rfl | rfl | rfl | rfl | rfl
  · show exec _ _ ⟨[(1, ⟨[], .sp 1 0⟩), (5, ⟨[], .si .i64 0⟩)], [], [(1, .cells 27 (grA 0 p)), (0, .ro 2 i fun i => liC (L i))], 2, []⟩ _
    refine Br.mk (fun _ => ?_) (fun h => by cases h)
    refine Chk.mk (bnd 0 5 rfl) ?_
    refine Chk.mk (fun h2 => ?_) ?_
    · have h2 : ((decide (p.l0 < -20) || decide (p.l0 > p.h0)) || decide (p.h0 > 20)) = false := h2
      simp only [Bool.or_eq_false_iff, decide_eq_false_iff_not] at h2
      show _ ≤ p.h0 - p.l0 ∧ p.h0 - p.l0 ≤ _
      omega
    have hpt : (((decide (p.l0 < -20) || decide (p.l0 > p.h0)) || decide (p.h0 > 20)) || decide (p.h0 - p.l0 > 6)) = !ptB p.l0 p.h0 := by
      unfold ptB
      rw [Bool.eq_iff_iff]
      by_cases q1 : -20 ≤ p.l0 <;> by_cases q2 : p.l0 ≤ p.h0 <;> by_cases q3 : p.h0 ≤ 20 <;> by_cases q4 : p.h0 - p.l0 ≤ 6 <;> simp [q1, q2, q3, q4] <;> omega
    refine Br.mk (fun h2 => ?_) (fun h2 => ?_)
    · have h2 : (((decide (p.l0 < -20) || decide (p.l0 > p.h0)) || decide (p.h0 > 20)) || decide (p.h0 - p.l0 > 6)) = true := h2
      rw [hpt] at h2
      have h2 : ptB p.l0 p.h0 = false := by simpa using h2
      have h3 : ptI p 5 = false := by simp [ptI, h2]
      rw [h3] at hE
      rw [hE]
      exact ⟨.inl rfl, end_noid rfl rfl rfl (by repeat' (first | exact trivial | exact rfl | (intro i hi; exact ⟨rfl, rfl⟩) | refine And.intro ?_ ?_))⟩
    · have h2 : (((decide (p.l0 < -20) || decide (p.l0 > p.h0)) || decide (p.h0 > 20)) || decide (p.h0 - p.l0 > 6)) = false := h2
      rw [hpt] at h2
      have h2 : ptB p.l0 p.h0 = true := by simpa using h2
      refine Chk.mk (ink1 0 rfl) ⟨⟨1, by omega, h2⟩, (fun j => j), ?_, by show 5 - 1 < 5 - 0; omega⟩
      refine ⟨?_, ?_, rfl, rfl, rfl, rfl, trivial⟩ <;> repeat' (first | exact trivial | exact rfl | (intro i hi; exact ⟨rfl, rfl⟩) | refine And.intro ?_ ?_)
  · show exec _ _ ⟨[(1, ⟨[], .sp 1 0⟩), (5, ⟨[], .si .i64 1⟩)], [], [(1, .cells 27 (grA 0 p)), (0, .ro 2 i fun i => liC (L i))], 2, []⟩ _
    refine Br.mk (fun _ => ?_) (fun h => by cases h)
    refine Chk.mk (bnd 1 5 rfl) ?_
    refine Chk.mk (fun h2 => ?_) ?_
    · have h2 : ((decide (p.l1 < -20) || decide (p.l1 > p.h1)) || decide (p.h1 > 20)) = false := h2
      simp only [Bool.or_eq_false_iff, decide_eq_false_iff_not] at h2
      show _ ≤ p.h1 - p.l1 ∧ p.h1 - p.l1 ≤ _
      omega
    have hpt : (((decide (p.l1 < -20) || decide (p.l1 > p.h1)) || decide (p.h1 > 20)) || decide (p.h1 - p.l1 > 6)) = !ptB p.l1 p.h1 := by
      unfold ptB
      rw [Bool.eq_iff_iff]
      by_cases q1 : -20 ≤ p.l1 <;> by_cases q2 : p.l1 ≤ p.h1 <;> by_cases q3 : p.h1 ≤ 20 <;> by_cases q4 : p.h1 - p.l1 ≤ 6 <;> simp [q1, q2, q3, q4] <;> omega
    refine Br.mk (fun h2 => ?_) (fun h2 => ?_)
    · have h2 : (((decide (p.l1 < -20) || decide (p.l1 > p.h1)) || decide (p.h1 > 20)) || decide (p.h1 - p.l1 > 6)) = true := h2
      rw [hpt] at h2
      have h2 : ptB p.l1 p.h1 = false := by simpa using h2
      have h3 : ptI p 5 = false := by simp [ptI, h2]
      rw [h3] at hE
      rw [hE]
      exact ⟨.inl rfl, end_noid rfl rfl rfl (by repeat' (first | exact trivial | exact rfl | (intro i hi; exact ⟨rfl, rfl⟩) | refine And.intro ?_ ?_))⟩
    · have h2 : (((decide (p.l1 < -20) || decide (p.l1 > p.h1)) || decide (p.h1 > 20)) || decide (p.h1 - p.l1 > 6)) = false := h2
      rw [hpt] at h2
      have h2 : ptB p.l1 p.h1 = true := by simpa using h2
      refine Chk.mk (ink1 1 rfl) ⟨⟨2, by omega, (show (ptI p 1 && ptB p.l1 p.h1) = true from by rw [show ptI p 1 = true from hpj, h2]; rfl)⟩, (fun j => j), ?_, by show 5 - 2 < 5 - 1; omega⟩
      refine ⟨?_, ?_, rfl, rfl, rfl, rfl, trivial⟩ <;> repeat' (first | exact trivial | exact rfl | (intro i hi; exact ⟨rfl, rfl⟩) | refine And.intro ?_ ?_)
  · show exec _ _ ⟨[(1, ⟨[], .sp 1 0⟩), (5, ⟨[], .si .i64 2⟩)], [], [(1, .cells 27 (grA 0 p)), (0, .ro 2 i fun i => liC (L i))], 2, []⟩ _
    refine Br.mk (fun _ => ?_) (fun h => by cases h)
    refine Chk.mk (bnd 2 5 rfl) ?_
    refine Chk.mk (fun h2 => ?_) ?_
    · have h2 : ((decide (p.l2 < -20) || decide (p.l2 > p.h2)) || decide (p.h2 > 20)) = false := h2
      simp only [Bool.or_eq_false_iff, decide_eq_false_iff_not] at h2
      show _ ≤ p.h2 - p.l2 ∧ p.h2 - p.l2 ≤ _
      omega
    have hpt : (((decide (p.l2 < -20) || decide (p.l2 > p.h2)) || decide (p.h2 > 20)) || decide (p.h2 - p.l2 > 6)) = !ptB p.l2 p.h2 := by
      unfold ptB
      rw [Bool.eq_iff_iff]
      by_cases q1 : -20 ≤ p.l2 <;> by_cases q2 : p.l2 ≤ p.h2 <;> by_cases q3 : p.h2 ≤ 20 <;> by_cases q4 : p.h2 - p.l2 ≤ 6 <;> simp [q1, q2, q3, q4] <;> omega
    refine Br.mk (fun h2 => ?_) (fun h2 => ?_)
    · have h2 : (((decide (p.l2 < -20) || decide (p.l2 > p.h2)) || decide (p.h2 > 20)) || decide (p.h2 - p.l2 > 6)) = true := h2
      rw [hpt] at h2
      have h2 : ptB p.l2 p.h2 = false := by simpa using h2
      have h3 : ptI p 5 = false := by simp [ptI, h2]
      rw [h3] at hE
      rw [hE]
      exact ⟨.inl rfl, end_noid rfl rfl rfl (by repeat' (first | exact trivial | exact rfl | (intro i hi; exact ⟨rfl, rfl⟩) | refine And.intro ?_ ?_))⟩
    · have h2 : (((decide (p.l2 < -20) || decide (p.l2 > p.h2)) || decide (p.h2 > 20)) || decide (p.h2 - p.l2 > 6)) = false := h2
      rw [hpt] at h2
      have h2 : ptB p.l2 p.h2 = true := by simpa using h2
      refine Chk.mk (ink1 2 rfl) ⟨⟨3, by omega, (show (ptI p 2 && ptB p.l2 p.h2) = true from by rw [show ptI p 2 = true from hpj, h2]; rfl)⟩, (fun j => j), ?_, by show 5 - 3 < 5 - 2; omega⟩
      refine ⟨?_, ?_, rfl, rfl, rfl, rfl, trivial⟩ <;> repeat' (first | exact trivial | exact rfl | (intro i hi; exact ⟨rfl, rfl⟩) | refine And.intro ?_ ?_)
  · show exec _ _ ⟨[(1, ⟨[], .sp 1 0⟩), (5, ⟨[], .si .i64 3⟩)], [], [(1, .cells 27 (grA 0 p)), (0, .ro 2 i fun i => liC (L i))], 2, []⟩ _
    refine Br.mk (fun _ => ?_) (fun h => by cases h)
    refine Chk.mk (bnd 3 5 rfl) ?_
    refine Chk.mk (fun h2 => ?_) ?_
    · have h2 : ((decide (p.l3 < -20) || decide (p.l3 > p.h3)) || decide (p.h3 > 20)) = false := h2
      simp only [Bool.or_eq_false_iff, decide_eq_false_iff_not] at h2
      show _ ≤ p.h3 - p.l3 ∧ p.h3 - p.l3 ≤ _
      omega
    have hpt : (((decide (p.l3 < -20) || decide (p.l3 > p.h3)) || decide (p.h3 > 20)) || decide (p.h3 - p.l3 > 6)) = !ptB p.l3 p.h3 := by
      unfold ptB
      rw [Bool.eq_iff_iff]
      by_cases q1 : -20 ≤ p.l3 <;> by_cases q2 : p.l3 ≤ p.h3 <;> by_cases q3 : p.h3 ≤ 20 <;> by_cases q4 : p.h3 - p.l3 ≤ 6 <;> simp [q1, q2, q3, q4] <;> omega
    refine Br.mk (fun h2 => ?_) (fun h2 => ?_)
    · have h2 : (((decide (p.l3 < -20) || decide (p.l3 > p.h3)) || decide (p.h3 > 20)) || decide (p.h3 - p.l3 > 6)) = true := h2
      rw [hpt] at h2
      have h2 : ptB p.l3 p.h3 = false := by simpa using h2
      have h3 : ptI p 5 = false := by simp [ptI, h2]
      rw [h3] at hE
      rw [hE]
      exact ⟨.inl rfl, end_noid rfl rfl rfl (by repeat' (first | exact trivial | exact rfl | (intro i hi; exact ⟨rfl, rfl⟩) | refine And.intro ?_ ?_))⟩
    · have h2 : (((decide (p.l3 < -20) || decide (p.l3 > p.h3)) || decide (p.h3 > 20)) || decide (p.h3 - p.l3 > 6)) = false := h2
      rw [hpt] at h2
      have h2 : ptB p.l3 p.h3 = true := by simpa using h2
      refine Chk.mk (ink1 3 rfl) ⟨⟨4, by omega, (show (ptI p 3 && ptB p.l3 p.h3) = true from by rw [show ptI p 3 = true from hpj, h2]; rfl)⟩, (fun j => j), ?_, by show 5 - 4 < 5 - 3; omega⟩
      refine ⟨?_, ?_, rfl, rfl, rfl, rfl, trivial⟩ <;> repeat' (first | exact trivial | exact rfl | (intro i hi; exact ⟨rfl, rfl⟩) | refine And.intro ?_ ?_)
  · show exec _ _ ⟨[(1, ⟨[], .sp 1 0⟩), (5, ⟨[], .si .i64 4⟩)], [], [(1, .cells 27 (grA 0 p)), (0, .ro 2 i fun i => liC (L i))], 2, []⟩ _
    refine Br.mk (fun _ => ?_) (fun h => by cases h)
    refine Chk.mk (bnd 4 5 rfl) ?_
    refine Chk.mk (fun h2 => ?_) ?_
    · have h2 : ((decide (p.l4 < -20) || decide (p.l4 > p.h4)) || decide (p.h4 > 20)) = false := h2
      simp only [Bool.or_eq_false_iff, decide_eq_false_iff_not] at h2
      show _ ≤ p.h4 - p.l4 ∧ p.h4 - p.l4 ≤ _
      omega
    have hpt : (((decide (p.l4 < -20) || decide (p.l4 > p.h4)) || decide (p.h4 > 20)) || decide (p.h4 - p.l4 > 6)) = !ptB p.l4 p.h4 := by
      unfold ptB
      rw [Bool.eq_iff_iff]
      by_cases q1 : -20 ≤ p.l4 <;> by_cases q2 : p.l4 ≤ p.h4 <;> by_cases q3 : p.h4 ≤ 20 <;> by_cases q4 : p.h4 - p.l4 ≤ 6 <;> simp [q1, q2, q3, q4] <;> omega
    refine Br.mk (fun h2 => ?_) (fun h2 => ?_)
    · have h2 : (((decide (p.l4 < -20) || decide (p.l4 > p.h4)) || decide (p.h4 > 20)) || decide (p.h4 - p.l4 > 6)) = true := h2
      rw [hpt] at h2
      have h2 : ptB p.l4 p.h4 = false := by simpa using h2
      have h3 : ptI p 5 = false := by simp [ptI, h2]
      rw [h3] at hE
      rw [hE]
      exact ⟨.inl rfl, end_noid rfl rfl rfl (by repeat' (first | exact trivial | exact rfl | (intro i hi; exact ⟨rfl, rfl⟩) | refine And.intro ?_ ?_))⟩
    · have h2 : (((decide (p.l4 < -20) || decide (p.l4 > p.h4)) || decide (p.h4 > 20)) || decide (p.h4 - p.l4 > 6)) = false := h2
      rw [hpt] at h2
      have h2 : ptB p.l4 p.h4 = true := by simpa using h2
      refine Chk.mk (ink1 4 rfl) ⟨⟨5, by omega, (show (ptI p 4 && ptB p.l4 p.h4) = true from by rw [show ptI p 4 = true from hpj, h2]; rfl)⟩, (fun j => j), ?_, by show 5 - 5 < 5 - 4; omega⟩
      refine ⟨?_, ?_, rfl, rfl, rfl, rfl, trivial⟩ <;> repeat' (first | exact trivial | exact rfl | (intro i hi; exact ⟨rfl, rfl⟩) | refine And.intro ?_ ?_)
  refine Br.mk (fun h => by cases h) (fun _ => ?_)
  have hpj : ptI p 5 = true := hpj
  rw [hpj] at hE
  rw [hE]
  exact ⟨.inl rfl, end_noid rfl rfl rfl (by repeat' (first | exact trivial | exact rfl | (intro i hi; exact ⟨rfl, rfl⟩) | refine And.intro ?_ ?_))⟩
theorem g40 {l : List (Nat × Ct)} (g : Good P T l) : Good P T ((40, c40) :: l) := g.add (k40 g) c40_mono (body_of Try.func40 (c := code Try.f40) rfl (by decide))
end Go.X.Gr
end

section
set_option linter.unusedVariables false
set_option linter.unusedSimpArgs false
set_option linter.unusedSectionVars false
/- Grade: the sets by the number that a point has. -/
set_option linter.unusedVariables false
set_option linter.unusedSimpArgs false
set_option maxRecDepth 10000
set_option maxHeartbeats 4000000
namespace Go.X.Gr
open Go Go.Proofs Go.X

def encI (x : Int) : SV := .si .i64 x
def encU (x : Nat) : SV := .si .u64 (x : Int)
theorem encI_key : KeyT T 3 encI where
  ty := ⟨_, rfl⟩
  chk := fun a => by kernel_rfl
  eq := fun a b => by
    have h : eqC T 9 3 (encI a) (encI b) = some (decide (a = b)) := by kernel_rfl
    exact h
  cl := fun a => ⟨.int .i64 a, rfl⟩
  same := fun a => by
    have : cv (encI a) = .int .i64 a := rfl
    rw [this]
    simp [Instr.sameBits]
theorem encU_cl : Closed encU := fun a => ⟨.int .u64 a, rfl⟩
/-- The set of a number. -/
def lookU (c : List (Int × Nat)) (x : Int) : Nat := match lookA c x with
  | some s => s
  | none => 0
def fAsk (L : List (Int × Int)) (q : Int) (c : List (Int × Nat)) (a0 a1 a2 a3 a4 : Int) : List (Int × Nat) × Bool :=
  (updA c (ptV q a0 a1 a2 a3 a4) (lookU c (ptV q a0 a1 a2 a3 a4) ||| 2 ^ ofL L (lkP a0 a1 a2 a3 a4)), true)
def askM (L : List (Int × Int)) (q : Int) (g : Pts) : List (Int × Nat) := (on0 (fAsk L q) g []).1
/-- The most grades that are left. -/
def askV (L : List (Int × Int)) (q : Int) (g : Pts) : Nat := (askM L q g).foldl (fun m p => max m (popV p.2)) 0
end Go.X.Gr
end

section
set_option linter.unusedVariables false
set_option linter.unusedSimpArgs false
set_option linter.unusedSectionVars false
/- Grade: the state of Ask's rounds. -/
set_option linter.unusedVariables false
set_option linter.unusedSimpArgs false
set_option maxRecDepth 10000
set_option maxHeartbeats 4000000
namespace Go.X.Gr
open Go Go.Proofs Go.X

/-- All of these slots are there. -/
def subF (F : List (Nat × FE)) : List (Nat × FE) → Prop
  | [] => True
  | (d, e) :: r => (findF F d = some e ∧ e.gp = []) ∧ subF F r
/-! Operations that only read, in whatever order: each of them is looked at once. -/
theorem findF_mem {A : List (Nat × FE)} : ∀ {L : List (Nat × FE)}, (∀ p ∈ L, findF A p.1 = some p.2) → ∀ {t : Nat} {e : FE}, (findF L t = some e → findF A t = some e ∧ (t, e) ∈ L) ∧ ((t, e) ∈ L → findF L t = some e)
  | [], _, t, e => ⟨fun h => (by cases h), fun h => (by cases h)⟩
  | (d, x) :: r, hc, t, e => by
    have ih := findF_mem (A := A) (L := r) (fun p hp => hc p (List.mem_cons_of_mem _ hp)) (t := t) (e := e)
    have h0 := hc (d, x) List.mem_cons_self
    simp only [findF]
    constructor
    · intro h
      split at h
      · rename_i hd
        cases h
        have : d = t := Nat.eq_of_beq_eq_true hd
        subst this
        exact ⟨h0, List.mem_cons_self⟩
      · obtain ⟨h1, h2⟩ := ih.1 h
        exact ⟨h1, List.mem_cons_of_mem _ h2⟩
    · intro h
      split
      · rename_i hd
        have : d = t := Nat.eq_of_beq_eq_true hd
        subst this
        have h1 := hc (d, e) h
        rw [h0] at h1
        exact h1
      · rename_i hd
        rcases List.mem_cons.1 h with h | h
        · cases h
          rw [Nat.beq_refl] at hd
          exact absurd rfl hd
        · exact ih.2 h
theorem mod_sub {X : Cx} {ρ : Env} {A F F' : List (Nat × FE)} {gs : List Nat} {H : List (Nat × HB)} {nx nx' : Nat} {D : List SDef} {a : Act} {w : World} (hA : ∀ p ∈ A, findF A p.1 = some p.2 ∧ p.2.gp = []) (h1 : ∀ p ∈ F, p ∈ A) (h2 : ∀ p ∈ F', p ∈ F) (hn : nx ≤ nx')
    (hm : Mod X ρ ⟨F, gs, H, nx, D⟩ a w) : Mod X ρ ⟨F', [], H, nx', D⟩ a w := by
  have key : ∀ t e, findF F' t = some e → findF F t = some e ∧ e.gp = [] := fun t e h => by
    have m := ((findF_mem (A := A) (L := F') fun p hp => (hA p (h1 p (h2 p hp))).1).1 h).2
    exact ⟨(findF_mem (A := A) (L := F) fun p hp => (hA p (h1 p hp)).1).2 (h2 _ m), (hA _ (h1 _ (h2 _ m))).2⟩
  exact {
    fm := fun t e h => hm.fm t e (key t e h).1
    gs := fun t e h x hx => by rw [(key t e h).2] at hx; cases hx
    df := hm.df
    hm := hm.hm
    kp := hm.kp
    nx := fun j hj => hm.nx j (Nat.le_trans hn hj)
    sz := hm.sz }
def allB : Nat → List (List Bool)
  | 0 => [[]]
  | n + 1 => (allB n).flatMap fun l => [false :: l, true :: l]
theorem mem_allB : ∀ (l : List Bool), l ∈ allB l.length
  | [] => List.mem_cons_self
  | b :: r => by
    refine List.mem_flatMap.2 ⟨r, mem_allB r, ?_⟩
    cases b <;> simp
/-- What has run, with what comes later. -/
def arrL (N : Nat) (l : List Bool) : Array Bool := (l ++ List.replicate (N - l.length) false).toArray
def clB2 (anc : Nat → List Nat) (l : List Bool) : Bool := (List.range l.length).all fun i => !(l.getD i false) || (anc i).all fun j => l.getD j false
def latB (ops : Array Oper) (anc : Nat → List Nat) (l : List Bool) : Bool :=
  !clB2 anc l || (l.all id || (let rs := Region.ready .any ops (arrL ops.size l); !rs.isEmpty && rs.all fun i => decide (i < l.length) && (!(l.getD i true) && (anc i).all fun j => l.getD j false)))
def slF (slots : Nat → List (Nat × FE)) (base : List (Nat × FE)) (l : List Bool) : List (Nat × FE) := ((List.range l.length).flatMap fun i => if l.getD i false = true then slots i else []) ++ base
theorem slF_mem {slots : Nat → List (Nat × FE)} {base : List (Nat × FE)} {l : List Bool} {p : Nat × FE} : p ∈ slF slots base l ↔ (∃ i, i < l.length ∧ l.getD i false = true ∧ p ∈ slots i) ∨ p ∈ base := by
  unfold slF
  rw [List.mem_append, List.mem_flatMap]
  constructor
  · rintro (⟨i, hi, hp⟩ | hp)
    · left
      split at hp
      · rename_i h
        exact ⟨i, List.mem_range.1 hi, h, hp⟩
      · cases hp
    · exact .inr hp
  · rintro (⟨i, hi, h, hp⟩ | hp)
    · exact .inl ⟨i, List.mem_range.2 hi, by rw [if_pos h]; exact hp⟩
    · exact .inr hp
theorem any_lat {X : Cx} {ops : Array Oper} {K : Ex → St → Prop} (hX : X.Ok) (m : Nat) (hm : m ≤ ops.size) (slots : Nat → List (Nat × FE)) (base : List (Nat × FE)) (H : List (Nat × HB)) (anc : Nat → List Nat) (nx rest : Nat)
    (hanc : ∀ i, i < m → ∀ j ∈ anc i, j < m) (hchk : ∀ l ∈ allB m, latB ops anc l = true) (hA : subF (slF slots base (List.replicate m true)) (slF slots base (List.replicate m true)))
    (hst : ∀ i, i < m → ∃ o, ops[i]? = some o ∧ o.guard = none ∧ ∀ (tail : List (Nat × FE)) (nx : Nat) (Q : Exit → Act → World → Prop) (Kn : St → Prop), Cont X Q Kn (fun _ _ => False) → (∀ nx', nx' ≤ nx + 4 → Kn ⟨slots i ++ ((anc i).flatMap slots ++ (base ++ tail)), [], H, nx', []⟩) →
      execL X [o] Q Kn (fun _ _ => False) 0 [o] ⟨(anc i).flatMap slots ++ (base ++ tail), [], H, nx, []⟩)
    (hend : AnyS X ops rest (arrL ops.size (List.replicate m true)) ⟨slF slots base (List.replicate m true), [], H, nx + 4 * m, []⟩ K) :
    AnyS X ops (m + rest) (arrL ops.size (List.replicate m false)) ⟨base, [], H, nx, []⟩ K := by
  have hA' : ∀ p ∈ slF slots base (List.replicate m true), findF (slF slots base (List.replicate m true)) p.1 = some p.2 ∧ p.2.gp = [] := by
    generalize slF slots base (List.replicate m true) = A at hA
    have : ∀ L : List (Nat × FE), subF A L → ∀ p ∈ L, findF A p.1 = some p.2 ∧ p.2.gp = [] := by
      intro L
      induction L with
      | nil => intro _ p hp; cases hp
      | cons q r ih =>
        intro h p hp
        obtain ⟨d, e⟩ := q
        rcases List.mem_cons.1 hp with rfl | hp
        · exact h.1
        · exact ih h.2 p hp
    exact this A hA
  have hall : ∀ l : List Bool, l.length = m → ∀ p ∈ slF slots base l, p ∈ slF slots base (List.replicate m true) := by
    intro l hl p hp
    rcases slF_mem.1 hp with ⟨i, hi, _, h⟩ | h
    · refine slF_mem.2 (.inl ⟨i, by simpa [hl] using hi, ?_, h⟩)
      have : i < m := hl ▸ hi
      simp [List.getD, this]
    · exact slF_mem.2 (.inr h)
  have main : ∀ k, ∀ l : List Bool, l.length = m → clB2 anc l = true → l.count false = k → AnyS X ops (k + rest) (arrL ops.size l) ⟨slF slots base l, [], H, nx + 4 * (m - k), []⟩ K := by
    intro k
    induction k with
    | zero =>
      intro l hl _ hk
      have : l = List.replicate m true := by
        rw [← hl]
        refine List.eq_replicate_of_mem fun b hb => ?_
        cases b with
        | true => rfl
        | false => exact absurd hb (by rw [← List.count_pos_iff]; omega)
      subst this
      rw [Nat.zero_add, Nat.sub_zero]
      exact hend
    | succ k ih =>
      intro l hl hcl hk
      have hc := hchk l (hl ▸ mem_allB l)
      have hnall : l.all id = false := by
        cases h : l.all id with
        | false => rfl
        | true =>
          have : false ∈ l := List.count_pos_iff.1 (by omega)
          exact absurd (List.all_eq_true.1 h false this) (by decide)
      unfold latB at hc
      rw [hcl, hnall] at hc
      simp only [Bool.not_true, Bool.false_or, Bool.and_eq_true, Bool.not_eq_true', List.all_eq_true, decide_eq_true_eq] at hc
      obtain ⟨hne, hrs⟩ := hc
      refine ⟨fun ρ a w hmod => ?_⟩
      rw [show k + 1 + rest = (k + rest) + 1 by omega]
      refine wpAnyIn_all (rs := Region.ready .any ops (arrL ops.size l)) rfl (by intro h; rw [h] at hne; cases hne) fun i hi => ?_
      obtain ⟨hil, hif, hia⟩ := hrs i hi
      have him : i < m := hl ▸ hil
      obtain ⟨o, ho, hg, hstep⟩ := hst i him
      have hset : (arrL ops.size l).setIfInBounds i true = arrL ops.size (l.set i true) := by
        unfold arrL
        rw [List.length_set]
        simp [List.set_append, hil]
      rw [hset]
      have hlen : (l.set i true).length = m := by rw [List.length_set, hl]
      have hget : ∀ j, (l.set i true).getD j false = true ↔ j = i ∨ l.getD j false = true := by
        intro j
        simp only [List.getD, List.getElem?_set]
        by_cases e : i = j
        · subst e; simp [hil]
        · simp [e, Ne.symm e]
      have hcl' : clB2 anc (l.set i true) = true := by
        unfold clB2 at hcl ⊢
        rw [List.all_eq_true] at hcl ⊢
        intro j hj
        rw [List.length_set] at hj
        have h0 := hcl j hj
        cases hd : (l.set i true).getD j false with
        | false => rfl
        | true =>
          rw [Bool.not_true, Bool.false_or, List.all_eq_true]
          intro q hq
          refine (hget q).2 ?_
          rcases (hget j).1 hd with rfl | hd
          · exact .inr (hia q hq)
          · rw [hd] at h0
            rw [Bool.not_true, Bool.false_or, List.all_eq_true] at h0
            exact .inr (h0 q hq)
      have hcount : (l.set i true).count false = k := by
        have hli : l[i]? = some false := by
          have : l.getD i true = false := by simpa using hif
          rw [List.getD, List.getElem?_eq_getElem hil] at this
          rw [List.getElem?_eq_getElem hil]
          simpa using this
        have hli2 : l[i] = false := by rw [List.getElem?_eq_getElem hil] at hli; simpa using hli
        have := List.count_set (a := true) (b := false) (l := l) (i := i) hil
        rw [hli2] at this
        simp at this
        omega
      have ihh := ih (l.set i true) hlen hcl' hcount
      have hmem : ∀ p ∈ (anc i).flatMap slots ++ (base ++ slF slots base l), p ∈ slF slots base l := by
        intro p hp
        rcases List.mem_append.1 hp with hp | hp
        · obtain ⟨j, hj, hp⟩ := List.mem_flatMap.1 hp
          exact slF_mem.2 (.inl ⟨j, hl ▸ hanc i him j hj, hia j hj, hp⟩)
        · rcases List.mem_append.1 hp with hp | hp
          · exact slF_mem.2 (.inr hp)
          · exact hp
      have hmod' := mod_sub (F' := (anc i).flatMap slots ++ (base ++ slF slots base l)) hA' (hall l hl) hmem (Nat.le_refl _) hmod
      refine stepsK_ok hX (l := [i]) (K := K) (st := ⟨(anc i).flatMap slots ++ (base ++ slF slots base l), [], H, nx + 4 * (m - (k + 1)), []⟩) ⟨?_, trivial⟩ i (List.mem_singleton.2 rfl) ρ a w hmod' |> fun h => by rw [hset] at h; exact h
      have hnth : nth ops.toList i = some o := by rw [nth_eq, Array.getElem?_toList]; exact ho
      rw [hnth]
      show (match o.guard with
        | none => _
        | some _ => False)
      rw [hg]
      refine hstep _ _ _ _ cont_any fun nx' hnx => ?_
      rw [hset]
      refine ⟨fun ρ a w hm2 => ?_⟩
      refine ihh.h ρ a w (mod_sub (F := slots i ++ ((anc i).flatMap slots ++ (base ++ slF slots base l))) (nx := nx') hA' ?_ ?_ ?_ hm2)
      · intro p hp
        rcases List.mem_append.1 hp with hp | hp
        · refine slF_mem.2 (.inl ⟨i, by simpa using him, ?_, hp⟩)
          simp [List.getD, him]
        · exact hall l hl p (hmem p hp)
      · intro p hp
        rcases slF_mem.1 hp with ⟨j, hj, hd, hp2⟩ | hp2
        · rw [List.length_set] at hj
          rcases (hget j).1 hd with e | hd
          · exact List.mem_append_left _ (e ▸ hp2)
          · exact List.mem_append_right _ (List.mem_append_right _ (List.mem_append_right _ (slF_mem.2 (.inl ⟨j, hj, hd, hp2⟩))))
        · exact List.mem_append_right _ (List.mem_append_right _ (List.mem_append_left _ hp2))
      · have : k + 1 ≤ m := by
          rw [← hk, ← hl]
          exact List.count_le_length
        omega
  have h0 := main m (List.replicate m false) (by simp) (by
    unfold clB2
    rw [List.all_eq_true]
    intro i hi
    have : i < m := by simpa using hi
    simp [List.getD, this]) (by simp)
  rw [Nat.sub_self] at h0
  refine ⟨fun ρ a w hmod => h0.h ρ a w (mod_sub (F := base) hA' (fun p hp => slF_mem.2 (.inr hp)) ?_ (by omega) hmod)⟩
  intro p hp
  rcases slF_mem.1 hp with ⟨j, hj, hd, hp⟩ | hp
  · have : j < m := by simpa using hj
    simp [List.getD, this] at hd
  · exact hp
theorem updA_mem2 {κ ν : Type} [DecidableEq κ] {m : List (κ × ν)} {k : κ} {v : ν} {p : κ × ν} (h : p ∈ updA m k v) : p ∈ m ∨ p.2 = v := by
  induction m with
  | nil => simp [updA] at h; right; rw [h]
  | cons q r ih =>
    unfold updA at h
    split at h
    · rcases List.mem_cons.1 h with rfl | h
      · right; rfl
      · left; exact List.mem_cons_of_mem _ h
    · rcases List.mem_cons.1 h with rfl | h
      · left; exact List.mem_cons_self
      · rcases ih h with h | h
        · left; exact List.mem_cons_of_mem _ h
        · right; exact h
/-- The operations of a region, by its number. -/
def rgOf (id : Nat) : Code → Option (Array Oper)
  | .region i ops _ => if i = id then some ops else none
  | .rangeFunc _ _ a b => match rgOf id a with
    | some r => some r
    | none => rgOf id b
  | .seq x y => match rgOf id x with
    | some r => some r
    | none => rgOf id y
  | .cond _ x y => match rgOf id x with
    | some r => some r
    | none => rgOf id y
  | .block _ x => rgOf id x
  | .loop x => rgOf id x
  | .scope x => rgOf id x
  | _ => none
def opsAt (c : Code) (id : Nat) : Array Oper := match rgOf id c with
  | some r => r
  | none => #[]
theorem lookU_lt {c : List (Int × Nat)} (hc : ∀ p ∈ c, p.2 < 64) (a : Int) : lookU c a < 64 := by
  unfold lookU
  split
  · rename_i s e
    exact hc _ (lookA_mem e)
  · decide
theorem pow_ok {x : Nat} (hx : x < 5) : (1 * 2 ^ ((x : Nat) : Int).toNat : Int) = ((2 ^ x : Nat) : Int) ∧ ((0 : Int) ≤ ((x : Nat) : Int) ∧ ((x : Nat) : Int).toNat ≤ 64 ∧ InK .u64 (1 * 2 ^ ((x : Nat) : Int).toNat)) ∧ 2 ^ x < 32 := by
  rcases (show x = 0 ∨ x = 1 ∨ x = 2 ∨ x = 3 ∨ x = 4 by omega) with rfl | rfl | rfl | rfl | rfl <;> exact ⟨by decide, ⟨by decide, by decide, ⟨by decide, by decide⟩⟩, by decide⟩
theorem or_pre {u x : Nat} (hu : u < 64) (hv : (1 * 2 ^ ((x : Nat) : Int).toNat : Int) = ((2 ^ x : Nat) : Int)) (hp : 2 ^ x < 32) :
    (0 : Int) ≤ ((u : Nat) : Int) ∧ (0 : Int) ≤ 1 * 2 ^ ((x : Nat) : Int).toNat ∧ InK .u64 ((u : Nat) : Int) ∧ InK .u64 (1 * 2 ^ ((x : Nat) : Int).toNat) := by
  rw [hv]
  generalize 2 ^ x = v at hp
  exact ⟨by omega, by omega, ⟨by show (0 : Int) ≤ _; omega, by show _ ≤ (18446744073709551615 : Int); omega⟩, by show (0 : Int) ≤ _; omega, by show _ ≤ (18446744073709551615 : Int); omega⟩
theorem or_val {u x : Nat} (hv : (1 * 2 ^ ((x : Nat) : Int).toNat : Int) = ((2 ^ x : Nat) : Int)) : ((((u : Nat) : Int).toNat ||| (1 * 2 ^ ((x : Nat) : Int).toNat : Int).toNat : Nat) : Int) = ((u ||| 2 ^ x : Nat) : Int) := by
  rw [hv, Int.toNat_natCast, Int.toNat_natCast]
theorem b79 : Body P 79 := body_of Try.func79 (c := code Try.f79) rfl (by decide)
/-- The marks of the rounds before. -/
def askM0 : Nat → List (Nat × HB)
  | 0 => []
  | p + 1 => (9 + p, .dfr) :: askM0 p
def askF (q : Nat) (best least : Int) : List (Nat × SV) := [(4, .sp 3 0), (5, .sp 5 0), (6, .si .i64 best), (7, .si .i64 least), (8, .sp 6 0), (9, .sp 8 0), (18, .si .i64 q), (23, .fn (.func 98) [] [.sp 4 0])]
def askR (q n m : Nat) (l1 l2 : Nat → Int × Int) : List (Nat × HB) := (6, .cells 3 [.si .i64 q]) :: (5, .cells 64 [.sp 1 0]) :: (3, .cells 30 [.si .i64 0]) :: (2, .vec 51 2 m fun i => liC (l2 i)) :: (0, .ro 2 n fun i => liC (l1 i)) :: askM0 q
noncomputable def chAskS (s : LoopState) (q : Nat) (best least : Int) (n m : Nat) (l1 l2 : Nat → Int × Int) (fn : Nat) (c : List (Int × Nat)) : List (Nat × HB) :=
  (21, .loop (askF q best least) Try.f27.ntmps fn [24] (rfA (code Try.f27)) (rfB (code Try.f27)) 20 s none) :: (20, .dfr) ::
   (8, .cells 99 [.sm 7]) :: (7, .mp (encM encI encU c)) :: askR q n m l1 l2
noncomputable abbrev chAsk := chAskS .ready
noncomputable def askH (q : Nat) (best least : Int) (g : Pts) (n m : Nat) (l1 l2 : Nat → Int × Int) (fn : Nat) (c : List (Int × Nat)) (a0 a1 a2 a3 a4 : Int) : List (Nat × HB) := (25, .cells 68 (c5 a0 a1 a2 a3 a4)) :: (Fr g a0 a1 a2 a3 a4 ++ chAskS .busy q best least n m l1 l2 fn c)
def askD : Nat → List SDef
  | 0 => [(1000000, [.si .i64 77, .sp 3 0])]
  | p + 1 => (MARK, [.sp (9 + p) 0]) :: askD p
def askI (p : Nat) (x : Int × Int) (g : Pts) (n m : Nat) (l1 l2 : Nat → Int × Int) : St :=
  ⟨[(4, ⟨[], .sp 3 0⟩), (5, ⟨[], .sp 5 0⟩), (6, ⟨[], .si .i64 x.1⟩), (7, ⟨[], .si .i64 x.2⟩), (18, ⟨[], .si .i64 p⟩)], [], (1, .cells 108 (bnC g)) :: (5, .cells 64 [.sp 1 0]) :: (3, .cells 30 [.si .i64 0]) :: (2, .vec 51 2 m fun i => liC (l2 i)) :: (0, .ro 2 n fun i => liC (l1 i)) :: askM0 p, 20, askD p⟩
/-- The better one. -/
def stepA (a p : Nat) (x : Int × Int) : Int × Int := if p = 0 ∨ (a : Int) < x.2 then ((p : Int), (a : Int)) else x
def lAsk : List (Nat × Ct) := [(47, c47), (61, c61), (81, c81)]
theorem gAsk : Good P T lAsk := g47 (g61 (g81 good0))
def lpOf : Code → Option Code
  | .seq x y => match lpOf x with
    | some r => some r
    | none => lpOf y
  | .cond _ x y => match lpOf x with
    | some r => some r
    | none => lpOf y
  | .block _ x => lpOf x
  | .loop x => some x
  | .scope x => lpOf x
  | _ => none
noncomputable def lp27 : Code := match lpOf (code Try.f27) with
  | some c => c
  | none => .skip
def mostV (l : List (Int × Nat)) : Nat := l.foldl (fun m p => max m (popV p.2)) 0
theorem mostV_snoc (l : List (Int × Nat)) (p : Int × Nat) : mostV (l ++ [p]) = max (mostV l) (popV p.2) := by simp [mostV, List.foldl_append]
theorem mostV_perm {l l' : List (Int × Nat)} (h : l.Perm l') : mostV l = mostV l' := by
  unfold mostV
  exact h.foldl_eq' (fun x _ y _ z => by omega) 0
theorem fAsk_ok {L : List (Int × Int)} (hL : L.length ≤ 5) {q : Int} {c : List (Int × Nat)} (hc : ∀ p ∈ c, p.2 < 64) {a0 a1 a2 a3 a4 : Int} : ∀ p ∈ (fAsk L q c a0 a1 a2 a3 a4).1, p.2 < 64 := by
  intro p hp
  rcases updA_mem2 hp with h | h
  · exact hc p h
  · rw [h]
    have h1 := lookU_lt hc (ptV q a0 a1 a2 a3 a4)
    have h2 : ofL L (lkP a0 a1 a2 a3 a4) ≤ L.length := List.findIdx_le_length
    have h3 : (2 : Nat) ^ ofL L (lkP a0 a1 a2 a3 a4) < 2 ^ 6 := Nat.pow_lt_pow_right (by decide) (by omega)
    exact Nat.or_lt_two_pow (n := 6) h1 h3
theorem askM_b {L : List (Int × Int)} {g : Pts} (hb : ptsB g) {m : Nat} (hm : m ≤ 5) (hof : ∀ {a0 a1 a2 a3 a4 : Int}, okI a0 → okI a1 → okI a2 → okI a3 → okI a4 → ofL L (lkP a0 a1 a2 a3 a4) < m) {q : Int} : ∀ p ∈ askM L q g, p.2 < 32 := by
  refine on0_all (γ := List (Int × Nat)) (f := fAsk L q) (I := fun c => ∀ p ∈ c, p.2 < 32) hb (fun c a0 a1 a2 a3 a4 o0 o1 o2 o3 o4 hc p hp => ?_) (fun p hp => by cases hp)
  rcases updA_mem2 hp with h | h
  · exact hc p h
  · rw [h]
    have h1 : lookU c (ptV q a0 a1 a2 a3 a4) < 2 ^ 5 := by
      unfold lookU
      split
      · rename_i s e
        exact hc _ (lookA_mem e)
      · decide
    have h2 := hof o0 o1 o2 o3 o4
    have h3 : (2 : Nat) ^ ofL L (lkP a0 a1 a2 a3 a4) < 2 ^ 5 := Nat.pow_lt_pow_right (by decide) (by omega)
    exact Nat.or_lt_two_pow (n := 5) h1 h3
end Go.X.Gr
end

section
set_option linter.unusedVariables false
set_option linter.unusedSimpArgs false
set_option linter.unusedSectionVars false
/- Grade: Ask's round, for each point. -/
set_option linter.unusedVariables false
set_option linter.unusedSimpArgs false
set_option maxRecDepth 10000
set_option maxHeartbeats 40000000
namespace Go.X.Gr
open Go Go.Proofs Go.X

def ancA : Nat → List Nat
  | 2 => [1]
  | 3 => [2]
  | 4 => [0, 3]
  | 8 => [6, 7]
  | 9 => [5, 8]
  | 10 => [9]
  | _ => []
theorem lat27 : ∀ l ∈ allB 11, latB (opsAt (code Try.f27) 10) ancA l = true := List.all_eq_true.1 (by kernel_rfl)
def slotsA (q : Nat) (aq a0 a1 a2 a3 a4 : Int) (u x : Nat) : Nat → List (Nat × FE)
  | 0 => [(25, ⟨[], .sm 7⟩)]
  | 1 => [(26, ⟨[], .si .i64 q⟩)]
  | 2 => [(27, ⟨[], .sp 25 q⟩)]
  | 3 => [(28, ⟨[], encI aq⟩)]
  | 4 => [(29, ⟨[], encU u⟩)]
  | 5 => [(30, ⟨[], .sp 1 0⟩)]
  | 6 => [(31, ⟨[], .agg []⟩)]
  | 7 => [(32, ⟨[], .agg (c5 a0 a1 a2 a3 a4)⟩)]
  | 8 => [(33, ⟨[], encF (lkP a0 a1 a2 a3 a4)⟩)]
  | 9 => [(34, ⟨[], .si .i64 (x : Nat)⟩)]
  | 10 => [(35, ⟨[], .si .u64 (1 * 2 ^ ((x : Nat) : Int).toNat)⟩)]
  | _ => []
def baseA : List (Nat × FE) := [(10, ⟨[], .sp 25 0⟩), (9, ⟨[], .sp 8 0⟩), (8, ⟨[], .sp 6 0⟩), (5, ⟨[], .sp 5 0⟩)]
theorem yAsk {q : Nat} (hq : q < 5) {g : Pts} {n m : Nat} {l1 l2 : Nat → Int × Int} (hm : m ≤ 5) (hof : ∀ {a0 a1 a2 a3 a4 : Int}, okI a0 → okI a1 → okI a2 → okI a3 → okI a4 → ofL (limsL m (fun i => liC (l2 i))) (lkP a0 a1 a2 a3 a4) < m) {fn : Nat} {best least : Int} (c : List (Int × Nat)) (hc : ∀ p ∈ c, p.2 < 64) {a0 a1 a2 a3 a4 : Int} (o0 : okI a0) (o1 : okI a1) (o2 : okI a2) (o3 : okI a3) (o4 : okI a4) :
    YieldOk P T (tabC [(84, c84), (85, c85)]) 21 [.agg (c5 a0 a1 a2 a3 a4)] (Fr g a0 a1 a2 a3 a4 ++ chAsk q best least n m l1 l2 fn c) 25 true (Fr g a0 a1 a2 a3 a4 ++ chAsk q best least n m l1 l2 fn (fAsk (limsL m (fun i => liC (l2 i))) q c a0 a1 a2 a3 a4).1) 25 := by
  obtain ⟨aq, haq⟩ : ∃ aq, ptV q a0 a1 a2 a3 a4 = aq := ⟨_, rfl⟩
  obtain ⟨u, hu⟩ : ∃ u, lookU c aq = u := ⟨_, rfl⟩
  have hx5 : ofL (limsL m (fun i => liC (l2 i))) (lkP a0 a1 a2 a3 a4) < m := hof o0 o1 o2 o3 o4
  have h79 : Lims n (fun i => liC (l1 i)) ∧ Lims m (fun i => liC (l2 i)) ∧ m ≤ 100 ∧ ofL (limsL m (fun i => liC (l2 i))) (lkP a0 a1 a2 a3 a4) < m := ⟨lims_i _ _, lims_i _ _, by omega, hx5⟩
  obtain ⟨hv1, h10, hpw⟩ := pow_ok (x := ofL (limsL m (fun i => liC (l2 i))) (lkP a0 a1 a2 a3 a4)) (by omega)
  have hu32 : u < 64 := hu ▸ lookU_lt hc aq
  have hq5 : q = 0 ∨ q = 1 ∨ q = 2 ∨ q = 3 ∨ q = 4 := by omega
  refine yield_to 21 g8485.ok (l' := (24, .agg (c5 a0 a1 a2 a3 a4)) :: askF q best least) rfl rfl (by decide) fun G r hG => ?_
  refine (show SemC _ _ _ _ from ?_)
  refine any_region fol ?_
  refine any_weaken (st' := ⟨baseA, [], askH q best least g n m l1 l2 fn c a0 a1 a2 a3 a4, 30, []⟩) 25 (fun j => j) hG (by refine ⟨?_, ?_, injI_id _, rfl, rfl, rfl, trivial⟩ <;> rcases hq5 with rfl | rfl | rfl | rfl | rfl <;> repeat' (first | exact trivial | exact rfl | (intro i hi; exact ⟨rfl, rfl⟩) | exact List.Perm.refl _ | refine allV_find ?_ | refine And.intro ?_ ?_)) ?_
  refine any_lat (g8485.ok _ _ _) 11 (Nat.le_of_ble_eq_true rfl) (slotsA q aq a0 a1 a2 a3 a4 u (ofL (limsL m (fun i => liC (l2 i))) (lkP a0 a1 a2 a3 a4))) baseA _ ancA 30 2 (by decide) lat27 ?_ ?_ ?_
  · repeat' (first | exact trivial | exact ⟨rfl, rfl⟩ | refine And.intro ?_ ?_)
  · intro i hi
    rcases (show i = 0 ∨ i = 1 ∨ i = 2 ∨ i = 3 ∨ i = 4 ∨ i = 5 ∨ i = 6 ∨ i = 7 ∨ i = 8 ∨ i = 9 ∨ i = 10 by omega) with rfl | rfl | rfl | rfl | rfl | rfl | rfl | rfl | rfl | rfl | rfl
    · refine ⟨_, rfl, rfl, fun tail nx Q Kn hC hK => ?_⟩
      exact hK _ (Nat.le_add_right _ _)
    · refine ⟨_, rfl, rfl, fun tail nx Q Kn hC hK => ?_⟩
      exact hK _ (Nat.le_add_right _ _)
    · refine ⟨_, rfl, rfl, fun tail nx Q Kn hC hK => ?_⟩
      rcases hq5 with rfl | rfl | rfl | rfl | rfl <;> exact Chk.mk ⟨by decide, by decide⟩ (hK _ (Nat.le_add_right _ _))
    · refine ⟨_, rfl, rfl, fun tail nx Q Kn hC hK => ?_⟩
      subst haq
      rcases hq5 with rfl | rfl | rfl | rfl | rfl <;> exact hK _ (Nat.le_add_right _ _)
    · refine ⟨_, rfl, rfl, fun tail nx Q Kn hC hK => ?_⟩
      refine fb_lookup encI encU c aq 7 (g8485.ok _ _ _) hC rfl rfl rfl rfl rfl rfl rfl rfl rfl encI_key encU_cl rfl rfl rfl fun _ => ⟨fun v hv => ?_, fun hv => ?_⟩
      · have e : v = u := by rw [← hu, lookU, hv]
        subst e
        exact hK _ (Nat.le_add_right _ _)
      · have e : u = 0 := by rw [← hu, lookU, hv]
        subst e
        exact hK _ (Nat.le_add_right _ _)
    · refine ⟨_, rfl, rfl, fun tail nx Q Kn hC hK => ?_⟩
      exact hK _ (Nat.le_add_right _ _)
    · refine ⟨_, rfl, rfl, fun tail nx Q Kn hC hK => ?_⟩
      exact hK _ (Nat.le_add_right _ _)
    · refine ⟨_, rfl, rfl, fun tail nx Q Kn hC hK => ?_⟩
      exact hK _ (Nat.le_add_right _ _)
    · refine ⟨_, rfl, rfl, fun tail nx Q Kn hC hK => ?_⟩
      refine fb_call (g8485.ok _ _ _) hC rfl rfl rfl rfl ?_
      refine ⟨b80, ?_⟩
      refine callS_ct (k80 good0) rfl (sm5_of o0 o1 o2 o3 o4) (fun _ => ?_) (fun ch h => by cases h)
      exact hK _ (Nat.le_refl _)
    · refine ⟨_, rfl, rfl, fun tail nx Q Kn hC hK => ?_⟩
      refine fb_call (g8485.ok _ _ _) hC rfl rfl rfl rfl ?_
      refine ⟨b79, ?_⟩
      refine callS_ct (k79 good0) rfl h79 (fun _ => ?_) (fun ch h => by cases h)
      exact hK _ (Nat.le_refl _)
    · refine ⟨_, rfl, rfl, fun tail nx Q Kn hC hK => ?_⟩
      refine Chk.mk h10 ?_
      exact hK _ (Nat.le_add_right _ _)
  refine any_step [11] (g8485.ok _ _ _) (by kernel_rfl) (by decide) ⟨?_, trivial⟩
  refine Chk.mk (or_pre hu32 hv1 hpw) ?_
  refine any_weaken (st' := ⟨[(25, ⟨[], .sm 7⟩), (28, ⟨[], encI aq⟩), (36, ⟨[], encU (u ||| 2 ^ ofL (limsL m (fun i => liC (l2 i))) (lkP a0 a1 a2 a3 a4))⟩)], [], askH q best least g n m l1 l2 fn c a0 a1 a2 a3 a4, 80, []⟩) 25 (fun j => j) hG (by refine ⟨?_, ?_, injI_id _, rfl, rfl, rfl, trivial⟩ <;> rcases hq5 with rfl | rfl | rfl | rfl | rfl <;> repeat' (first | exact trivial | exact rfl | exact or_val hv1 | (intro i hi; exact ⟨rfl, rfl⟩) | exact List.Perm.refl _ | refine allV_find ?_ | refine And.intro ?_ ?_)) ?_
  refine any_step [12] (g8485.ok _ _ _) (by kernel_rfl) (by decide) ⟨?_, trivial⟩
  refine fb_update encI encU c aq (u ||| 2 ^ ofL (limsL m (fun i => liC (l2 i))) (lkP a0 a1 a2 a3 a4)) _ rfl 7 (g8485.ok _ _ _) cont_any rfl (.inl rfl) rfl rfl rfl rfl encI_key encU_cl rfl rfl rfl rfl fun _ => ?_
  refine any_done (by kernel_rfl) ?_
  subst hu
  subst haq
  refine ⟨fun j => j, ?_, rfl, rfl, injI_id _, rfl, rfl⟩
  rcases hq5 with rfl | rfl | rfl | rfl | rfl <;> repeat' (first | exact trivial | exact rfl | (intro i hi; exact ⟨rfl, rfl⟩) | exact List.Perm.refl _ | refine allV_find ?_ | refine And.intro ?_ ?_)
end Go.X.Gr
end

section
set_option linter.unusedVariables false
set_option linter.unusedSimpArgs false
set_option linter.unusedSectionVars false
/- Grade: a round of Ask. -/
set_option linter.unusedVariables false
set_option linter.unusedSimpArgs false
set_option maxRecDepth 10000
set_option maxHeartbeats 40000000
namespace Go.X.Gr
open Go Go.Proofs Go.X

theorem ink5 {q : Nat} (hq5 : q = 0 ∨ q = 1 ∨ q = 2 ∨ q = 3 ∨ q = 4) : InK .i64 ((q : Int) + 1) := by
  rcases hq5 with rfl | rfl | rfl | rfl | rfl <;> exact ⟨by decide, by decide⟩
theorem askRound {q : Nat} (hq5 : q = 0 ∨ q = 1 ∨ q = 2 ∨ q = 3 ∨ q = 4) {g : Pts} (hb : ptsB g) {n m : Nat} {l1 l2 : Nat → Int × Int} (hm : m ≤ 5) (hof : ∀ {a0 a1 a2 a3 a4 : Int}, okI a0 → okI a1 → okI a2 → okI a3 → okI a4 → ofL (limsL m (fun i => liC (l2 i))) (lkP a0 a1 a2 a3 a4) < m) {best least : Int} {G : Base} (hG : ∀ j, 1 ≤ j → G.ρ j = none) {K : Ex → St → Prop}
    (hK : ∀ st s, WeakR 1 s st (askI (q + 1) (stepA (askV (limsL m (fun i => liC (l2 i))) q g) q (best, least)) g n m l1 l2) → K .normal st) :
    exec ⟨P, T, tabC lAsk, G, none, Try.f27.ntmps⟩ lp27 (askI q (best, least) g n m l1 l2) K := by
  show exec ⟨P, T, tabC lAsk, G, none, Try.f27.ntmps⟩ lp27 ⟨[(4, ⟨[], .sp 3 0⟩), (5, ⟨[], .sp 5 0⟩), (6, ⟨[], .si .i64 best⟩), (7, ⟨[], .si .i64 least⟩), (18, ⟨[], .si .i64 q⟩)], [], (1, .cells 108 (bnC g)) :: (5, .cells 64 [.sp 1 0]) :: (3, .cells 30 [.si .i64 0]) :: (2, .vec 51 2 m fun i => liC (l2 i)) :: (0, .ro 2 n fun i => liC (l1 i)) :: askM0 q, 20, askD q⟩ K
  refine Br.mk (fun _ => ?_) (fun h => by rcases hq5 with rfl | rfl | rfl | rfl | rfl <;> cases h)
  refine fb_makeMap (gAsk.ok _ _ _) cont_std rfl rfl rfl rfl rfl ?_
  refine fb_call (gAsk.ok _ _ _) cont_std rfl rfl rfl rfl ?_
  refine ⟨b78, ?_⟩
  refine callS_exec gAsk.ok Try.func78 (c := code Try.f78) rfl (Nat.le_of_ble_eq_true rfl) fun G2 hG2 => ?_
  refine (show SemC _ _ _ _ from ?_)
  refine weaken (gAsk.ok _ _ _) (st' := ⟨[(4, ⟨[], .sp 3 0⟩), (5, ⟨[], .sp 5 0⟩), (6, ⟨[], .si .i64 best⟩), (7, ⟨[], .si .i64 least⟩), (8, ⟨[], .sp 6 0⟩), (9, ⟨[], .sp 8 0⟩), (18, ⟨[], .si .i64 q⟩), (23, ⟨[], .fn (.func 98) [] [.sp 4 0]⟩)], [],
    (8, .cells 99 [.sm 7]) :: (7, .mp []) :: (4, .cells 64 [.sp 1 0]) :: (1, .cells 108 (bnC g)) :: askR q n m l1 l2, 20, askD q⟩) 1 (fun j => match j with | 4 => 23 | 6 => 20 | 7 => 21 | 8 => 22 | j => j) hG ?_ ?_
  · rcases hq5 with rfl | rfl | rfl | rfl | rfl <;> refine ⟨?_, ?_, rfl, rfl, rfl, rfl, ?_⟩ <;> repeat' (first | exact trivial | exact rfl | (intro i hi; exact ⟨rfl, rfl⟩) | exact List.Perm.refl _ | refine allV_find ?_ | refine And.intro ?_ ?_)
  refine rangeFunc_ok (gAsk.ok _ _ _) rfl rfl rfl b98 ?_
  intro fn
  refine callS_sub (Bx g ++ chAsk q best least n m l1 l2 fn []) (by rcases hq5 with rfl | rfl | rfl | rfl | rfl <;> repeat' (first | exact trivial | exact rfl | (intro i hi; exact ⟨rfl, rfl⟩) | exact List.Perm.refl _ | refine allV_find ?_ | refine And.intro ?_ ?_)) ?_
  refine s98 (f := fAsk (limsL m (fun i => liC (l2 i))) q) (ok := fun c => ∀ p ∈ c, p.2 < 64) (CH := chAsk q best least n m l1 l2 fn) hb (fun c => ?_) (fun c => by rcases hq5 with rfl | rfl | rfl | rfl | rfl <;> exact keys_of rfl) (fun c a0 a1 a2 a3 a4 hc _ => fAsk_ok (by simpa [limsL] using hm) hc) (fun c a0 a1 a2 a3 a4 hc o0 o1 o2 o3 o4 => yAsk (by omega) hm hof c hc o0 o1 o2 o3 o4) [] (fun p hp => by cases hp) ?_
  · rcases hq5 with rfl | rfl | rfl | rfl | rfl <;> repeat' (first | exact trivial | exact rfl | (intro i hi; exact ⟨rfl, rfl⟩) | exact List.Perm.refl _ | refine allV_find ?_ | refine And.intro ?_ ?_)
  show afterRange _ _ _ _ _ _ (Bx g ++ chAsk q best least n m l1 l2 fn (askM (limsL m (fun i => liC (l2 i))) q g)) 25
  have hMb : ∀ p ∈ askM (limsL m (fun i => liC (l2 i))) q g, p.2 < 32 := askM_b hb hm hof
  unfold askV at hK
  generalize askM (limsL m (fun i => liC (l2 i))) q g = M at hK hMb ⊢
  refine fb_range encI encU M 7 (gAsk.ok _ _ _) cont_std rfl rfl rfl rfl rfl rfl rfl encI_key encU_cl rfl rfl ?_
  intro hnd ts clock hts
  refine loop_okR (gAsk.ok _ _ _) 1 (fun x : {p : List ((Int × Nat) × Nat) × List ((Int × Nat) × Nat) // ts.Perm (p.1 ++ p.2)} => ⟨[(4, ⟨[], .sp 3 0⟩), (5, ⟨[], .sp 5 0⟩), (6, ⟨[], .si .i64 best⟩), (7, ⟨[], .si .i64 least⟩), (8, ⟨[], .sp 6 0⟩), (11, ⟨[], .si .i64 (mostV (x.1.1.map (·.1)) : Nat)⟩), (18, ⟨[], .si .i64 q⟩), (38, ⟨[], .sp 25 0⟩)], [],
    (25, .it 7 clock (x.1.1.map (·.2)) clock) :: (7, .map (encS encI encU ts) clock) :: (20, .dfr) :: (1, .cells 108 (bnC g)) :: askR q n m l1 l2, 30, (MARK, [.sp 20 0]) :: askD q⟩) (fun x => x.1.2.length) hG ⟨([], ts), by simp⟩ (fun j => j) ?_ ?_
  · rcases hq5 with rfl | rfl | rfl | rfl | rfl <;> refine ⟨?_, ?_, rfl, rfl, rfl, rfl, ?_⟩ <;> repeat' (first | exact trivial | exact rfl | (intro i hi; exact ⟨rfl, rfl⟩) | exact List.Perm.refl _ | refine allV_find ?_ | refine And.intro ?_ ?_)
  rintro ⟨⟨vis, rest⟩, hp⟩
  refine fb_next encI encU 7 25 clock ts vis rest (gAsk.ok _ _ _) cont_std rfl rfl rfl rfl rfl encI_key encU_cl rfl rfl rfl hp ⟨fun hr => ?_, ?_⟩
  · replace hr : rest = [] := hr
    subst hr
    have hv : ts.Perm vis := by simpa using hp
    have hmo : mostV (vis.map (·.1)) = M.foldl (fun m p => max m (popV p.2)) 0 := mostV_perm ((hv.symm.map (fun x => x.1)).trans hts)
    rw [← hmo] at hK
    refine Br.mk (fun h => by cases h) (fun _ => ?_)
    refine Br.mk (fun h => ?_) (fun h => ?_)
    · have h : (decide (((q : Nat) : Int) = 0) || decide (((mostV (vis.map (·.1)) : Nat) : Int) < least)) = true := h
      have hs : stepA (mostV (vis.map (·.1))) q (best, least) = (((q : Nat) : Int), ((mostV (vis.map (·.1)) : Nat) : Int)) := by
        rw [stepA, if_pos]
        simpa using h
      rw [hs] at hK
      refine Chk.mk (ink5 hq5) ?_
      refine hK _ (fun j => match Nat.beq j (9 + q) with | true => 20 | false => j) ?_
      rcases hq5 with rfl | rfl | rfl | rfl | rfl <;> refine ⟨?_, ?_, rfl, rfl, rfl, rfl, ?_⟩ <;> repeat' (first | exact trivial | exact rfl | (intro i hi; exact ⟨rfl, rfl⟩) | exact List.Perm.refl _ | refine allV_find ?_ | refine And.intro ?_ ?_)
    · have h : (decide (((q : Nat) : Int) = 0) || decide (((mostV (vis.map (·.1)) : Nat) : Int) < least)) = false := h
      have hs : stepA (mostV (vis.map (·.1))) q (best, least) = (best, least) := by
        rw [stepA, if_neg]
        simpa using h
      rw [hs] at hK
      refine Chk.mk (ink5 hq5) ?_
      refine hK _ (fun j => match Nat.beq j (9 + q) with | true => 20 | false => j) ?_
      rcases hq5 with rfl | rfl | rfl | rfl | rfl <;> refine ⟨?_, ?_, rfl, rfl, rfl, rfl, ?_⟩ <;> repeat' (first | exact trivial | exact rfl | (intro i hi; exact ⟨rfl, rfl⟩) | exact List.Perm.refl _ | refine allV_find ?_ | refine And.intro ?_ ?_)
  · rintro ⟨⟨a, b⟩, st⟩ rest' hrest
    refine Br.mk (fun _ => ?_) (fun h => by cases h)
    have hpts : ((a, b), st) ∈ ts := hp.mem_iff.2 (List.mem_append_right _ (hrest.mem_iff.2 List.mem_cons_self))
    refine fb_entry encI encU 7 25 clock ts vis ((a, b), st) (gAsk.ok _ _ _) cont_std rfl rfl rfl rfl rfl encI_key encU_cl rfl rfl rfl hpts ?_
    have hb32 : b < 32 := hMb (a, b) (hts.mem_iff.1 (List.mem_map_of_mem (f := fun x => x.1) hpts))
    refine Chk.mk ⟨(by show (0 : Int) ≤ ((b : Nat) : Int); omega), (by show ((b : Nat) : Int) < 32; omega)⟩ ?_
    have hpm : ts.Perm ((vis ++ [((a, b), st)]) ++ rest') := by
      rw [List.append_assoc]
      exact hp.trans (List.Perm.append_left _ hrest)
    refine ⟨⟨(vis ++ [((a, b), st)], rest'), hpm⟩, (fun j => j), ?_, (by show rest'.length < rest.length; rw [hrest.length_eq]; simp)⟩
    have hmx : max ((mostV (vis.map (·.1)) : Nat) : Int) ((popV ((b : Nat) : Int).toNat : Nat) : Int) = ((mostV ((vis ++ [((a, b), st)]).map (·.1)) : Nat) : Int) := by
      rw [List.map_append, List.map_singleton, mostV_snoc, Int.toNat_natCast]
      have e : popV (((a, b), st) : (Int × Nat) × Nat).1.2 = popV b := rfl
      omega
    rcases hq5 with rfl | rfl | rfl | rfl | rfl <;> refine ⟨?_, ?_, rfl, rfl, rfl, rfl, ?_⟩ <;> repeat' (first | exact trivial | exact rfl | exact hmx | (intro i hi; exact ⟨rfl, rfl⟩) | exact List.Perm.refl _ | refine allV_find ?_ | refine And.intro ?_ ?_)
end Go.X.Gr
end

section
set_option linter.unusedVariables false
set_option linter.unusedSimpArgs false
set_option linter.unusedSectionVars false
/- Grade: Ask. -/
set_option linter.unusedVariables false
set_option linter.unusedSimpArgs false
set_option maxRecDepth 10000
set_option maxHeartbeats 4000000
namespace Go.X.Gr
open Go Go.Proofs Go.X

def bestA (A : Int → Nat) : Nat → Int × Int
  | 0 => (0, 0)
  | p + 1 => stepA (A p) p (bestA A p)
def resA (g : Pts) (L : List (Int × Int)) : Int × Int × Int := if errT g L true = 0 then ((bestA (fun q => askV (lims3 L) q g) 5).1, (bestA (fun q => askV (lims3 L) q g) 5).2, 0) else (0, 0, errT g L true)
def c27 : Ct := fun fr args H => match args with
  | [.agg l] => gradeK H l fun i1 g n get => some ⟨some (Lims n get ∧ n ≤ 1000000), none, .tup [.si .i64 (resA g (limsL n get)).1, .si .i64 (resA g (limsL n get)).2.1, .si .i64 (resA g (limsL n get)).2.2], []⟩
  | _ => none
theorem c27_mono : CtMono c27 := by
  intro fr args H H' out hH h
  unfold c27 at h ⊢
  split at h
  · exact gradeK_mono hH h
  · cases h
theorem k27 {l : List (Nat × Ct)} (g0 : Good P T l) : COk P 27 c27 := by
  have g := gAsk
  refine cokCM (C := tabC lAsk) g.ok an77 Try.func27 (c := code Try.f27) rfl fun fr args H out h hp => ?_
  unfold c27 at h
  split at h
  case h_2 => cases h
  rename_i l
  obtain ⟨i1, p, n, get, rfl, e1, h⟩ := gradeK_some h
  cases h
  obtain ⟨hs, hn⟩ : Lims n get ∧ n ≤ 1000000 := hp
  have hh : Hand H [(i1, .ro 2 n fun i => liC (liAt get i))] := hand_one e1 (fun i => rfl) (fun i hi => (hs i hi).symm)
  refine ⟨[(i1, .ro 2 n fun i => liC (liAt get i))], [.agg (grA 0 p)], [(0, .ro 2 n fun i => liC (liAt get i))], 1, [], rfl, rfl, Nat.le_of_ble_eq_true rfl, hh, rfl, rfl, fun G hG => ?_⟩
  unfold limsL
  generalize liAt get = L
  refine fb_deferC 77 2 (g.ok _ _ _) rfl cont_std rfl rfl rfl rfl rfl rfl rfl ?_
  refine Chk.mk ⟨lims_i _ _, hn⟩ ?_
  refine Br.mk (fun h => ?_) (fun h => ?_)
  · have h : (!decide (errG p ((List.range n).map L) true = 0)) = true := h
    have h : ¬ errG p ((List.range n).map L) true = 0 := by simpa using h
    have he : errT p ((List.range n).map L) true = errG p ((List.range n).map L) true := by rw [errT, if_neg h]
    have hr : resA p ((List.range n).map L) = (0, 0, errG p ((List.range n).map L) true) := by rw [resA, he, if_neg h]
    rw [hr]
    exact ⟨.inl rfl, end_noid ⟨⟨rfl, rfl⟩, ⟨rfl, rfl⟩, ⟨rfl, rfl⟩, trivial⟩ rfl rfl (by repeat' (first | exact trivial | exact rfl | (intro i hi; exact ⟨rfl, rfl⟩) | refine And.intro ?_ ?_))⟩
  have h : (!decide (errG p ((List.range n).map L) true = 0)) = false := h
  have h : errG p ((List.range n).map L) true = 0 := by simpa using h
  obtain ⟨hb, hl1, hl2⟩ := gradeOk_b (errG_zero h).1
  have he : errT p ((List.range n).map L) true = if hasB p = true then 0 else 10 := by rw [errT, if_pos h]
  refine Chk.mk ⟨lims_i _ _, lims_i _ _, hb⟩ ?_
  refine Br.mk (fun h2 => ?_) (fun h2 => ?_)
  · have h2 : (!hasB p) = true := h2
    have h2 : hasB p = false := by simpa using h2
    have he : errT p ((List.range n).map L) true = 10 := by rw [he, h2]; rfl
    have hr : resA p ((List.range n).map L) = (0, 0, 10) := by rw [resA, he]; rfl
    rw [hr]
    exact ⟨.inl rfl, end_noid ⟨⟨rfl, rfl⟩, ⟨rfl, rfl⟩, ⟨rfl, rfl⟩, trivial⟩ rfl rfl (by repeat' (first | exact trivial | exact rfl | (intro i hi; exact ⟨rfl, rfl⟩) | refine And.intro ?_ ?_))⟩
  have h2 : (!hasB p) = false := h2
  have h2 : hasB p = true := by simpa using h2
  have he : errT p ((List.range n).map L) true = 0 := by rw [he, h2]; rfl
  have hlen : ((List.range n).map L).length = n := by simp
  have hn5 : n + 1 ≤ 5 := by omega
  have hq : limsL (n + 1) (fun i => liC (lims2 n L i)) = lims3 ((List.range n).map L) := lims2_eq n L
  have hof : ∀ {a0 a1 a2 a3 a4 : Int}, okI a0 → okI a1 → okI a2 → okI a3 → okI a4 → ofL (limsL (n + 1) (fun i => liC (lims2 n L i))) (lkP a0 a1 a2 a3 a4) < n + 1 := fun o0 o1 o2 o3 o4 => by
    rw [hq]
    have := ofL_lt (L := (List.range n).map L) (f := lkP _ _ _ _ _) (off_b o0 o1 o2 o3 o4)
    rw [hlen] at this
    exact this
  have hr : resA p ((List.range n).map L) = ((bestA (fun q => askV (limsL (n + 1) (fun i => liC (lims2 n L i))) q p) 5).1, (bestA (fun q => askV (limsL (n + 1) (fun i => liC (lims2 n L i))) q p) 5).2, 0) := by rw [resA, if_pos he, hq]
  rw [hr]
  refine loop_okR (g.ok _ _ _) 1 (fun x : {i : Nat // i ≤ 5} => askI x.1 (bestA (fun q => askV (limsL (n + 1) (fun i => liC (lims2 n L i))) q p) x.1) p n (n + 1) L (lims2 n L)) (fun x => 5 - x.1) hG ⟨0, by omega⟩ (fun j => match j with | 1 => 3 | 2 => 4 | 3 => 2 | 5 => 7 | j => j) ?_ ?_
  · refine ⟨?_, ?_, rfl, rfl, rfl, rfl, ?_⟩; all_goals repeat' (first | exact trivial | exact rfl | (intro i hi; exact ⟨rfl, rfl⟩) | exact List.Perm.refl _ | refine allV_find ?_ | refine And.intro ?_ ?_)
  rintro ⟨i, hi⟩
  rcases (show i = 0 ∨ i = 1 ∨ i = 2 ∨ i = 3 ∨ i = 4 ∨ i = 5 by omega) with rfl | rfl | rfl | rfl | rfl | rfl
  · exact askRound (q := 0) (by decide) hb hn5 hof hG fun st s hw => ⟨⟨1, by omega⟩, s, hw, by show 5 - 1 < 5 - 0; omega⟩
  · exact askRound (q := 1) (by decide) hb hn5 hof hG fun st s hw => ⟨⟨2, by omega⟩, s, hw, by show 5 - 2 < 5 - 1; omega⟩
  · exact askRound (q := 2) (by decide) hb hn5 hof hG fun st s hw => ⟨⟨3, by omega⟩, s, hw, by show 5 - 3 < 5 - 2; omega⟩
  · exact askRound (q := 3) (by decide) hb hn5 hof hG fun st s hw => ⟨⟨4, by omega⟩, s, hw, by show 5 - 4 < 5 - 3; omega⟩
  · exact askRound (q := 4) (by decide) hb hn5 hof hG fun st s hw => ⟨⟨5, by omega⟩, s, hw, by show 5 - 5 < 5 - 4; omega⟩
  · generalize bestA (fun q => askV (limsL (n + 1) (fun i => liC (lims2 n L i))) q p) 5 = R
    obtain ⟨b, least⟩ := R
    show exec _ _ ⟨[(4, ⟨[], .sp 3 0⟩), (5, ⟨[], .sp 5 0⟩), (6, ⟨[], .si .i64 b⟩), (7, ⟨[], .si .i64 least⟩), (18, ⟨[], .si .i64 5⟩)], [], (1, .cells 108 (bnC p)) :: (5, .cells 64 [.sp 1 0]) :: (3, .cells 30 [.si .i64 0]) :: (2, .vec 51 2 (n + 1) fun i => liC (lims2 n L i)) :: (0, .ro 2 n fun i => liC (L i)) :: askM0 5, 20, askD 5⟩ _
    refine Br.mk (fun h => by cases h) (fun _ => ?_)
    exact ⟨.inl rfl, end_noid ⟨⟨rfl, rfl⟩, ⟨rfl, rfl⟩, ⟨rfl, rfl⟩, trivial⟩ rfl rfl (by repeat' (first | exact trivial | exact rfl | (intro i hi; exact ⟨rfl, rfl⟩) | exact List.Perm.refl _ | refine allV_find ?_ | refine And.intro ?_ ?_))⟩
theorem g27 {l : List (Nat × Ct)} (g : Good P T l) : Good P T ((27, c27) :: l) := g.add (k27 g) c27_mono (body_of Try.func27 (c := code Try.f27) rfl (by decide))
end Go.X.Gr
end
