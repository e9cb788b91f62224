/- The walk of GradeTells. -/
import Derived.Test.YtafggknckgmkaaaNY
import Derived.Test.YtafggknckgmkaaaNI
import Derived.Test.YtafggknckgmkaaaNC

section
set_option linter.unusedVariables false
set_option linter.unusedSimpArgs false
set_option linter.unusedSectionVars false
/- Grade: heavy. -/
set_option linter.unusedVariables false
set_option linter.unusedSimpArgs false
set_option maxRecDepth 10000
set_option maxHeartbeats 4000000
namespace Go.X.Gr
open Go Go.Proofs Go.X

def prodN (p : Pts) : Nat → Int
  | 0 => 1
  | i + 1 => prodN p i * (hiI p i - loI p i + 1)
def hvV (p : Pts) (n : Nat) (L : List (Int × Int)) (w : Int) : Bool := if (decide ((n : Int) > 40) || !gradeOk p L) = true then decide ((n : Int) > 40) else decide (prodN p 5 > w)
theorem ok_spans {p : Pts} {L : List (Int × Int)} (h : gradeOk p L = true) (i : Nat) : (-20 ≤ loI p i ∧ loI p i ≤ hiI p i ∧ hiI p i ≤ 20) ∧ hiI p i - loI p i ≤ 6 := by
  simp only [gradeOk, ptI, ptB, Bool.and_eq_true, decide_eq_true_eq] at h
  unfold loI hiI
  split <;> omega
theorem prodN_b {p : Pts} {L : List (Int × Int)} (h : gradeOk p L = true) : ∀ i, 1 ≤ prodN p i ∧ prodN p i ≤ 7 ^ i
  | 0 => ⟨Int.le_refl _, Int.le_refl _⟩
  | i + 1 => by
    obtain ⟨h1, h2⟩ := prodN_b h i
    have h3 := ok_spans h i
    have e : prodN p (i + 1) = prodN p i * (hiI p i - loI p i + 1) := rfl
    rw [e, Int.pow_succ]
    obtain ⟨z, hz⟩ : ∃ z, hiI p i - loI p i + 1 = z := ⟨_, rfl⟩
    have hz1 : 1 ≤ z ∧ z ≤ 7 := by omega
    rw [hz]
    constructor
    · have := Int.mul_le_mul h1 hz1.1 (by decide) (by omega)
      simpa using this
    · exact Int.mul_le_mul h2 hz1.2 (by omega) (by omega)
def c13 : Ct := fun fr args H => match args with
  | [.agg l, .si .i64 w] => gradeK H l fun i1 g n get => some ⟨some (Lims n get), none, .sb (hvV g n (limsL n get) w), []⟩
  | _ => none
theorem c13_mono : CtMono c13 := by
  intro fr args H H' out hH h
  unfold c13 at h ⊢
  split at h
  · exact gradeK_mono hH h
  · cases h
theorem k13 {l : List (Nat × Ct)} (g0 : Good P T l) : COk P 13 c13 := by
  have g := g39 (g40 good0)
  refine cok (C := tabC _) g.ok Try.func13 (c := code Try.f13) rfl fun fr args H out h hp => ?_
  unfold c13 at h
  split at h
  case h_2 => cases h
  rename_i l w
  obtain ⟨i1, p, n, get, rfl, e1, h⟩ := gradeK_some h
  cases h
  have hs : Lims n get := hp
  have hh : Hand H [(i1, .ro 2 n fun i => liC (liAt get i))] := hand_one e1 (fun i => rfl) (fun i hi => (hs i hi).symm)
  refine ⟨[(i1, .ro 2 n fun i => liC (liAt get i))], [.agg (grA 0 p), .si .i64 w], [(0, .ro 2 n fun i => liC (liAt get i))], 1, [], rfl, rfl, Nat.le_of_ble_eq_true rfl, hh, rfl, rfl, fun G hG => ?_⟩
  unfold limsL
  generalize liAt get = L
  obtain ⟨V, hV⟩ : ∃ V, hvV p n ((List.range n).map L) w = V := ⟨_, rfl⟩
  rw [hV]
  unfold hvV at hV
  refine Chk.mk (lims_i _ _) ?_
  refine Chk.mk (fun h => ⟨lims_i _ _, by have h : decide ((n : Int) > 40) = false := h; have := of_decide_eq_false h; omega⟩) ?_
  have hLm : limsL n (fun i => liC (L i)) = (List.range n).map L := rfl
  generalize hLe : (List.range n).map L = Lm at hLm hV
  refine Br.mk (fun h => ?_) (fun h => ?_)
  · have h : (decide ((n : Int) > 40) || !gradeOk p ((List.range n).map L)) = true := h
    rw [hLe] at h
    rw [if_pos h] at hV
    rw [← hV]
    refine Chk.mk (lims_i _ _) ?_
    exact ⟨.inl rfl, end_noid rfl rfl rfl (by repeat' (first | exact trivial | exact rfl | (intro i hi; exact ⟨rfl, rfl⟩) | refine And.intro ?_ ?_))⟩
  have h : (decide ((n : Int) > 40) || !gradeOk p ((List.range n).map L)) = false := h
  rw [hLe] at h
  rw [if_neg (by rw [h]; decide)] at hV
  rw [← hV]
  have hok : gradeOk p Lm = true := by
    rw [Bool.or_eq_false_iff, Bool.not_eq_false'] at h
    exact h.2
  have hsp := ok_spans hok
  have hpb := prodN_b hok
  refine loop_okR (g.ok _ _ _) 1 (fun x : {i : Nat // i ≤ 5} => ⟨[(1, ⟨[], .si .i64 w⟩), (5, ⟨[], .si .i64 (prodN p x.1)⟩), (18, ⟨[], .agg [.si .i64 p.l0, .si .i64 p.h0, .si .i64 p.l1, .si .i64 p.h1, .si .i64 p.l2, .si .i64 p.h2, .si .i64 p.l3, .si .i64 p.h3, .si .i64 p.l4, .si .i64 p.h4]⟩), (19, ⟨[], .si .i64 x.1⟩)], [], [(0, .ro 2 n fun i => liC (L i))], 2, []⟩) (fun x => 5 - x.1) hG ⟨0, Nat.zero_le _⟩ (fun j => j) ?_ ?_
  · refine ⟨?_, ?_, rfl, rfl, rfl, rfl, trivial⟩ <;> repeat' (first | exact trivial | exact rfl | (intro i hi; exact ⟨rfl, rfl⟩) | refine And.intro ?_ ?_)
  rintro ⟨i, hi⟩
  have hi5 : i = 0 ∨ i = 1 ∨ i = 2 ∨ i = 3 ∨ i = 4 ∨ i = 5 := by omega
  have step : ∀ k : Nat, k < 5 → InK .i64 (hiI p k - loI p k) ∧ InK .i64 (hiI p k - loI p k + 1) ∧ InK .i64 (prodN p k * (hiI p k - loI p k + 1)) := fun k hk => by
    have h1 := hsp k
    have h2 := hpb (k + 1)
    have h3 : (7 : Int) ^ (k + 1) ≤ 16807 := by
      have : k = 0 ∨ k = 1 ∨ k = 2 ∨ k = 3 ∨ k = 4 := by omega
      rcases this with rfl | rfl | rfl | rfl | rfl <;> decide
    have e : prodN p (k + 1) = prodN p k * (hiI p k - loI p k + 1) := rfl
    rw [e] at h2
    exact ⟨⟨by omega, by omega⟩, ⟨by omega, by omega⟩, by omega, by omega⟩
  rcases hi5 with rfl | hi5
  · refine Br.mk (fun _ => ?_) (fun h => by cases h)
    obtain ⟨s1, s2, s3⟩ := step 0 (by decide)
    refine Chk.mk (show (0 : Int) ≤ 0 ∧ (0 : Int) < 5 from by decide) ?_
    refine Chk.mk s1 (Chk.mk s2 (Chk.mk s3 ?_))
    refine Chk.mk (show InK .i64 ((0 : Int) + 1) from ⟨by decide, by decide⟩) ⟨⟨1, by decide⟩, (fun j => j), ?_, (by show 5 - 1 < 5 - 0; decide)⟩
    refine ⟨?_, ?_, rfl, rfl, rfl, rfl, trivial⟩ <;> repeat' (first | exact trivial | exact rfl | (intro i hi; exact ⟨rfl, rfl⟩) | refine And.intro ?_ ?_)
  rcases hi5 with rfl | hi5
  · refine Br.mk (fun _ => ?_) (fun h => by cases h)
    obtain ⟨s1, s2, s3⟩ := step 1 (by decide)
    refine Chk.mk (show (0 : Int) ≤ 1 ∧ (1 : Int) < 5 from by decide) ?_
    refine Chk.mk s1 (Chk.mk s2 (Chk.mk s3 ?_))
    refine Chk.mk (show InK .i64 ((1 : Int) + 1) from ⟨by decide, by decide⟩) ⟨⟨2, by decide⟩, (fun j => j), ?_, (by show 5 - 2 < 5 - 1; decide)⟩
    refine ⟨?_, ?_, rfl, rfl, rfl, rfl, trivial⟩ <;> repeat' (first | exact trivial | exact rfl | (intro i hi; exact ⟨rfl, rfl⟩) | refine And.intro ?_ ?_)
  rcases hi5 with rfl | hi5
  · refine Br.mk (fun _ => ?_) (fun h => by cases h)
    obtain ⟨s1, s2, s3⟩ := step 2 (by decide)
    refine Chk.mk (show (0 : Int) ≤ 2 ∧ (2 : Int) < 5 from by decide) ?_
    refine Chk.mk s1 (Chk.mk s2 (Chk.mk s3 ?_))
    refine Chk.mk (show InK .i64 ((2 : Int) + 1) from ⟨by decide, by decide⟩) ⟨⟨3, by decide⟩, (fun j => j), ?_, (by show 5 - 3 < 5 - 2; decide)⟩
    refine ⟨?_, ?_, rfl, rfl, rfl, rfl, trivial⟩ <;> repeat' (first | exact trivial | exact rfl | (intro i hi; exact ⟨rfl, rfl⟩) | refine And.intro ?_ ?_)
  rcases hi5 with rfl | hi5
  · refine Br.mk (fun _ => ?_) (fun h => by cases h)
    obtain ⟨s1, s2, s3⟩ := step 3 (by decide)
    refine Chk.mk (show (0 : Int) ≤ 3 ∧ (3 : Int) < 5 from by decide) ?_
    refine Chk.mk s1 (Chk.mk s2 (Chk.mk s3 ?_))
    refine Chk.mk (show InK .i64 ((3 : Int) + 1) from ⟨by decide, by decide⟩) ⟨⟨4, by decide⟩, (fun j => j), ?_, (by show 5 - 4 < 5 - 3; decide)⟩
    refine ⟨?_, ?_, rfl, rfl, rfl, rfl, trivial⟩ <;> repeat' (first | exact trivial | exact rfl | (intro i hi; exact ⟨rfl, rfl⟩) | refine And.intro ?_ ?_)
  rcases hi5 with rfl | hi5
  · refine Br.mk (fun _ => ?_) (fun h => by cases h)
    obtain ⟨s1, s2, s3⟩ := step 4 (by decide)
    refine Chk.mk (show (0 : Int) ≤ 4 ∧ (4 : Int) < 5 from by decide) ?_
    refine Chk.mk s1 (Chk.mk s2 (Chk.mk s3 ?_))
    refine Chk.mk (show InK .i64 ((4 : Int) + 1) from ⟨by decide, by decide⟩) ⟨⟨5, by decide⟩, (fun j => j), ?_, (by show 5 - 5 < 5 - 4; decide)⟩
    refine ⟨?_, ?_, rfl, rfl, rfl, rfl, trivial⟩ <;> repeat' (first | exact trivial | exact rfl | (intro i hi; exact ⟨rfl, rfl⟩) | refine And.intro ?_ ?_)
  subst hi5
  refine Br.mk (fun h => by cases h) (fun _ => ?_)
  exact ⟨.inl rfl, end_noid rfl rfl rfl (by repeat' (first | exact trivial | exact rfl | (intro i hi; exact ⟨rfl, rfl⟩) | refine And.intro ?_ ?_))⟩
theorem g13 {l : List (Nat × Ct)} (g : Good P T l) : Good P T ((13, c13) :: l) := g.add (k13 g) c13_mono (body_of Try.func13 (c := code Try.f13) rfl (by decide))
end Go.X.Gr
end
