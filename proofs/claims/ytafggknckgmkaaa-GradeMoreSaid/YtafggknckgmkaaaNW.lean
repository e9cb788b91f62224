/- The walk of GradeMore. -/
import Derived.Test.YtafggknckgmkaaaNV
import Derived.Test.YtafggknckgmkaaaMG
import Derived.Test.YtafggknckgmkaaaNE

section
set_option linter.unusedVariables false
set_option linter.unusedSimpArgs false
set_option linter.unusedSectionVars false
/- Grade: the walk of GradeMore. -/
set_option linter.unusedVariables false
set_option linter.unusedSimpArgs false
set_option maxRecDepth 10000
set_option maxHeartbeats 4000000
namespace Go.X.Gr
open Go Go.Proofs Go.X

def c43 : Ct := fun fr args H => match args with
  | [.si .i64 p, .sp wx 0] => (match H wx with
    | some (.cells 5 [.si .u8 w]) => some ⟨some ((0 ≤ p ∧ p < 5) ∧ 0 ≤ w ∧ w < 256), none, .si .i64 (trnI (w.tmod 2) p), []⟩
    | _ => none)
  | _ => none
theorem c43_mono : CtMono c43 := by
  intro fr args H H' out hH h
  unfold c43 at h ⊢
  split at h
  · split at h
    · rename_i e1
      simp only [hH _ _ e1]
      exact h
    · cases h
  · cases h
theorem b43 : Body P 43 := body_of Try.func43 (c := code Try.f43) rfl (by decide)
theorem k43 {l : List (Nat × Ct)} (g0 : Good P T l) : COk P 43 c43 := by
  have g := good0
  refine cok (C := tabC _) g.ok Try.func43 (c := code Try.f43) rfl fun fr args H out h hp => ?_
  unfold c43 at h
  split at h
  case h_2 => cases h
  rename_i p wx
  split at h
  case h_2 => cases h
  rename_i w e4
  cases h
  obtain ⟨hq, hw0, hw1⟩ : (0 ≤ p ∧ p < 5) ∧ 0 ≤ w ∧ w < 256 := hp
  have hh : Hand H [(wx, .cells 5 [.si .u8 w])] := hand_mk ⟨e4, trivial⟩ (by repeat' (first | exact trivial | refine And.intro ?_ ?_)) rfl
  refine ⟨_, [.si .i64 p, .sp 0 0], [(0, .cells 5 [.si .u8 w])], 1, [], rfl, rfl, Nat.le_of_ble_eq_true rfl, hh, rfl, rfl, fun G hG => ?_⟩
  refine Br.mk (fun h => ?_) (fun h => ?_)
  · obtain rfl : p = 0 := of_decide_eq_true h
    exact ⟨.inl rfl, end_noid ⟨rfl, rfl⟩ rfl rfl (by repeat' (first | exact trivial | exact rfl | (intro i hi; exact ⟨rfl, rfl⟩) | refine And.intro ?_ ?_))⟩
  have hp0 : ¬ p = 0 := of_decide_eq_false h
  refine Chk.mk (show (2 : Int) ≠ 0 by decide) ?_
  refine Br.mk (fun h2 => ?_) (fun h2 => ?_)
  · have h2 : w.tmod 2 = 0 := of_decide_eq_true h2
    refine Chk.mk (show (4 : Int) ≠ 0 by decide) ?_
    have := Int.tmod_lt_of_pos p (show (0 : Int) < 4 by decide)
    have := Int.tmod_nonneg 4 hq.1
    refine Chk.mk (show InK .i64 (p.tmod 4 + 1) from ⟨by show (-9223372036854775808 : Int) ≤ _; omega, by show _ ≤ (9223372036854775807 : Int); omega⟩) ?_
    exact ⟨.inl rfl, end_noid ⟨rfl, by show p.tmod 4 + 1 = trnI (w.tmod 2) p; rw [trnI, if_neg hp0, if_pos h2, Int.tmod_eq_emod_of_nonneg hq.1]; split <;> omega⟩ rfl rfl (by repeat' (first | exact trivial | exact rfl | (intro i hi; exact ⟨rfl, rfl⟩) | refine And.intro ?_ ?_))⟩
  · have h2 : ¬ w.tmod 2 = 0 := of_decide_eq_false h2
    refine Chk.mk (show InK .i64 (5 - p) from ⟨by show (-9223372036854775808 : Int) ≤ _; omega, by show _ ≤ (9223372036854775807 : Int); omega⟩) ?_
    exact ⟨.inl rfl, end_noid ⟨rfl, by show 5 - p = trnI (w.tmod 2) p; rw [trnI, if_neg hp0, if_neg h2]⟩ rfl rfl (by repeat' (first | exact trivial | exact rfl | (intro i hi; exact ⟨rfl, rfl⟩) | refine And.intro ?_ ?_))⟩
theorem g43 {l : List (Nat × Ct)} (g : Good P T l) : Good P T ((43, c43) :: l) := g.add (k43 g) c43_mono b43
def c44 : Ct := plainCt fun
  | [.agg [.si .i64 a, .si .i64 b], .agg [.si .i64 c, .si .i64 d]] => some ⟨none, none, .sb (inS (a, b) (c, d)), []⟩
  | _ => none
theorem k44 {l : List (Nat × Ct)} (g0 : Good P T l) : COk P 44 c44 := by
  have g := good0
  refine cok (C := tabC _) g.ok Try.func44 (c := code Try.f44) rfl fun fr args H out h hp => ?_
  simp only [c44, plainCt] at h
  split at h
  · cases h
    refine walk_plain rfl (Nat.le_of_ble_eq_true rfl) fun G hG => ?_
    exact ⟨.inl rfl, end_plain rfl rfl rfl⟩
  · cases h
theorem g44 {l : List (Nat × Ct)} (g : Good P T l) : Good P T ((44, c44) :: l) := g.add (k44 g) (plainCt_mono _) (body_of Try.func44 (c := code Try.f44) rfl (by decide))

theorem more_app {e : Int} {L : Nat → Int × Int} {i j : Nat} (hj : j < i + 1 + 1) : liC (moreL e (L j)) = if j < i + 1 then liC (moreL e (L j)) else takeL 2 (dropL ((j - (i + 1)) * 2) (liC (moreL e (L (i + 1))))) := by
  by_cases h : j < i + 1
  · rw [if_pos h]
  · rw [if_neg h]
    obtain rfl : j = i + 1 := by omega
    rw [Nat.sub_self]
    rfl
/-- Points that are known better. -/
def Less (L : List (Int × Int)) (p x : Pts) : Prop := gradeOk x L = true ∧ ∀ b, OkB x b → OkB p b
def lessP (p : Pts) (k : Int) (x : Pts) : Prop := x = (if k = 0 then { p with l0 := min p.h0 (p.l0 + 1) } else if k = 1 then { p with l1 := min p.h1 (p.l1 + 1) } else if k = 2 then { p with l2 := min p.h2 (p.l2 + 1) } else if k = 3 then { p with l3 := min p.h3 (p.l3 + 1) } else { p with l4 := min p.h4 (p.l4 + 1) }) ∨
  x = (if k = 0 then { p with h0 := max p.l0 (p.h0 - 1) } else if k = 1 then { p with h1 := max p.l1 (p.h1 - 1) } else if k = 2 then { p with h2 := max p.l2 (p.h2 - 1) } else if k = 3 then { p with h3 := max p.l3 (p.h3 - 1) } else { p with h4 := max p.l4 (p.h4 - 1) }) ∨ x = { p with st := max 0 (p.st - 1) }
theorem less_of {L : List (Int × Int)} {p x : Pts} (hok : gradeOk p L = true) {k : Int} (hk : 0 ≤ k ∧ k < 5) (h : lessP p k x) : Less L p x := by
  have hL : limsB (0, 0) L = true := by simp only [gradeOk, Bool.and_eq_true] at hok; exact hok.2.1
  have key : ∀ x : Pts, (p.l0 ≤ x.l0 ∧ x.l0 ≤ x.h0 ∧ x.h0 ≤ p.h0) → (p.l1 ≤ x.l1 ∧ x.l1 ≤ x.h1 ∧ x.h1 ≤ p.h1) → (p.l2 ≤ x.l2 ∧ x.l2 ≤ x.h2 ∧ x.h2 ≤ p.h2) → (p.l3 ≤ x.l3 ∧ x.l3 ≤ x.h3 ∧ x.h3 ≤ p.h3) → (p.l4 ≤ x.l4 ∧ x.l4 ≤ x.h4 ∧ x.h4 ≤ p.h4) → 0 ≤ x.st → x.st ≤ p.st → Less L p x := by
    intro x h0 h1 h2 h3 h4 h5 h6
    constructor
    · simp only [gradeOk, headB, inB, ptI, ptB, Bool.and_eq_true, decide_eq_true_eq] at hok ⊢
      refine ⟨⟨hok.1.1, by omega⟩, hL, ?_⟩
      omega
    · rintro b ⟨r0, r1, r2, r3, r4, s01, s02, s03, s04, s12, s23, s34, s14⟩
      refine ⟨?_, ?_, ?_, ?_, ?_, ?_, ?_, ?_, ?_, ?_, ?_, ?_, ?_⟩ <;> omega
  have ho := gradeOk_o hok
  unfold ptsO at ho
  rcases h with h | h | h
  · rcases (show k = 0 ∨ k = 1 ∨ k = 2 ∨ k = 3 ∨ k = 4 by omega) with rfl | rfl | rfl | rfl | rfl
    all_goals
      subst h
      refine key _ ?_ ?_ ?_ ?_ ?_ ?_ ?_ <;> simp only [if_true, if_false, show ¬ (1 : Int) = 0 by decide, show ¬ (2 : Int) = 0 by decide, show ¬ (2 : Int) = 1 by decide, show ¬ (3 : Int) = 0 by decide, show ¬ (3 : Int) = 1 by decide, show ¬ (3 : Int) = 2 by decide, show ¬ (4 : Int) = 0 by decide, show ¬ (4 : Int) = 1 by decide, show ¬ (4 : Int) = 2 by decide, show ¬ (4 : Int) = 3 by decide] <;> omega
  · rcases (show k = 0 ∨ k = 1 ∨ k = 2 ∨ k = 3 ∨ k = 4 by omega) with rfl | rfl | rfl | rfl | rfl
    all_goals
      subst h
      refine key _ ?_ ?_ ?_ ?_ ?_ ?_ ?_ <;> simp only [if_true, if_false, show ¬ (1 : Int) = 0 by decide, show ¬ (2 : Int) = 0 by decide, show ¬ (2 : Int) = 1 by decide, show ¬ (3 : Int) = 0 by decide, show ¬ (3 : Int) = 1 by decide, show ¬ (3 : Int) = 2 by decide, show ¬ (4 : Int) = 0 by decide, show ¬ (4 : Int) = 1 by decide, show ¬ (4 : Int) = 2 by decide, show ¬ (4 : Int) = 3 by decide] <;> omega
  · subst h
    refine key _ ?_ ?_ ?_ ?_ ?_ ?_ ?_ <;> simp only <;> omega
def c12 : Ct := fun fr args H => match args with
  | [.agg l, .si .u8 x, .si .u8 y] => gradeK H l fun i1 g n get => some ⟨some (Lims n get ∧ (0 ≤ x ∧ x < 256) ∧ 0 ≤ y ∧ y < 256), none, .sb true, []⟩
  | _ => none
theorem c12_mono : CtMono c12 := by
  intro fr args H H' out hH h
  unfold c12 at h ⊢
  split at h
  · exact gradeK_mono hH h
  · cases h
theorem k12 {l : List (Nat × Ct)} (g0 : Good P T l) : COk P 12 c12 := by
  have g := g14 (g15 (g17 (g19 (g21 (g23 (g25 (g39 (g40 (g43 (g44 good0))))))))))
  refine cok (C := tabC _) g.ok Try.func12 (c := code Try.f12) rfl fun fr args H out h hp => ?_
  unfold c12 at h
  split at h
  case h_2 => cases h
  rename_i l x y
  obtain ⟨i1, p, n, get, rfl, e1, h⟩ := gradeK_some h
  cases h
  obtain ⟨hs, ⟨hx0, hx1⟩, hy0, hy1⟩ : Lims n get ∧ (0 ≤ x ∧ x < 256) ∧ 0 ≤ y ∧ y < 256 := hp
  have hh : Hand H [(i1, .ro 2 n fun i => liC (liAt get i))] := hand_one e1 (fun i => rfl) (fun i hi => (hs i hi).symm)
  refine ⟨[(i1, .ro 2 n fun i => liC (liAt get i))], [.agg (grA 0 p), .si .u8 x, .si .u8 y], [(0, .ro 2 n fun i => liC (liAt get i))], 1, [], rfl, rfl, Nat.le_of_ble_eq_true rfl, hh, rfl, rfl, fun G hG => ?_⟩
  generalize liAt get = L
  refine Chk.mk (lims_i _ _) ?_
  refine Chk.mk (fun h => ⟨lims_i _ _, by have h : decide ((n : Int) > 40) = false := h; have := of_decide_eq_false h; omega⟩) ?_
  refine Br.mk (fun h => ?_) (fun h => ?_)
  · exact ⟨.inl rfl, end_noid rfl rfl rfl (by repeat' (first | exact trivial | exact rfl | (intro i hi; exact ⟨rfl, rfl⟩) | refine And.intro ?_ ?_))⟩
  have h : (decide ((n : Int) > 40) || !gradeOk p ((List.range n).map L)) = false := h
  obtain ⟨hn40, hok⟩ : n ≤ 40 ∧ gradeOk p ((List.range n).map L) = true := by
    rw [Bool.or_eq_false_iff, decide_eq_false_iff_not, Bool.not_eq_false'] at h
    exact ⟨by omega, h.2⟩
  clear h
  have hlim : Lims n (fun i => liC (L i)) ∧ n ≤ 1000000 := ⟨lims_i _ _, by omega⟩
  obtain ⟨LL, hLL⟩ : ∃ LL, (List.range n).map L = LL := ⟨_, rfl⟩
  rw [hLL] at hok
  have hlen : LL.length = n := by rw [← hLL]; simp
  obtain ⟨hb, hl1, hl2⟩ := gradeOk_b hok
  refine drawn_ok (g.ok _ _ _) fol [0,1,3,0,8,0,32,96,248,7,1023] [] 11 (by kernel_rfl) ?_
  have hxi : InK .i64 x := ⟨by show (-9223372036854775808 : Int) ≤ _; omega, by show _ ≤ (9223372036854775807 : Int); omega⟩
  refine Chk.mk hxi (Chk.mk (show (5 : Int) ≠ 0 by decide) (Chk.mk hxi (Chk.mk (show (n : Int) ≠ 0 by omega) ?_)))
  obtain ⟨r, hr⟩ : ∃ r : Nat, x.tmod (n : Int) = (r : Int) := ⟨(x.tmod n).toNat, (Int.toNat_of_nonneg (Int.tmod_nonneg _ hx0)).symm⟩
  have hrn : r < n := by
    have := Int.tmod_lt_of_pos x (show (0 : Int) < n by omega)
    omega
  obtain ⟨q, hq⟩ : ∃ q : Int, x.tmod 5 = q := ⟨_, rfl⟩
  have hq5 : 0 ≤ q ∧ q < 5 := ⟨hq ▸ Int.tmod_nonneg _ hx0, hq ▸ Int.tmod_lt_of_pos _ (by decide)⟩
  rw [hr, hq]

  refine weaken (g.ok _ _ _) (st' := ⟨[(3, ⟨[], .sp 1 0⟩), (5, ⟨[], .sp 2 0⟩), (7, ⟨[], .si .i64 q⟩), (8, ⟨[], .si .i64 (r : Int)⟩)], [], [(0, .ro 2 n fun i => liC (L i)), (1, .cells 27 (grA 0 p)), (2, .cells 5 [.si .u8 y])], 4, []⟩) 1 (fun j => j) hG ?_ ?_
  · refine ⟨?_, ?_, rfl, rfl, rfl, rfl, trivial⟩ <;> repeat' (first | exact trivial | exact rfl | (intro i hi; exact ⟨rfl, rfl⟩) | refine And.intro ?_ ?_)
  refine drawn_ok (g.ok _ _ _) fol [0,0,0,0,0,0,57,123,255] [(6, 16), (7, 20), (8, 24)] 9 (by kernel_rfl) ?_
  have hpo := gradeOk_o hok
  unfold ptsO at hpo
  refine join_all (ι := {X : Pts // Less LL p X}) (X := ⟨P, T, tabC [(14, c14), (15, c15), (17, spanE varV), (19, spanE offV), (21, c21), (23, c23), (25, c25), (39, c39), (40, c40), (43, c43), (44, c44)], G, none, Try.f12.ntmps⟩) (c := ?cc) (K := ?kk) (g.ok _ _ _) (fun X => ⟨[(3, ⟨[], .sp 1 0⟩), (5, ⟨[], .sp 2 0⟩), (7, ⟨[], .si .i64 q⟩), (8, ⟨[], .si .i64 (r : Int)⟩), (9, ⟨[], .sp 16 0⟩), (10, ⟨[], .sp 20 0⟩), (11, ⟨[], .sp 24 0⟩), (109, ⟨[], .sl 0⟩), (110, ⟨[], .si .i64 (n : Int)⟩), (111, ⟨[], .si .i64 0⟩)], [], [(0, .ro 2 n fun i => liC (L i)), (1, .cells 27 (grA 0 p)), (2, .cells 5 [.si .u8 y]), (16, .cells 27 (grA 0 X.1)), (20, .cells 27 [.sv (.slice none 0 0), .si .i64 p.l0, .si .i64 p.h0, .si .i64 p.l1, .si .i64 p.h1, .si .i64 p.l2, .si .i64 p.h2, .si .i64 p.l3, .si .i64 p.h3, .si .i64 p.l4, .si .i64 p.h4, .si .i64 p.st]), (24, .cells 27 (grA 0 p))], 44, []⟩) (fun hc => ?ha) ?hh
  case ha =>
    rcases (show q = 0 ∨ q = 1 ∨ q = 2 ∨ q = 3 ∨ q = 4 by omega) with hqk | hqk | hqk | hqk | hqk
    · rw [hqk]
      refine Chk.mk (bnd 0 5 rfl) ?_
      refine Chk.mk (show (3 : Int) ≠ 0 by decide) ?_
      refine Br.mk (fun _ => ?_) (fun _ => ?_)
      · refine drawn_ok (g.ok _ _ _) fol [0,0,2,6,14,0,32,96,224,480,1022,2047,4095,8191] [(13, 16)] 14 (by kernel_rfl) ?_
        refine Chk.mk (show InK .i64 (p.l0 + 1) from ⟨by show (-9223372036854775808 : Int) ≤ _; omega, by show _ ≤ (9223372036854775807 : Int); omega⟩) ?_
        have hl : Less LL p { p with l0 := min p.h0 (p.l0 + 1) } := less_of hok (by decide : (0 : Int) ≤ 0 ∧ (0 : Int) < 5) (.inl rfl)
        refine sem_weaken (st' := ⟨[(3, ⟨[], .sp 1 0⟩), (5, ⟨[], .sp 2 0⟩), (7, ⟨[], .si .i64 q⟩), (8, ⟨[], .si .i64 (r : Int)⟩), (9, ⟨[], .sp 16 0⟩), (10, ⟨[], .sp 20 0⟩), (11, ⟨[], .sp 24 0⟩), (109, ⟨[], .sl 0⟩), (110, ⟨[], .si .i64 (n : Int)⟩), (111, ⟨[], .si .i64 0⟩)], [], [(0, .ro 2 n fun i => liC (L i)), (1, .cells 27 (grA 0 p)), (2, .cells 5 [.si .u8 y]), (16, .cells 27 (grA 0 { p with l0 := min p.h0 (p.l0 + 1) })), (20, .cells 27 [.sv (.slice none 0 0), .si .i64 p.l0, .si .i64 p.h0, .si .i64 p.l1, .si .i64 p.h1, .si .i64 p.l2, .si .i64 p.h2, .si .i64 p.l3, .si .i64 p.h3, .si .i64 p.l4, .si .i64 p.h4, .si .i64 p.st]), (24, .cells 27 (grA 0 p))], 44, []⟩) 1 (fun j => j) hG ?_ (?_)
        rotate_left
        · exact hc ⟨_, hl⟩
        refine ⟨?_, ?_, rfl, rfl, rfl, rfl, trivial⟩ <;> repeat' (first | exact trivial | exact rfl | exact hqk.symm | (intro i hi; exact ⟨rfl, rfl⟩) | refine And.intro ?_ ?_)
      · refine Br.mk (fun _ => ?_) (fun _ => ?_)
        · refine drawn_ok (g.ok _ _ _) fol [0,0,2,6,14,0,32,96,224,480,1022,2047,4095,8191] [(13, 16)] 14 (by kernel_rfl) ?_
          refine Chk.mk (show InK .i64 (p.h0 - 1) from ⟨by show (-9223372036854775808 : Int) ≤ _; omega, by show _ ≤ (9223372036854775807 : Int); omega⟩) ?_
          have hl : Less LL p { p with h0 := max p.l0 (p.h0 - 1) } := less_of hok (by decide : (0 : Int) ≤ 0 ∧ (0 : Int) < 5) (.inr (.inl rfl))
          refine sem_weaken (st' := ⟨[(3, ⟨[], .sp 1 0⟩), (5, ⟨[], .sp 2 0⟩), (7, ⟨[], .si .i64 q⟩), (8, ⟨[], .si .i64 (r : Int)⟩), (9, ⟨[], .sp 16 0⟩), (10, ⟨[], .sp 20 0⟩), (11, ⟨[], .sp 24 0⟩), (109, ⟨[], .sl 0⟩), (110, ⟨[], .si .i64 (n : Int)⟩), (111, ⟨[], .si .i64 0⟩)], [], [(0, .ro 2 n fun i => liC (L i)), (1, .cells 27 (grA 0 p)), (2, .cells 5 [.si .u8 y]), (16, .cells 27 (grA 0 { p with h0 := max p.l0 (p.h0 - 1) })), (20, .cells 27 [.sv (.slice none 0 0), .si .i64 p.l0, .si .i64 p.h0, .si .i64 p.l1, .si .i64 p.h1, .si .i64 p.l2, .si .i64 p.h2, .si .i64 p.l3, .si .i64 p.h3, .si .i64 p.l4, .si .i64 p.h4, .si .i64 p.st]), (24, .cells 27 (grA 0 p))], 44, []⟩) 1 (fun j => j) hG ?_ (?_)
          rotate_left
          · exact hc ⟨_, hl⟩
          refine ⟨?_, ?_, rfl, rfl, rfl, rfl, trivial⟩ <;> repeat' (first | exact trivial | exact rfl | exact hqk.symm | (intro i hi; exact ⟨rfl, rfl⟩) | refine And.intro ?_ ?_)
        · refine Chk.mk (show InK .i64 (p.st - 1) from ⟨by show (-9223372036854775808 : Int) ≤ _; omega, by show _ ≤ (9223372036854775807 : Int); omega⟩) ?_
          have hl : Less LL p { p with st := max 0 (p.st - 1) } := less_of hok (by decide : (0 : Int) ≤ 0 ∧ (0 : Int) < 5) (.inr (.inr rfl))
          refine sem_weaken (st' := ⟨[(3, ⟨[], .sp 1 0⟩), (5, ⟨[], .sp 2 0⟩), (7, ⟨[], .si .i64 q⟩), (8, ⟨[], .si .i64 (r : Int)⟩), (9, ⟨[], .sp 16 0⟩), (10, ⟨[], .sp 20 0⟩), (11, ⟨[], .sp 24 0⟩), (109, ⟨[], .sl 0⟩), (110, ⟨[], .si .i64 (n : Int)⟩), (111, ⟨[], .si .i64 0⟩)], [], [(0, .ro 2 n fun i => liC (L i)), (1, .cells 27 (grA 0 p)), (2, .cells 5 [.si .u8 y]), (16, .cells 27 (grA 0 { p with st := max 0 (p.st - 1) })), (20, .cells 27 [.sv (.slice none 0 0), .si .i64 p.l0, .si .i64 p.h0, .si .i64 p.l1, .si .i64 p.h1, .si .i64 p.l2, .si .i64 p.h2, .si .i64 p.l3, .si .i64 p.h3, .si .i64 p.l4, .si .i64 p.h4, .si .i64 p.st]), (24, .cells 27 (grA 0 p))], 44, []⟩) 1 (fun j => j) hG ?_ (?_)
          rotate_left
          · exact hc ⟨_, hl⟩
          refine ⟨?_, ?_, rfl, rfl, rfl, rfl, trivial⟩ <;> repeat' (first | exact trivial | exact rfl | exact hqk.symm | (intro i hi; exact ⟨rfl, rfl⟩) | refine And.intro ?_ ?_)
    · rw [hqk]
      refine Chk.mk (bnd 1 5 rfl) ?_
      refine Chk.mk (show (3 : Int) ≠ 0 by decide) ?_
      refine Br.mk (fun _ => ?_) (fun _ => ?_)
      · refine drawn_ok (g.ok _ _ _) fol [0,0,2,6,14,0,32,96,224,480,1022,2047,4095,8191] [(13, 16)] 14 (by kernel_rfl) ?_
        refine Chk.mk (show InK .i64 (p.l1 + 1) from ⟨by show (-9223372036854775808 : Int) ≤ _; omega, by show _ ≤ (9223372036854775807 : Int); omega⟩) ?_
        have hl : Less LL p { p with l1 := min p.h1 (p.l1 + 1) } := less_of hok (by decide : (0 : Int) ≤ 1 ∧ (1 : Int) < 5) (.inl rfl)
        refine sem_weaken (st' := ⟨[(3, ⟨[], .sp 1 0⟩), (5, ⟨[], .sp 2 0⟩), (7, ⟨[], .si .i64 q⟩), (8, ⟨[], .si .i64 (r : Int)⟩), (9, ⟨[], .sp 16 0⟩), (10, ⟨[], .sp 20 0⟩), (11, ⟨[], .sp 24 0⟩), (109, ⟨[], .sl 0⟩), (110, ⟨[], .si .i64 (n : Int)⟩), (111, ⟨[], .si .i64 0⟩)], [], [(0, .ro 2 n fun i => liC (L i)), (1, .cells 27 (grA 0 p)), (2, .cells 5 [.si .u8 y]), (16, .cells 27 (grA 0 { p with l1 := min p.h1 (p.l1 + 1) })), (20, .cells 27 [.sv (.slice none 0 0), .si .i64 p.l0, .si .i64 p.h0, .si .i64 p.l1, .si .i64 p.h1, .si .i64 p.l2, .si .i64 p.h2, .si .i64 p.l3, .si .i64 p.h3, .si .i64 p.l4, .si .i64 p.h4, .si .i64 p.st]), (24, .cells 27 (grA 0 p))], 44, []⟩) 1 (fun j => j) hG ?_ (?_)
        rotate_left
        · exact hc ⟨_, hl⟩
        refine ⟨?_, ?_, rfl, rfl, rfl, rfl, trivial⟩ <;> repeat' (first | exact trivial | exact rfl | exact hqk.symm | (intro i hi; exact ⟨rfl, rfl⟩) | refine And.intro ?_ ?_)
      · refine Br.mk (fun _ => ?_) (fun _ => ?_)
        · refine drawn_ok (g.ok _ _ _) fol [0,0,2,6,14,0,32,96,224,480,1022,2047,4095,8191] [(13, 16)] 14 (by kernel_rfl) ?_
          refine Chk.mk (show InK .i64 (p.h1 - 1) from ⟨by show (-9223372036854775808 : Int) ≤ _; omega, by show _ ≤ (9223372036854775807 : Int); omega⟩) ?_
          have hl : Less LL p { p with h1 := max p.l1 (p.h1 - 1) } := less_of hok (by decide : (0 : Int) ≤ 1 ∧ (1 : Int) < 5) (.inr (.inl rfl))
          refine sem_weaken (st' := ⟨[(3, ⟨[], .sp 1 0⟩), (5, ⟨[], .sp 2 0⟩), (7, ⟨[], .si .i64 q⟩), (8, ⟨[], .si .i64 (r : Int)⟩), (9, ⟨[], .sp 16 0⟩), (10, ⟨[], .sp 20 0⟩), (11, ⟨[], .sp 24 0⟩), (109, ⟨[], .sl 0⟩), (110, ⟨[], .si .i64 (n : Int)⟩), (111, ⟨[], .si .i64 0⟩)], [], [(0, .ro 2 n fun i => liC (L i)), (1, .cells 27 (grA 0 p)), (2, .cells 5 [.si .u8 y]), (16, .cells 27 (grA 0 { p with h1 := max p.l1 (p.h1 - 1) })), (20, .cells 27 [.sv (.slice none 0 0), .si .i64 p.l0, .si .i64 p.h0, .si .i64 p.l1, .si .i64 p.h1, .si .i64 p.l2, .si .i64 p.h2, .si .i64 p.l3, .si .i64 p.h3, .si .i64 p.l4, .si .i64 p.h4, .si .i64 p.st]), (24, .cells 27 (grA 0 p))], 44, []⟩) 1 (fun j => j) hG ?_ (?_)
          rotate_left
          · exact hc ⟨_, hl⟩
          refine ⟨?_, ?_, rfl, rfl, rfl, rfl, trivial⟩ <;> repeat' (first | exact trivial | exact rfl | exact hqk.symm | (intro i hi; exact ⟨rfl, rfl⟩) | refine And.intro ?_ ?_)
        · refine Chk.mk (show InK .i64 (p.st - 1) from ⟨by show (-9223372036854775808 : Int) ≤ _; omega, by show _ ≤ (9223372036854775807 : Int); omega⟩) ?_
          have hl : Less LL p { p with st := max 0 (p.st - 1) } := less_of hok (by decide : (0 : Int) ≤ 1 ∧ (1 : Int) < 5) (.inr (.inr rfl))
          refine sem_weaken (st' := ⟨[(3, ⟨[], .sp 1 0⟩), (5, ⟨[], .sp 2 0⟩), (7, ⟨[], .si .i64 q⟩), (8, ⟨[], .si .i64 (r : Int)⟩), (9, ⟨[], .sp 16 0⟩), (10, ⟨[], .sp 20 0⟩), (11, ⟨[], .sp 24 0⟩), (109, ⟨[], .sl 0⟩), (110, ⟨[], .si .i64 (n : Int)⟩), (111, ⟨[], .si .i64 0⟩)], [], [(0, .ro 2 n fun i => liC (L i)), (1, .cells 27 (grA 0 p)), (2, .cells 5 [.si .u8 y]), (16, .cells 27 (grA 0 { p with st := max 0 (p.st - 1) })), (20, .cells 27 [.sv (.slice none 0 0), .si .i64 p.l0, .si .i64 p.h0, .si .i64 p.l1, .si .i64 p.h1, .si .i64 p.l2, .si .i64 p.h2, .si .i64 p.l3, .si .i64 p.h3, .si .i64 p.l4, .si .i64 p.h4, .si .i64 p.st]), (24, .cells 27 (grA 0 p))], 44, []⟩) 1 (fun j => j) hG ?_ (?_)
          rotate_left
          · exact hc ⟨_, hl⟩
          refine ⟨?_, ?_, rfl, rfl, rfl, rfl, trivial⟩ <;> repeat' (first | exact trivial | exact rfl | exact hqk.symm | (intro i hi; exact ⟨rfl, rfl⟩) | refine And.intro ?_ ?_)
    · rw [hqk]
      refine Chk.mk (bnd 2 5 rfl) ?_
      refine Chk.mk (show (3 : Int) ≠ 0 by decide) ?_
      refine Br.mk (fun _ => ?_) (fun _ => ?_)
      · refine drawn_ok (g.ok _ _ _) fol [0,0,2,6,14,0,32,96,224,480,1022,2047,4095,8191] [(13, 16)] 14 (by kernel_rfl) ?_
        refine Chk.mk (show InK .i64 (p.l2 + 1) from ⟨by show (-9223372036854775808 : Int) ≤ _; omega, by show _ ≤ (9223372036854775807 : Int); omega⟩) ?_
        have hl : Less LL p { p with l2 := min p.h2 (p.l2 + 1) } := less_of hok (by decide : (0 : Int) ≤ 2 ∧ (2 : Int) < 5) (.inl rfl)
        refine sem_weaken (st' := ⟨[(3, ⟨[], .sp 1 0⟩), (5, ⟨[], .sp 2 0⟩), (7, ⟨[], .si .i64 q⟩), (8, ⟨[], .si .i64 (r : Int)⟩), (9, ⟨[], .sp 16 0⟩), (10, ⟨[], .sp 20 0⟩), (11, ⟨[], .sp 24 0⟩), (109, ⟨[], .sl 0⟩), (110, ⟨[], .si .i64 (n : Int)⟩), (111, ⟨[], .si .i64 0⟩)], [], [(0, .ro 2 n fun i => liC (L i)), (1, .cells 27 (grA 0 p)), (2, .cells 5 [.si .u8 y]), (16, .cells 27 (grA 0 { p with l2 := min p.h2 (p.l2 + 1) })), (20, .cells 27 [.sv (.slice none 0 0), .si .i64 p.l0, .si .i64 p.h0, .si .i64 p.l1, .si .i64 p.h1, .si .i64 p.l2, .si .i64 p.h2, .si .i64 p.l3, .si .i64 p.h3, .si .i64 p.l4, .si .i64 p.h4, .si .i64 p.st]), (24, .cells 27 (grA 0 p))], 44, []⟩) 1 (fun j => j) hG ?_ (?_)
        rotate_left
        · exact hc ⟨_, hl⟩
        refine ⟨?_, ?_, rfl, rfl, rfl, rfl, trivial⟩ <;> repeat' (first | exact trivial | exact rfl | exact hqk.symm | (intro i hi; exact ⟨rfl, rfl⟩) | refine And.intro ?_ ?_)
      · refine Br.mk (fun _ => ?_) (fun _ => ?_)
        · refine drawn_ok (g.ok _ _ _) fol [0,0,2,6,14,0,32,96,224,480,1022,2047,4095,8191] [(13, 16)] 14 (by kernel_rfl) ?_
          refine Chk.mk (show InK .i64 (p.h2 - 1) from ⟨by show (-9223372036854775808 : Int) ≤ _; omega, by show _ ≤ (9223372036854775807 : Int); omega⟩) ?_
          have hl : Less LL p { p with h2 := max p.l2 (p.h2 - 1) } := less_of hok (by decide : (0 : Int) ≤ 2 ∧ (2 : Int) < 5) (.inr (.inl rfl))
          refine sem_weaken (st' := ⟨[(3, ⟨[], .sp 1 0⟩), (5, ⟨[], .sp 2 0⟩), (7, ⟨[], .si .i64 q⟩), (8, ⟨[], .si .i64 (r : Int)⟩), (9, ⟨[], .sp 16 0⟩), (10, ⟨[], .sp 20 0⟩), (11, ⟨[], .sp 24 0⟩), (109, ⟨[], .sl 0⟩), (110, ⟨[], .si .i64 (n : Int)⟩), (111, ⟨[], .si .i64 0⟩)], [], [(0, .ro 2 n fun i => liC (L i)), (1, .cells 27 (grA 0 p)), (2, .cells 5 [.si .u8 y]), (16, .cells 27 (grA 0 { p with h2 := max p.l2 (p.h2 - 1) })), (20, .cells 27 [.sv (.slice none 0 0), .si .i64 p.l0, .si .i64 p.h0, .si .i64 p.l1, .si .i64 p.h1, .si .i64 p.l2, .si .i64 p.h2, .si .i64 p.l3, .si .i64 p.h3, .si .i64 p.l4, .si .i64 p.h4, .si .i64 p.st]), (24, .cells 27 (grA 0 p))], 44, []⟩) 1 (fun j => j) hG ?_ (?_)
          rotate_left
          · exact hc ⟨_, hl⟩
          refine ⟨?_, ?_, rfl, rfl, rfl, rfl, trivial⟩ <;> repeat' (first | exact trivial | exact rfl | exact hqk.symm | (intro i hi; exact ⟨rfl, rfl⟩) | refine And.intro ?_ ?_)
        · refine Chk.mk (show InK .i64 (p.st - 1) from ⟨by show (-9223372036854775808 : Int) ≤ _; omega, by show _ ≤ (9223372036854775807 : Int); omega⟩) ?_
          have hl : Less LL p { p with st := max 0 (p.st - 1) } := less_of hok (by decide : (0 : Int) ≤ 2 ∧ (2 : Int) < 5) (.inr (.inr rfl))
          refine sem_weaken (st' := ⟨[(3, ⟨[], .sp 1 0⟩), (5, ⟨[], .sp 2 0⟩), (7, ⟨[], .si .i64 q⟩), (8, ⟨[], .si .i64 (r : Int)⟩), (9, ⟨[], .sp 16 0⟩), (10, ⟨[], .sp 20 0⟩), (11, ⟨[], .sp 24 0⟩), (109, ⟨[], .sl 0⟩), (110, ⟨[], .si .i64 (n : Int)⟩), (111, ⟨[], .si .i64 0⟩)], [], [(0, .ro 2 n fun i => liC (L i)), (1, .cells 27 (grA 0 p)), (2, .cells 5 [.si .u8 y]), (16, .cells 27 (grA 0 { p with st := max 0 (p.st - 1) })), (20, .cells 27 [.sv (.slice none 0 0), .si .i64 p.l0, .si .i64 p.h0, .si .i64 p.l1, .si .i64 p.h1, .si .i64 p.l2, .si .i64 p.h2, .si .i64 p.l3, .si .i64 p.h3, .si .i64 p.l4, .si .i64 p.h4, .si .i64 p.st]), (24, .cells 27 (grA 0 p))], 44, []⟩) 1 (fun j => j) hG ?_ (?_)
          rotate_left
          · exact hc ⟨_, hl⟩
          refine ⟨?_, ?_, rfl, rfl, rfl, rfl, trivial⟩ <;> repeat' (first | exact trivial | exact rfl | exact hqk.symm | (intro i hi; exact ⟨rfl, rfl⟩) | refine And.intro ?_ ?_)
    · rw [hqk]
      refine Chk.mk (bnd 3 5 rfl) ?_
      refine Chk.mk (show (3 : Int) ≠ 0 by decide) ?_
      refine Br.mk (fun _ => ?_) (fun _ => ?_)
      · refine drawn_ok (g.ok _ _ _) fol [0,0,2,6,14,0,32,96,224,480,1022,2047,4095,8191] [(13, 16)] 14 (by kernel_rfl) ?_
        refine Chk.mk (show InK .i64 (p.l3 + 1) from ⟨by show (-9223372036854775808 : Int) ≤ _; omega, by show _ ≤ (9223372036854775807 : Int); omega⟩) ?_
        have hl : Less LL p { p with l3 := min p.h3 (p.l3 + 1) } := less_of hok (by decide : (0 : Int) ≤ 3 ∧ (3 : Int) < 5) (.inl rfl)
        refine sem_weaken (st' := ⟨[(3, ⟨[], .sp 1 0⟩), (5, ⟨[], .sp 2 0⟩), (7, ⟨[], .si .i64 q⟩), (8, ⟨[], .si .i64 (r : Int)⟩), (9, ⟨[], .sp 16 0⟩), (10, ⟨[], .sp 20 0⟩), (11, ⟨[], .sp 24 0⟩), (109, ⟨[], .sl 0⟩), (110, ⟨[], .si .i64 (n : Int)⟩), (111, ⟨[], .si .i64 0⟩)], [], [(0, .ro 2 n fun i => liC (L i)), (1, .cells 27 (grA 0 p)), (2, .cells 5 [.si .u8 y]), (16, .cells 27 (grA 0 { p with l3 := min p.h3 (p.l3 + 1) })), (20, .cells 27 [.sv (.slice none 0 0), .si .i64 p.l0, .si .i64 p.h0, .si .i64 p.l1, .si .i64 p.h1, .si .i64 p.l2, .si .i64 p.h2, .si .i64 p.l3, .si .i64 p.h3, .si .i64 p.l4, .si .i64 p.h4, .si .i64 p.st]), (24, .cells 27 (grA 0 p))], 44, []⟩) 1 (fun j => j) hG ?_ (?_)
        rotate_left
        · exact hc ⟨_, hl⟩
        refine ⟨?_, ?_, rfl, rfl, rfl, rfl, trivial⟩ <;> repeat' (first | exact trivial | exact rfl | exact hqk.symm | (intro i hi; exact ⟨rfl, rfl⟩) | refine And.intro ?_ ?_)
      · refine Br.mk (fun _ => ?_) (fun _ => ?_)
        · refine drawn_ok (g.ok _ _ _) fol [0,0,2,6,14,0,32,96,224,480,1022,2047,4095,8191] [(13, 16)] 14 (by kernel_rfl) ?_
          refine Chk.mk (show InK .i64 (p.h3 - 1) from ⟨by show (-9223372036854775808 : Int) ≤ _; omega, by show _ ≤ (9223372036854775807 : Int); omega⟩) ?_
          have hl : Less LL p { p with h3 := max p.l3 (p.h3 - 1) } := less_of hok (by decide : (0 : Int) ≤ 3 ∧ (3 : Int) < 5) (.inr (.inl rfl))
          refine sem_weaken (st' := ⟨[(3, ⟨[], .sp 1 0⟩), (5, ⟨[], .sp 2 0⟩), (7, ⟨[], .si .i64 q⟩), (8, ⟨[], .si .i64 (r : Int)⟩), (9, ⟨[], .sp 16 0⟩), (10, ⟨[], .sp 20 0⟩), (11, ⟨[], .sp 24 0⟩), (109, ⟨[], .sl 0⟩), (110, ⟨[], .si .i64 (n : Int)⟩), (111, ⟨[], .si .i64 0⟩)], [], [(0, .ro 2 n fun i => liC (L i)), (1, .cells 27 (grA 0 p)), (2, .cells 5 [.si .u8 y]), (16, .cells 27 (grA 0 { p with h3 := max p.l3 (p.h3 - 1) })), (20, .cells 27 [.sv (.slice none 0 0), .si .i64 p.l0, .si .i64 p.h0, .si .i64 p.l1, .si .i64 p.h1, .si .i64 p.l2, .si .i64 p.h2, .si .i64 p.l3, .si .i64 p.h3, .si .i64 p.l4, .si .i64 p.h4, .si .i64 p.st]), (24, .cells 27 (grA 0 p))], 44, []⟩) 1 (fun j => j) hG ?_ (?_)
          rotate_left
          · exact hc ⟨_, hl⟩
          refine ⟨?_, ?_, rfl, rfl, rfl, rfl, trivial⟩ <;> repeat' (first | exact trivial | exact rfl | exact hqk.symm | (intro i hi; exact ⟨rfl, rfl⟩) | refine And.intro ?_ ?_)
        · refine Chk.mk (show InK .i64 (p.st - 1) from ⟨by show (-9223372036854775808 : Int) ≤ _; omega, by show _ ≤ (9223372036854775807 : Int); omega⟩) ?_
          have hl : Less LL p { p with st := max 0 (p.st - 1) } := less_of hok (by decide : (0 : Int) ≤ 3 ∧ (3 : Int) < 5) (.inr (.inr rfl))
          refine sem_weaken (st' := ⟨[(3, ⟨[], .sp 1 0⟩), (5, ⟨[], .sp 2 0⟩), (7, ⟨[], .si .i64 q⟩), (8, ⟨[], .si .i64 (r : Int)⟩), (9, ⟨[], .sp 16 0⟩), (10, ⟨[], .sp 20 0⟩), (11, ⟨[], .sp 24 0⟩), (109, ⟨[], .sl 0⟩), (110, ⟨[], .si .i64 (n : Int)⟩), (111, ⟨[], .si .i64 0⟩)], [], [(0, .ro 2 n fun i => liC (L i)), (1, .cells 27 (grA 0 p)), (2, .cells 5 [.si .u8 y]), (16, .cells 27 (grA 0 { p with st := max 0 (p.st - 1) })), (20, .cells 27 [.sv (.slice none 0 0), .si .i64 p.l0, .si .i64 p.h0, .si .i64 p.l1, .si .i64 p.h1, .si .i64 p.l2, .si .i64 p.h2, .si .i64 p.l3, .si .i64 p.h3, .si .i64 p.l4, .si .i64 p.h4, .si .i64 p.st]), (24, .cells 27 (grA 0 p))], 44, []⟩) 1 (fun j => j) hG ?_ (?_)
          rotate_left
          · exact hc ⟨_, hl⟩
          refine ⟨?_, ?_, rfl, rfl, rfl, rfl, trivial⟩ <;> repeat' (first | exact trivial | exact rfl | exact hqk.symm | (intro i hi; exact ⟨rfl, rfl⟩) | refine And.intro ?_ ?_)
    · rw [hqk]
      refine Chk.mk (bnd 4 5 rfl) ?_
      refine Chk.mk (show (3 : Int) ≠ 0 by decide) ?_
      refine Br.mk (fun _ => ?_) (fun _ => ?_)
      · refine drawn_ok (g.ok _ _ _) fol [0,0,2,6,14,0,32,96,224,480,1022,2047,4095,8191] [(13, 16)] 14 (by kernel_rfl) ?_
        refine Chk.mk (show InK .i64 (p.l4 + 1) from ⟨by show (-9223372036854775808 : Int) ≤ _; omega, by show _ ≤ (9223372036854775807 : Int); omega⟩) ?_
        have hl : Less LL p { p with l4 := min p.h4 (p.l4 + 1) } := less_of hok (by decide : (0 : Int) ≤ 4 ∧ (4 : Int) < 5) (.inl rfl)
        refine sem_weaken (st' := ⟨[(3, ⟨[], .sp 1 0⟩), (5, ⟨[], .sp 2 0⟩), (7, ⟨[], .si .i64 q⟩), (8, ⟨[], .si .i64 (r : Int)⟩), (9, ⟨[], .sp 16 0⟩), (10, ⟨[], .sp 20 0⟩), (11, ⟨[], .sp 24 0⟩), (109, ⟨[], .sl 0⟩), (110, ⟨[], .si .i64 (n : Int)⟩), (111, ⟨[], .si .i64 0⟩)], [], [(0, .ro 2 n fun i => liC (L i)), (1, .cells 27 (grA 0 p)), (2, .cells 5 [.si .u8 y]), (16, .cells 27 (grA 0 { p with l4 := min p.h4 (p.l4 + 1) })), (20, .cells 27 [.sv (.slice none 0 0), .si .i64 p.l0, .si .i64 p.h0, .si .i64 p.l1, .si .i64 p.h1, .si .i64 p.l2, .si .i64 p.h2, .si .i64 p.l3, .si .i64 p.h3, .si .i64 p.l4, .si .i64 p.h4, .si .i64 p.st]), (24, .cells 27 (grA 0 p))], 44, []⟩) 1 (fun j => j) hG ?_ (?_)
        rotate_left
        · exact hc ⟨_, hl⟩
        refine ⟨?_, ?_, rfl, rfl, rfl, rfl, trivial⟩ <;> repeat' (first | exact trivial | exact rfl | exact hqk.symm | (intro i hi; exact ⟨rfl, rfl⟩) | refine And.intro ?_ ?_)
      · refine Br.mk (fun _ => ?_) (fun _ => ?_)
        · refine drawn_ok (g.ok _ _ _) fol [0,0,2,6,14,0,32,96,224,480,1022,2047,4095,8191] [(13, 16)] 14 (by kernel_rfl) ?_
          refine Chk.mk (show InK .i64 (p.h4 - 1) from ⟨by show (-9223372036854775808 : Int) ≤ _; omega, by show _ ≤ (9223372036854775807 : Int); omega⟩) ?_
          have hl : Less LL p { p with h4 := max p.l4 (p.h4 - 1) } := less_of hok (by decide : (0 : Int) ≤ 4 ∧ (4 : Int) < 5) (.inr (.inl rfl))
          refine sem_weaken (st' := ⟨[(3, ⟨[], .sp 1 0⟩), (5, ⟨[], .sp 2 0⟩), (7, ⟨[], .si .i64 q⟩), (8, ⟨[], .si .i64 (r : Int)⟩), (9, ⟨[], .sp 16 0⟩), (10, ⟨[], .sp 20 0⟩), (11, ⟨[], .sp 24 0⟩), (109, ⟨[], .sl 0⟩), (110, ⟨[], .si .i64 (n : Int)⟩), (111, ⟨[], .si .i64 0⟩)], [], [(0, .ro 2 n fun i => liC (L i)), (1, .cells 27 (grA 0 p)), (2, .cells 5 [.si .u8 y]), (16, .cells 27 (grA 0 { p with h4 := max p.l4 (p.h4 - 1) })), (20, .cells 27 [.sv (.slice none 0 0), .si .i64 p.l0, .si .i64 p.h0, .si .i64 p.l1, .si .i64 p.h1, .si .i64 p.l2, .si .i64 p.h2, .si .i64 p.l3, .si .i64 p.h3, .si .i64 p.l4, .si .i64 p.h4, .si .i64 p.st]), (24, .cells 27 (grA 0 p))], 44, []⟩) 1 (fun j => j) hG ?_ (?_)
          rotate_left
          · exact hc ⟨_, hl⟩
          refine ⟨?_, ?_, rfl, rfl, rfl, rfl, trivial⟩ <;> repeat' (first | exact trivial | exact rfl | exact hqk.symm | (intro i hi; exact ⟨rfl, rfl⟩) | refine And.intro ?_ ?_)
        · refine Chk.mk (show InK .i64 (p.st - 1) from ⟨by show (-9223372036854775808 : Int) ≤ _; omega, by show _ ≤ (9223372036854775807 : Int); omega⟩) ?_
          have hl : Less LL p { p with st := max 0 (p.st - 1) } := less_of hok (by decide : (0 : Int) ≤ 4 ∧ (4 : Int) < 5) (.inr (.inr rfl))
          refine sem_weaken (st' := ⟨[(3, ⟨[], .sp 1 0⟩), (5, ⟨[], .sp 2 0⟩), (7, ⟨[], .si .i64 q⟩), (8, ⟨[], .si .i64 (r : Int)⟩), (9, ⟨[], .sp 16 0⟩), (10, ⟨[], .sp 20 0⟩), (11, ⟨[], .sp 24 0⟩), (109, ⟨[], .sl 0⟩), (110, ⟨[], .si .i64 (n : Int)⟩), (111, ⟨[], .si .i64 0⟩)], [], [(0, .ro 2 n fun i => liC (L i)), (1, .cells 27 (grA 0 p)), (2, .cells 5 [.si .u8 y]), (16, .cells 27 (grA 0 { p with st := max 0 (p.st - 1) })), (20, .cells 27 [.sv (.slice none 0 0), .si .i64 p.l0, .si .i64 p.h0, .si .i64 p.l1, .si .i64 p.h1, .si .i64 p.l2, .si .i64 p.h2, .si .i64 p.l3, .si .i64 p.h3, .si .i64 p.l4, .si .i64 p.h4, .si .i64 p.st]), (24, .cells 27 (grA 0 p))], 44, []⟩) 1 (fun j => j) hG ?_ (?_)
          rotate_left
          · exact hc ⟨_, hl⟩
          refine ⟨?_, ?_, rfl, rfl, rfl, rfl, trivial⟩ <;> repeat' (first | exact trivial | exact rfl | exact hqk.symm | (intro i hi; exact ⟨rfl, rfl⟩) | refine And.intro ?_ ?_)
  case hh =>
    rintro ⟨X, hX, hXs⟩
    clear hpo
    obtain ⟨e, he⟩ : ∃ e : Int, y.tmod 2 = e := ⟨_, rfl⟩
    have he2 : e = 0 ∨ e = 1 := by
      have := Int.tmod_lt_of_pos y (show (0 : Int) < 2 by decide)
      have := Int.tmod_nonneg 2 hy0
      omega
    have hn1 : 1 ≤ n := by omega
    have hlb : ∀ j, j < n → (0 ≤ (L j).1 ∧ (L j).1 ≤ 20) ∧ 0 ≤ (L j).2 ∧ (L j).2 ≤ 20 := fun j hj => by
      have hm : L j ∈ LL := by rw [← hLL]; exact List.mem_map_of_mem (List.mem_range.2 hj)
      have h1 := (gradeOk_up hok).2.2 _ hm
      have h2 := gradeOk_pos hok _ hm
      omega
    have hrL : r < LL.length := by omega
    have hLr : LL.getD r (0, 0) = L r := by
      rw [← hLL]
      simp [List.getD, hrn]
    have hiq : inB q 0 4 = true := inB_true (by omega)
    have hTp : errT p LL true = if hasB p = true then 0 else 10 := errT_ok hok
    have hTX : errT X LL true = if hasB X = true then 0 else 10 := errT_ok hX
    have hXp : hasB X = true → hasB p = true := fun h => by
      obtain ⟨b, hb'⟩ := hasB_iff.1 h
      exact hasB_iff.2 ⟨b, hXs b hb'⟩
    have hin0 : ∀ g : Pts, gradeOk g LL = true → InK .i64 ((resG g ((List.range n).map L) true : Nat) : Int) := fun g hg => by
      rw [hLL]
      have : resG g LL true < 32 := by
        rw [resG]
        split
        · exact setV_lt (gradeOk_b hg).1 (by omega)
        · decide
      exact ⟨by show (-9223372036854775808 : Int) ≤ _; omega, by show _ ≤ (9223372036854775807 : Int); omega⟩
    have hlimY : Lims n (fun j => liC (moreL e (L j))) ∧ n ≤ 1000000 := ⟨lims_i _ _, by omega⟩
    obtain ⟨YY, hYY⟩ : ∃ YY, (limsL n fun j => liC (moreL e (L j))) = YY := ⟨_, rfl⟩
    have hYL : YY = LL.map (moreL e) := by rw [← hYY, ← hLL, List.map_map]; exact List.map_congr_left fun j _ => rfl
    have he0 : 0 ≤ e := by omega
    have hokY : gradeOk p YY = true := by rw [hYL]; exact gradeOk_more he0 hok
    have hlenY : YY.length = n := by rw [hYL, List.length_map]; exact hlen
    have hmle := more_le hok he0 hrL
    rw [← hYL, hLr] at hmle
    obtain ⟨Z, hZ⟩ : ∃ Z, zK e p 5 = Z := ⟨_, rfl⟩
    have htq := trnI_b (e := e) hq5
    have hokZ : gradeOk Z LL = true := by rw [← hZ]; exact grade_trn hok
    have hasZ : hasB Z = hasB p := by rw [← hZ]; exact has_trn e p
    have hiz : inB (trnI e q) 0 4 = true := inB_true (by omega)
    have hTZ : errT Z LL true = errT p LL true := by rw [errT_ok hokZ, errT_ok hok, hasZ]
    have r1 : resS (ptV (trnI e q)) Z LL true = resS (ptV q) p LL true := by rw [resS_ok hokZ, resS_ok hok, ← hZ]; exact span_trn fun b => pt_trn hq5 b
    have r2 : resS varV Z LL true = resS varV p LL true := by rw [resS_ok hokZ, resS_ok hok, ← hZ]; exact span_trn fun b => var_trn e b
    have r3 : resS offV Z LL true = resS offV p LL true := by rw [resS_ok hokZ, resS_ok hok, ← hZ]; exact span_trn fun b => off_trn e b
    have r4 : resG Z LL true = resG p LL true := by
      unfold resG
      rw [hTZ, ← hZ, set_trn]
    have r5 : resL Z LL r = resL p LL r := by
      unfold resL
      rw [isG_ok hrL, hTZ, ← hZ, lapV_trn]
    refine loop_okR (g.ok _ _ _) 1 (fun z : {z : Nat // z ≤ n} => match z.1 with
      | 0 => ⟨[(3, ⟨[], .sp 1 0⟩), (5, ⟨[], .sp 2 0⟩), (7, ⟨[], .si .i64 q⟩), (8, ⟨[], .si .i64 (r : Int)⟩), (9, ⟨[], .sp 16 0⟩), (10, ⟨[], .sp 20 0⟩), (11, ⟨[], .sp 24 0⟩), (109, ⟨[], .sl 0⟩), (110, ⟨[], .si .i64 (n : Int)⟩), (111, ⟨[], .si .i64 ((0 : Nat) : Int)⟩)], [], [(0, .ro 2 n fun i => liC (L i)), (1, .cells 27 (grA 0 p)), (2, .cells 5 [.si .u8 y]), (16, .cells 27 (grA 0 X)), (20, .cells 27 [.sv (.slice none 0 0), .si .i64 p.l0, .si .i64 p.h0, .si .i64 p.l1, .si .i64 p.h1, .si .i64 p.l2, .si .i64 p.h2, .si .i64 p.l3, .si .i64 p.h3, .si .i64 p.l4, .si .i64 p.h4, .si .i64 p.st]), (24, .cells 27 (grA 0 p))], 60, []⟩
      | i + 1 => ⟨[(3, ⟨[], .sp 1 0⟩), (5, ⟨[], .sp 2 0⟩), (7, ⟨[], .si .i64 q⟩), (8, ⟨[], .si .i64 (r : Int)⟩), (9, ⟨[], .sp 16 0⟩), (10, ⟨[], .sp 20 0⟩), (11, ⟨[], .sp 24 0⟩), (109, ⟨[], .sl 0⟩), (110, ⟨[], .si .i64 (n : Int)⟩), (111, ⟨[], .si .i64 ((i + 1 : Nat) : Int)⟩)], [], [(0, .ro 2 n fun i => liC (L i)), (1, .cells 27 (grA 0 p)), (2, .cells 5 [.si .u8 y]), (16, .cells 27 (grA 0 X)), (20, .cells 27 [.sl 50, .si .i64 p.l0, .si .i64 p.h0, .si .i64 p.l1, .si .i64 p.h1, .si .i64 p.l2, .si .i64 p.h2, .si .i64 p.l3, .si .i64 p.h3, .si .i64 p.l4, .si .i64 p.h4, .si .i64 p.st]), (24, .cells 27 (grA 0 p)), (50, .vec 51 2 (i + 1) fun j => liC (moreL e (L j)))], 60, []⟩)
      (fun z => n - z.1) hG ⟨0, Nat.zero_le _⟩ (fun j => j) ?_ ?_
    · refine ⟨?_, ?_, rfl, rfl, rfl, rfl, trivial⟩ <;> repeat' (first | exact trivial | exact rfl | (intro i hi; exact ⟨rfl, rfl⟩) | refine And.intro ?_ ?_)
    rintro ⟨i, hi⟩
    cases i with
    | zero =>
      show exec _ _ ⟨[(3, ⟨[], .sp 1 0⟩), (5, ⟨[], .sp 2 0⟩), (7, ⟨[], .si .i64 q⟩), (8, ⟨[], .si .i64 (r : Int)⟩), (9, ⟨[], .sp 16 0⟩), (10, ⟨[], .sp 20 0⟩), (11, ⟨[], .sp 24 0⟩), (109, ⟨[], .sl 0⟩), (110, ⟨[], .si .i64 (n : Int)⟩), (111, ⟨[], .si .i64 ((0 : Nat) : Int)⟩)], [], [(0, .ro 2 n fun i => liC (L i)), (1, .cells 27 (grA 0 p)), (2, .cells 5 [.si .u8 y]), (16, .cells 27 (grA 0 X)), (20, .cells 27 [.sv (.slice none 0 0), .si .i64 p.l0, .si .i64 p.h0, .si .i64 p.l1, .si .i64 p.h1, .si .i64 p.l2, .si .i64 p.h2, .si .i64 p.l3, .si .i64 p.h3, .si .i64 p.l4, .si .i64 p.h4, .si .i64 p.st]), (24, .cells 27 (grA 0 p))], 60, []⟩ _
      refine Br.mk (fun _ => ?_) (fun h => absurd (of_decide_eq_false h) (by show ¬ ¬ ((0 : Nat) : Int) < (n : Int); omega))
      refine Chk.mk (show (0 : Int) ≤ (((0 : Nat) : Int) : Int) ∧ (((0 : Nat) : Int) : Int) < (n : Int) by omega) ?_
      have hlj := hlb 0 (by omega)
      refine Chk.mk (show InK .i64 ((L 0).1 + 1) from ⟨by show (-9223372036854775808 : Int) ≤ _; omega, by show _ ≤ (9223372036854775807 : Int); omega⟩) ?_
      refine Chk.mk (show InK .i64 y from ⟨by show (-9223372036854775808 : Int) ≤ _; omega, by show _ ≤ (9223372036854775807 : Int); omega⟩) ?_
      refine Chk.mk (show (2 : Int) ≠ 0 by decide) ?_
      rw [he]
      refine Chk.mk (show InK .i64 ((L 0).2 + e) from ⟨by show (-9223372036854775808 : Int) ≤ _; omega, by show _ ≤ (9223372036854775807 : Int); omega⟩) ?_
      refine fb_append_nil 61 1 _ (g.ok _ _ _) cont_std rfl rfl rfl rfl rfl rfl rfl rfl rfl rfl rfl rfl (by decide) (by decide) rfl rfl rfl (by decide) (by decide) ?_
      refine Chk.mk (show InK .i64 ((((0 : Nat) : Int) : Int) + 1) from ⟨by show (-9223372036854775808 : Int) ≤ _; omega, by show _ ≤ (9223372036854775807 : Int); omega⟩) ?_
      refine ⟨⟨0 + 1, by omega⟩, (fun j => if j = 50 then 62 else j), ?_, by show n - (0 + 1) < n - 0; omega⟩
      refine ⟨?_, ?_, rfl, rfl, rfl, rfl, trivial⟩ <;> repeat' (first | exact trivial | exact rfl | (intro i hi; exact ⟨rfl, rfl⟩) | refine And.intro ?_ ?_)
      intro i hi
      obtain rfl : i = 0 := by omega
      exact ⟨rfl, rfl⟩
    | succ i =>
      show exec _ _ ⟨[(3, ⟨[], .sp 1 0⟩), (5, ⟨[], .sp 2 0⟩), (7, ⟨[], .si .i64 q⟩), (8, ⟨[], .si .i64 (r : Int)⟩), (9, ⟨[], .sp 16 0⟩), (10, ⟨[], .sp 20 0⟩), (11, ⟨[], .sp 24 0⟩), (109, ⟨[], .sl 0⟩), (110, ⟨[], .si .i64 (n : Int)⟩), (111, ⟨[], .si .i64 ((i + 1 : Nat) : Int)⟩)], [], [(0, .ro 2 n fun i => liC (L i)), (1, .cells 27 (grA 0 p)), (2, .cells 5 [.si .u8 y]), (16, .cells 27 (grA 0 X)), (20, .cells 27 [.sl 50, .si .i64 p.l0, .si .i64 p.h0, .si .i64 p.l1, .si .i64 p.h1, .si .i64 p.l2, .si .i64 p.h2, .si .i64 p.l3, .si .i64 p.h3, .si .i64 p.l4, .si .i64 p.h4, .si .i64 p.st]), (24, .cells 27 (grA 0 p)), (50, .vec 51 2 (i + 1) fun j => liC (moreL e (L j)))], 60, []⟩ _
      refine Br.mk (fun h => ?_) (fun h => ?_)
      case refine_1 =>
        have hin : i + 1 < n := by
          have : ((i + 1 : Nat) : Int) < (n : Int) := of_decide_eq_true h
          omega
        refine Chk.mk (show (0 : Int) ≤ (((i + 1 : Nat) : Int) : Int) ∧ (((i + 1 : Nat) : Int) : Int) < (n : Int) by omega) ?_
        have hlj := hlb (i + 1) (by omega)
        refine Chk.mk (show InK .i64 ((L (i + 1)).1 + 1) from ⟨by show (-9223372036854775808 : Int) ≤ _; omega, by show _ ≤ (9223372036854775807 : Int); omega⟩) ?_
        refine Chk.mk (show InK .i64 y from ⟨by show (-9223372036854775808 : Int) ≤ _; omega, by show _ ≤ (9223372036854775807 : Int); omega⟩) ?_
        refine Chk.mk (show (2 : Int) ≠ 0 by decide) ?_
        rw [he]
        refine Chk.mk (show InK .i64 ((L (i + 1)).2 + e) from ⟨by show (-9223372036854775808 : Int) ≤ _; omega, by show _ ≤ (9223372036854775807 : Int); omega⟩) ?_
        refine fb_append (Te := 0) 50 61 (i + 1) 1 _ _ (fun j => liC (moreL e (L j))) (g.ok _ _ _) cont_std rfl rfl rfl rfl rfl rfl rfl rfl rfl rfl rfl rfl (by decide) (by decide) rfl rfl rfl rfl (by omega) (fun j hj => more_app hj) ?_
        refine Chk.mk (show InK .i64 ((((i + 1 : Nat) : Int) : Int) + 1) from ⟨by show (-9223372036854775808 : Int) ≤ _; omega, by show _ ≤ (9223372036854775807 : Int); omega⟩) ?_
        refine ⟨⟨(i + 1) + 1, by omega⟩, (fun j => if j = 50 then 62 else j), ?_, by show n - ((i + 1) + 1) < n - (i + 1); omega⟩
        refine ⟨?_, ?_, rfl, rfl, rfl, rfl, trivial⟩ <;> repeat' (first | exact trivial | exact rfl | (intro i hi; exact ⟨rfl, rfl⟩) | refine And.intro ?_ ?_)
      have hin : i + 1 = n := by
        have : ¬ ((i + 1 : Nat) : Int) < (n : Int) := of_decide_eq_false h
        have hi : i + 1 ≤ n := hi
        omega

      refine loop_okR (g.ok _ _ _) 1 (fun z : {z : Nat // z ≤ 5} => ⟨[(3, ⟨[], .sp 1 0⟩), (5, ⟨[], .sp 2 0⟩), (7, ⟨[], .si .i64 q⟩), (8, ⟨[], .si .i64 (r : Int)⟩), (9, ⟨[], .sp 16 0⟩), (10, ⟨[], .sp 20 0⟩), (11, ⟨[], .sp 24 0⟩), (15, ⟨[], .fn (.func 43) [] [.sp 2 0]⟩), (135, ⟨[], .agg [.si .i64 p.l0, .si .i64 p.h0, .si .i64 p.l1, .si .i64 p.h1, .si .i64 p.l2, .si .i64 p.h2, .si .i64 p.l3, .si .i64 p.h3, .si .i64 p.l4, .si .i64 p.h4]⟩), (136, ⟨[], .si .i64 z.1⟩)], [], [(0, .ro 2 n fun i => liC (L i)), (1, .cells 27 (grA 0 p)), (2, .cells 5 [.si .u8 y]), (16, .cells 27 (grA 0 X)), (20, .cells 27 [.sl 50, .si .i64 p.l0, .si .i64 p.h0, .si .i64 p.l1, .si .i64 p.h1, .si .i64 p.l2, .si .i64 p.h2, .si .i64 p.l3, .si .i64 p.h3, .si .i64 p.l4, .si .i64 p.h4, .si .i64 p.st]), (24, .cells 27 (grA 0 (zK e p z.1))), (50, .vec 51 2 n fun j => liC (moreL e (L j)))], 70, []⟩) (fun z => 5 - z.1) hG ⟨0, Nat.zero_le _⟩ (fun j => j) ?_ ?_
      · refine ⟨?_, ?_, rfl, rfl, rfl, rfl, trivial⟩ <;> repeat' (first | exact trivial | exact rfl | exact hin | (intro i hi; exact ⟨rfl, rfl⟩) | refine And.intro ?_ ?_)
      clear hin h
      rintro ⟨i, hi5⟩
      rcases (show i = 0 ∨ i = 1 ∨ i = 2 ∨ i = 3 ∨ i = 4 ∨ i = 5 by omega) with rfl | rfl | rfl | rfl | rfl | rfl
      · rcases he2 with rfl | rfl
        · refine Br.mk (fun _ => ?_) (fun h => by cases h)
          refine Chk.mk (bnd 0 5 rfl) ?_
          refine drawn_ok (g.ok _ _ _) fol [0,0,3,0,0,31,63] [(6, 24)] 7 (by kernel_rfl) ?_
          refine Chk.mk ⟨(show (0 : Int) ≤ (0 : Int) ∧ (0 : Int) < 5 by decide), hy0, hy1⟩ ?_
          rw [he]
          refine Chk.mk (show (0 : Int) ≤ trnI 0 0 ∧ trnI 0 0 < 5 by decide) ?_
          refine Chk.mk (ink1 0 rfl) ?_
          refine ⟨⟨1, by decide⟩, (fun j => j), ?_, by show 5 - 1 < 5 - 0; omega⟩
          refine ⟨?_, ?_, rfl, rfl, rfl, rfl, trivial⟩ <;> repeat' (first | exact trivial | exact rfl | (intro i hi; exact ⟨rfl, rfl⟩) | refine And.intro ?_ ?_)
        · refine Br.mk (fun _ => ?_) (fun h => by cases h)
          refine Chk.mk (bnd 0 5 rfl) ?_
          refine drawn_ok (g.ok _ _ _) fol [0,0,3,0,0,31,63] [(6, 24)] 7 (by kernel_rfl) ?_
          refine Chk.mk ⟨(show (0 : Int) ≤ (0 : Int) ∧ (0 : Int) < 5 by decide), hy0, hy1⟩ ?_
          rw [he]
          refine Chk.mk (show (0 : Int) ≤ trnI 1 0 ∧ trnI 1 0 < 5 by decide) ?_
          refine Chk.mk (ink1 0 rfl) ?_
          refine ⟨⟨1, by decide⟩, (fun j => j), ?_, by show 5 - 1 < 5 - 0; omega⟩
          refine ⟨?_, ?_, rfl, rfl, rfl, rfl, trivial⟩ <;> repeat' (first | exact trivial | exact rfl | (intro i hi; exact ⟨rfl, rfl⟩) | refine And.intro ?_ ?_)
      · rcases he2 with rfl | rfl
        · refine Br.mk (fun _ => ?_) (fun h => by cases h)
          refine Chk.mk (bnd 1 5 rfl) ?_
          refine drawn_ok (g.ok _ _ _) fol [0,0,3,0,0,31,63] [(6, 24)] 7 (by kernel_rfl) ?_
          refine Chk.mk ⟨(show (0 : Int) ≤ (1 : Int) ∧ (1 : Int) < 5 by decide), hy0, hy1⟩ ?_
          rw [he]
          refine Chk.mk (show (0 : Int) ≤ trnI 0 1 ∧ trnI 0 1 < 5 by decide) ?_
          refine Chk.mk (ink1 1 rfl) ?_
          refine ⟨⟨2, by decide⟩, (fun j => j), ?_, by show 5 - 2 < 5 - 1; omega⟩
          refine ⟨?_, ?_, rfl, rfl, rfl, rfl, trivial⟩ <;> repeat' (first | exact trivial | exact rfl | (intro i hi; exact ⟨rfl, rfl⟩) | refine And.intro ?_ ?_)
        · refine Br.mk (fun _ => ?_) (fun h => by cases h)
          refine Chk.mk (bnd 1 5 rfl) ?_
          refine drawn_ok (g.ok _ _ _) fol [0,0,3,0,0,31,63] [(6, 24)] 7 (by kernel_rfl) ?_
          refine Chk.mk ⟨(show (0 : Int) ≤ (1 : Int) ∧ (1 : Int) < 5 by decide), hy0, hy1⟩ ?_
          rw [he]
          refine Chk.mk (show (0 : Int) ≤ trnI 1 1 ∧ trnI 1 1 < 5 by decide) ?_
          refine Chk.mk (ink1 1 rfl) ?_
          refine ⟨⟨2, by decide⟩, (fun j => j), ?_, by show 5 - 2 < 5 - 1; omega⟩
          refine ⟨?_, ?_, rfl, rfl, rfl, rfl, trivial⟩ <;> repeat' (first | exact trivial | exact rfl | (intro i hi; exact ⟨rfl, rfl⟩) | refine And.intro ?_ ?_)
      · rcases he2 with rfl | rfl
        · refine Br.mk (fun _ => ?_) (fun h => by cases h)
          refine Chk.mk (bnd 2 5 rfl) ?_
          refine drawn_ok (g.ok _ _ _) fol [0,0,3,0,0,31,63] [(6, 24)] 7 (by kernel_rfl) ?_
          refine Chk.mk ⟨(show (0 : Int) ≤ (2 : Int) ∧ (2 : Int) < 5 by decide), hy0, hy1⟩ ?_
          rw [he]
          refine Chk.mk (show (0 : Int) ≤ trnI 0 2 ∧ trnI 0 2 < 5 by decide) ?_
          refine Chk.mk (ink1 2 rfl) ?_
          refine ⟨⟨3, by decide⟩, (fun j => j), ?_, by show 5 - 3 < 5 - 2; omega⟩
          refine ⟨?_, ?_, rfl, rfl, rfl, rfl, trivial⟩ <;> repeat' (first | exact trivial | exact rfl | (intro i hi; exact ⟨rfl, rfl⟩) | refine And.intro ?_ ?_)
        · refine Br.mk (fun _ => ?_) (fun h => by cases h)
          refine Chk.mk (bnd 2 5 rfl) ?_
          refine drawn_ok (g.ok _ _ _) fol [0,0,3,0,0,31,63] [(6, 24)] 7 (by kernel_rfl) ?_
          refine Chk.mk ⟨(show (0 : Int) ≤ (2 : Int) ∧ (2 : Int) < 5 by decide), hy0, hy1⟩ ?_
          rw [he]
          refine Chk.mk (show (0 : Int) ≤ trnI 1 2 ∧ trnI 1 2 < 5 by decide) ?_
          refine Chk.mk (ink1 2 rfl) ?_
          refine ⟨⟨3, by decide⟩, (fun j => j), ?_, by show 5 - 3 < 5 - 2; omega⟩
          refine ⟨?_, ?_, rfl, rfl, rfl, rfl, trivial⟩ <;> repeat' (first | exact trivial | exact rfl | (intro i hi; exact ⟨rfl, rfl⟩) | refine And.intro ?_ ?_)
      · rcases he2 with rfl | rfl
        · refine Br.mk (fun _ => ?_) (fun h => by cases h)
          refine Chk.mk (bnd 3 5 rfl) ?_
          refine drawn_ok (g.ok _ _ _) fol [0,0,3,0,0,31,63] [(6, 24)] 7 (by kernel_rfl) ?_
          refine Chk.mk ⟨(show (0 : Int) ≤ (3 : Int) ∧ (3 : Int) < 5 by decide), hy0, hy1⟩ ?_
          rw [he]
          refine Chk.mk (show (0 : Int) ≤ trnI 0 3 ∧ trnI 0 3 < 5 by decide) ?_
          refine Chk.mk (ink1 3 rfl) ?_
          refine ⟨⟨4, by decide⟩, (fun j => j), ?_, by show 5 - 4 < 5 - 3; omega⟩
          refine ⟨?_, ?_, rfl, rfl, rfl, rfl, trivial⟩ <;> repeat' (first | exact trivial | exact rfl | (intro i hi; exact ⟨rfl, rfl⟩) | refine And.intro ?_ ?_)
        · refine Br.mk (fun _ => ?_) (fun h => by cases h)
          refine Chk.mk (bnd 3 5 rfl) ?_
          refine drawn_ok (g.ok _ _ _) fol [0,0,3,0,0,31,63] [(6, 24)] 7 (by kernel_rfl) ?_
          refine Chk.mk ⟨(show (0 : Int) ≤ (3 : Int) ∧ (3 : Int) < 5 by decide), hy0, hy1⟩ ?_
          rw [he]
          refine Chk.mk (show (0 : Int) ≤ trnI 1 3 ∧ trnI 1 3 < 5 by decide) ?_
          refine Chk.mk (ink1 3 rfl) ?_
          refine ⟨⟨4, by decide⟩, (fun j => j), ?_, by show 5 - 4 < 5 - 3; omega⟩
          refine ⟨?_, ?_, rfl, rfl, rfl, rfl, trivial⟩ <;> repeat' (first | exact trivial | exact rfl | (intro i hi; exact ⟨rfl, rfl⟩) | refine And.intro ?_ ?_)
      · rcases he2 with rfl | rfl
        · refine Br.mk (fun _ => ?_) (fun h => by cases h)
          refine Chk.mk (bnd 4 5 rfl) ?_
          refine drawn_ok (g.ok _ _ _) fol [0,0,3,0,0,31,63] [(6, 24)] 7 (by kernel_rfl) ?_
          refine Chk.mk ⟨(show (0 : Int) ≤ (4 : Int) ∧ (4 : Int) < 5 by decide), hy0, hy1⟩ ?_
          rw [he]
          refine Chk.mk (show (0 : Int) ≤ trnI 0 4 ∧ trnI 0 4 < 5 by decide) ?_
          refine Chk.mk (ink1 4 rfl) ?_
          refine ⟨⟨5, by decide⟩, (fun j => j), ?_, by show 5 - 5 < 5 - 4; omega⟩
          refine ⟨?_, ?_, rfl, rfl, rfl, rfl, trivial⟩ <;> repeat' (first | exact trivial | exact rfl | (intro i hi; exact ⟨rfl, rfl⟩) | refine And.intro ?_ ?_)
        · refine Br.mk (fun _ => ?_) (fun h => by cases h)
          refine Chk.mk (bnd 4 5 rfl) ?_
          refine drawn_ok (g.ok _ _ _) fol [0,0,3,0,0,31,63] [(6, 24)] 7 (by kernel_rfl) ?_
          refine Chk.mk ⟨(show (0 : Int) ≤ (4 : Int) ∧ (4 : Int) < 5 by decide), hy0, hy1⟩ ?_
          rw [he]
          refine Chk.mk (show (0 : Int) ≤ trnI 1 4 ∧ trnI 1 4 < 5 by decide) ?_
          refine Chk.mk (ink1 4 rfl) ?_
          refine ⟨⟨5, by decide⟩, (fun j => j), ?_, by show 5 - 5 < 5 - 4; omega⟩
          refine ⟨?_, ?_, rfl, rfl, rfl, rfl, trivial⟩ <;> repeat' (first | exact trivial | exact rfl | (intro i hi; exact ⟨rfl, rfl⟩) | refine And.intro ?_ ?_)
      refine Br.mk (fun h => by cases h) (fun _ => ?_)
      refine fb_append0 70 0 n _ (g.ok _ _ _) cont_std rfl rfl rfl rfl rfl rfl rfl rfl rfl rfl rfl rfl (by decide) (by decide) rfl rfl rfl rfl (by decide) (by omega) ?_
      rw [hZ]
      refine Chk.mk hlim (Chk.mk hlim (Chk.mk hlim (Chk.mk hlim (Chk.mk hlim (Chk.mk hlim (Chk.mk hlim (Chk.mk hlim (Chk.mk hlim (Chk.mk hlim ?_)))))))))
      refine Chk.mk (under_of <| show (0 : Int) ≤ ((resG X ((List.range n).map L) true : Nat) : Int) ∧ (0 : Int) ≤ ((resG p ((List.range n).map L) true : Nat) : Int) ∧ InK .i64 ((resG X ((List.range n).map L) true : Nat) : Int) ∧ InK .i64 ((resG p ((List.range n).map L) true : Nat) : Int) from ⟨by omega, by omega, hin0 X hX, hin0 p hok⟩) ?_
      refine Br.mk (fun h2 => ?_) (fun _ => ?_)
      · exfalso
        obtain ⟨A, B, C, D, E, F, J, h2, hA, hB, hC, hD, hE, hF, hJ⟩ : ∃ A B C D E F J : Bool, (A || (B && ((((!C || !D) || !E) || !F) || !J))) = true ∧ A = (!decide (errS (ptV q) X ((List.range n).map L) (inB q 0 4) = 0) && !decide (errS (ptV q) X ((List.range n).map L) (inB q 0 4) = 10)) ∧ B = decide (errS (ptV q) X ((List.range n).map L) (inB q 0 4) = 0) ∧ C = decide (errS (ptV q) p ((List.range n).map L) (inB q 0 4) = 0) ∧ D = inS ((resS (ptV q) X ((List.range n).map L) (inB q 0 4)).1, (resS (ptV q) X ((List.range n).map L) (inB q 0 4)).2) ((resS (ptV q) p ((List.range n).map L) (inB q 0 4)).1, (resS (ptV q) p ((List.range n).map L) (inB q 0 4)).2) ∧ E = inS ((resS varV X ((List.range n).map L) true).1, (resS varV X ((List.range n).map L) true).2) ((resS varV p ((List.range n).map L) true).1, (resS varV p ((List.range n).map L) true).2) ∧ F = inS ((resS offV X ((List.range n).map L) true).1, (resS offV X ((List.range n).map L) true).2) ((resS offV p ((List.range n).map L) true).1, (resS offV p ((List.range n).map L) true).2) ∧ J = decide (((((resG X ((List.range n).map L) true : Nat) : Int).toNat - (((resG X ((List.range n).map L) true : Nat) : Int).toNat &&& ((resG p ((List.range n).map L) true : Nat) : Int).toNat) : Nat) : Int) = 0) := ⟨_, _, _, _, _, _, _, h2, rfl, rfl, rfl, rfl, rfl, rfl, rfl⟩
        rw [hLL] at hA hB hC hD hE hF
        rw [hiq] at hA hB hC hD
        cases hx : hasB X with
        | false =>
          have a1 : errS (ptV q) X LL true = 10 := by rw [errS_all, hTX, hx]; rfl
          rw [a1] at hA hB
          have hA : A = false := hA
          have hB : B = false := hB
          rw [hA, hB] at h2
          cases h2
        | true =>
          have hp' := hXp hx
          have a1 : errS (ptV q) X LL true = 0 := by rw [errS_all, hTX, hx]; rfl
          have a2 : errS (ptV q) p LL true = 0 := by rw [errS_all, hTp, hp']; rfl
          have a3 : ∀ F, inS ((resS F X LL true).1, (resS F X LL true).2) ((resS F p LL true).1, (resS F p LL true).2) = true := fun F => by rw [resS_ok hX, resS_ok hok]; exact span_less hXs hx
          have b1 : resG X ((List.range n).map L) true = setV (lims3 LL) X := by rw [hLL]; exact resG_ok hX hx
          have b2 : resG p ((List.range n).map L) true = setV (lims3 LL) p := by rw [hLL]; exact resG_ok hok hp'
          rw [a1] at hA
          rw [a2] at hC
          have hA : A = false := hA
          have hC : C = true := hC
          have hJ : J = true := hJ.trans (decide_eq_true (by rw [b1, b2, Int.toNat_natCast, Int.toNat_natCast, set_less hXs]; rfl))
          rw [hA, hC, hD.trans (a3 _), hE.trans (a3 _), hF.trans (a3 _), hJ] at h2
          cases B <;> cases h2

      refine Chk.mk hlimY (Chk.mk hlimY ?_)
      refine Br.mk (fun h2 => ?_) (fun _ => ?_)
      · exfalso
        have h2 : ((!decide (errT p (limsL n fun j => liC (moreL e (L j))) (isG (limsL n fun j => liC (moreL e (L j))) (r : Int)) = errT p ((List.range n).map L) (isG ((List.range n).map L) (r : Int))) || decide (resU p (limsL n fun j => liC (moreL e (L j))) r < resU p ((List.range n).map L) r)) || (decide ((resL p ((List.range n).map L) r).2 = 0) && (!decide ((resL p (limsL n fun j => liC (moreL e (L j))) r).2 = 0) || decide ((resL p (limsL n fun j => liC (moreL e (L j))) r).1 < (resL p ((List.range n).map L) r).1)))) = true := h2
        rw [hYY, hLL, isG_ok hrL, isG_ok (show r < YY.length by omega), errT_ok hok, errT_ok hokY] at h2
        cases hx : hasB p with
        | false =>
          rw [hx, (none_ok hok hx hrL).1, (none_ok hokY hx (show r < YY.length by omega)).1, resL_no hok hx hrL] at h2
          cases h2
        | true =>
          rw [hx, resU_ok hok hx hrL, resU_ok hokY hx (show r < YY.length by omega), resL_ok hok hx hrL, resL_ok hokY hx (show r < YY.length by omega), hLr] at h2
          have hs := sure_greater hok hokY hx hrL (show r < YY.length by omega) (by rw [hLr]; exact hmle.1) (by rw [hLr]; exact hmle.2)
          rw [decide_eq_false (show ¬ sureV (setV (lims3 YY) p) (upTo (r : Int)) < sureV (setV (lims3 LL) p) (upTo (r : Int)) by omega)] at h2
          cases hj : lapV p (L r) with
          | none => rw [hj] at h2; cases h2
          | some j =>
            obtain ⟨k, hk, hkj⟩ := lap_greater hmle.1 hmle.2 hj
            rw [hj, hk] at h2
            have h2 : decide (20 - (k : Int) < 20 - (j : Int)) = true := h2
            have := of_decide_eq_true h2
            omega
      refine drawn_ok (g.ok _ _ _) fol [0,0,0,6,15,31,63,63,127,511] [(8, 75)] 10 (by kernel_rfl) ?_
      refine Chk.mk ⟨hq5, hy0, hy1⟩ ?_
      refine Chk.mk hlim ?_
      refine Chk.mk hlim (Chk.mk hlim (Chk.mk hlim (Chk.mk hlim ?_)))
      refine Br.mk (fun h2 => ?_) (fun _ => ?_)
      · exfalso
        have h2 : ((((((!(decide ((resS (ptV (trnI (y.tmod 2) q)) Z ((List.range n).map L) (inB (trnI (y.tmod 2) q) 0 4)).1 = (resS (ptV q) p ((List.range n).map L) (inB q 0 4)).1) && (decide ((resS (ptV (trnI (y.tmod 2) q)) Z ((List.range n).map L) (inB (trnI (y.tmod 2) q) 0 4)).2 = (resS (ptV q) p ((List.range n).map L) (inB q 0 4)).2) && true)) || !decide (errS (ptV (trnI (y.tmod 2) q)) Z ((List.range n).map L) (inB (trnI (y.tmod 2) q) 0 4) = errS (ptV q) p ((List.range n).map L) (inB q 0 4))) || !(decide ((resS varV Z ((List.range n).map L) true).1 = (resS varV p ((List.range n).map L) true).1) && (decide ((resS varV Z ((List.range n).map L) true).2 = (resS varV p ((List.range n).map L) true).2) && true))) || !(decide ((resS offV Z ((List.range n).map L) true).1 = (resS offV p ((List.range n).map L) true).1) && (decide ((resS offV Z ((List.range n).map L) true).2 = (resS offV p ((List.range n).map L) true).2) && true))) || !decide (((resG Z ((List.range n).map L) true : Nat) : Int) = ((resG p ((List.range n).map L) true : Nat) : Int))) || !decide ((resL Z ((List.range n).map L) r).1 = (resL p ((List.range n).map L) r).1)) || !decide ((resL Z ((List.range n).map L) r).2 = (resL p ((List.range n).map L) r).2)) = true := h2
        rw [he, hLL, hiz, hiq, errS_all, errS_all, hTZ, r1, r2, r3, r4, r5] at h2
        simp at h2
      refine loop_okR (g.ok _ _ _) 1 (fun z : {z : Nat // z ≤ n} => ⟨[(3, ⟨[], .sp 1 0⟩), (18, ⟨[], .sl 71⟩), (342, ⟨[], .si .i64 (n : Int)⟩), (343, ⟨[], .si .i64 z.1⟩)], [], [(0, .ro 2 n fun i => liC (L i)), (1, .cells 27 (grA 0 p)), (2, .cells 5 [.si .u8 y]), (71, .vec 51 2 n fun i => liC (L i))], 80, []⟩) (fun z => n - z.1) hG ⟨0, Nat.zero_le _⟩ (fun j => j) ?_ ?_
      · refine ⟨?_, ?_, rfl, rfl, rfl, rfl, trivial⟩ <;> repeat' (first | exact trivial | exact rfl | (intro i hi; exact ⟨rfl, rfl⟩) | refine And.intro ?_ ?_)
      rintro ⟨i, hi⟩
      refine Br.mk (fun h => ?_) (fun h => ?_)
      · have hin : i < n := by
          have : (i : Int) < (n : Int) := of_decide_eq_true h
          omega
        refine drawn_ok (g.ok _ _ _) fol [0,0,3,7,0,16,0,112,240,511] [] 10 (by kernel_rfl) ?_
        refine Chk.mk (show (0 : Int) ≤ (i : Int) ∧ (i : Int) < (n : Int) by omega) ?_
        refine Chk.mk (show (0 : Int) ≤ (i : Int) ∧ (i : Int) < (n : Int) by omega) ?_
        refine Br.mk (fun h2 => ?_) (fun _ => ?_)
        · have h2 : (!(decide ((L i).1 = (L i).1) && (decide ((L i).2 = (L i).2) && true))) = true := h2
          simp at h2
        refine Chk.mk (show InK .i64 ((i : Int) + 1) from ⟨by show (-9223372036854775808 : Int) ≤ _; omega, by show _ ≤ (9223372036854775807 : Int); omega⟩) ?_
        refine ⟨⟨i + 1, by omega⟩, (fun j => j), ?_, by show n - (i + 1) < n - i; omega⟩
        refine ⟨?_, ?_, rfl, rfl, rfl, rfl, trivial⟩ <;> repeat' (first | exact trivial | exact rfl | (intro i hi; exact ⟨rfl, rfl⟩) | refine And.intro ?_ ?_)
      exact ⟨.inl rfl, end_noid rfl rfl rfl (by repeat' (first | exact trivial | exact rfl | (intro i hi; exact ⟨rfl, rfl⟩) | refine And.intro ?_ ?_))⟩
end Go.X.Gr
end
