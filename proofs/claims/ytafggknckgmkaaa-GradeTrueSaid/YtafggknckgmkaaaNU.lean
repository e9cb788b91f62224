/- The walk of GradeTrue. -/
import Derived.Test.YtafggknckgmkaaaNQ
import Derived.Test.YtafggknckgmkaaaNR
import Derived.Test.YtafggknckgmkaaaNE

section
set_option linter.unusedVariables false
set_option linter.unusedSimpArgs false
set_option linter.unusedSectionVars false
/- Grade: the walk of GradeTrue. -/
set_option linter.unusedVariables false
set_option linter.unusedSimpArgs false
set_option maxRecDepth 10000
set_option maxHeartbeats 4000000
namespace Go.X.Gr
open Go Go.Proofs Go.X

def c6 : Ct := fun fr args H => match args with
  | [.sl id] => (match sliceOf 1 H id with
    | some (m, og) => some ⟨some (m ≤ 9223372036854775807 ∧ U16s m og), none, .sb true, []⟩
    | none => none)
  | _ => none
theorem c6_mono : CtMono c6 := by
  intro fr args H H' out hH h
  unfold c6 at h ⊢
  split at h
  · split at h
    · rename_i m og e
      simp only [sliceOf_mono hH e]
      exact h
    · cases h
  · cases h
theorem k6 {l : List (Nat × Ct)} (g0 : Good P T l) : COk P 6 c6 := by
  have g := g14 (g15 (g17 (g19 (g21 (g23 (g25 (g27 (g29 (g33 (g35 (g36 (g37 (g38 good0)))))))))))))
  refine cok (C := tabC _) g.ok Try.func6 (c := code Try.f6) rfl fun fr args H out h hp => ?_
  unfold c6 at h
  split at h
  case h_2 => cases h
  rename_i id
  split at h
  case h_2 => cases h
  rename_i m og e2
  cases h
  obtain ⟨hm, hu⟩ : m ≤ 9223372036854775807 ∧ U16s m og := hp
  have hh : Hand H [(id, .ro 1 m fun i => [.si .u16 (u16At og i)])] := hand_one e2 (fun i => rfl) (fun i h => (hu i h).1.symm)
  refine ⟨[(id, .ro 1 m fun i => [.si .u16 (u16At og i)])], [.sl 0], [(0, .ro 1 m fun i => [.si .u16 (u16At og i)])], 1, [], rfl, rfl, Nat.le_of_ble_eq_true rfl, hh, rfl, rfl, fun G hG => ?_⟩
  have hv : ∀ j, j < m → 0 ≤ u16At og j ∧ u16At og j < 65536 := fun j hj => (hu j hj).2
  generalize u16At og = v at hv ⊢
  refine Chk.mk (fun i hi => ⟨rfl, hv i hi⟩) ?_
  refine fb_weaken (st' := ⟨[(3, ⟨[], .fn (.func 89) [] [.sp 38 0, .sp 39 0]⟩), (39, ⟨[], .fn (.func 89) [] [.sp 38 0, .sp 39 0]⟩)], [], [(38, .cells 3 [.si .i64 0]), (39, .cells 42 [.sl 0]), (0, .ro 1 m fun i => [.si .u16 (v i)])], 40, []⟩) 1 (fun j => if j = 38 then 1 else if j = 39 then 2 else j) hG ?_ ?_
  · refine ⟨?_, ?_, rfl, rfl, rfl, rfl, trivial⟩ <;> repeat' (first | exact trivial | exact rfl | (intro i hi; exact ⟨rfl, rfl⟩) | refine And.intro ?_ ?_)
  refine fb_call (g.ok _ _ _) cont_std rfl rfl rfl rfl ⟨b34, made_ok hm hv ⟨rfl, rfl, rfl, trivial⟩ (fun M hM => ?_)⟩
  have hMb := hM.b
  have hok := hM.ok
  have hk0 := hM.k0
  have hk1 := hM.k1
  obtain ⟨hb, hl1, hl2⟩ := gradeOk_b hok
  obtain ⟨LL, hLL⟩ : ∃ LL, (List.range M.n).map M.L = LL := ⟨_, rfl⟩
  rw [hLL] at hok hl1 hl2
  have hlen : LL.length = M.n := by rw [← hLL]; simp
  have hMo := ok5_of hb hMb
  refine Chk.mk ⟨hMo, by unfold okI; decide⟩ ?_
  refine Chk.mk (show InK .i64 ((M.n : Int) - 1) from ⟨by show (-9223372036854775808 : Int) ≤ _; omega, by show _ ≤ (9223372036854775807 : Int); omega⟩) ?_
  obtain ⟨F, hF⟩ : ∃ F, lk5 (lkL 20) M.b = F := ⟨_, rfl⟩
  have hF2 : lk5 lkP M.b = F := by rw [← hF, lkL_top hMo]
  have hLi : ∀ i, i < M.n → LL.getD i (0, 0) = M.L i := fun i hi => by
    rw [← hLL]
    simp [List.getD, hi]
  refine loop_okR (g.ok _ _ _) 1 (fun z : {z : Nat × Nat // z.1 ≤ M.n ∧ M.n - z.1 ≤ z.2 ∧ z.2 ≤ M.n ∧ (∀ j, M.n - z.1 ≤ j → j < z.2 → keepsP F (M.L j) = false) ∧ (z.2 < M.n → keepsP F (M.L z.2) = true)} => ⟨[(3, ⟨[], .fn (.func 89) [] [.sp 38 0, .sp 39 0]⟩), (4, ⟨[], .sp 40 0⟩), (5, ⟨[], .sp 41 0⟩), (6, ⟨[], .si .i64 F.1⟩), (7, ⟨[], .si .i64 F.2⟩), (8, ⟨[], .si .i64 (z.1.2 : Int)⟩), (9, ⟨[], .si .i64 ((M.n : Int) - 1 - (z.1.1 : Int))⟩)], [], [(38, .cells 3 [.si .i64 M.k]), (39, .cells 42 [.sl 0]), (0, .ro 1 m fun i => [.si .u16 (v i)]), (42, .vec 51 2 M.n fun j => liC (M.L j)), (40, .cells 27 (grA 42 M.g)), (41, .cells 45 (c5 M.b.1 M.b.2.1 M.b.2.2.1 M.b.2.2.2.1 M.b.2.2.2.2))], 60, []⟩) (fun z => M.n + 1 - z.1.1) hG ⟨(0, M.n), Nat.zero_le _, Nat.le_refl _, Nat.le_refl _, fun j h1 h2 => by simp only at h1 h2; omega, fun h => absurd h (Nat.lt_irrefl _)⟩ (fun j => if j = 40 then 60 else if j = 41 then 61 else j) ?_ ?_
  · refine ⟨?_, ?_, rfl, rfl, rfl, rfl, trivial⟩ <;> repeat' (first | exact trivial | exact rfl | (rw [← hF]; rfl) | (show (M.n : Int) - 1 = (M.n : Int) - 1 - ((0 : Nat) : Int); omega) | (intro i hi; exact ⟨rfl, rfl⟩) | refine And.intro ?_ ?_)
  rintro ⟨⟨i, w⟩, hi, hw1, hw2, hw3, hw4⟩
  simp only at hi hw1 hw2 hw3 hw4
  show exec _ _ ⟨[(3, ⟨[], .fn (.func 89) [] [.sp 38 0, .sp 39 0]⟩), (4, ⟨[], .sp 40 0⟩), (5, ⟨[], .sp 41 0⟩), (6, ⟨[], .si .i64 F.1⟩), (7, ⟨[], .si .i64 F.2⟩), (8, ⟨[], .si .i64 (w : Int)⟩), (9, ⟨[], .si .i64 ((M.n : Int) - 1 - (i : Int))⟩)], [], [(38, .cells 3 [.si .i64 M.k]), (39, .cells 42 [.sl 0]), (0, .ro 1 m fun i => [.si .u16 (v i)]), (42, .vec 51 2 M.n fun j => liC (M.L j)), (40, .cells 27 (grA 42 M.g)), (41, .cells 45 (c5 M.b.1 M.b.2.1 M.b.2.2.1 M.b.2.2.2.1 M.b.2.2.2.2))], 60, []⟩ _
  refine Br.mk (fun h => ?_) (fun h => ?_)
  · have h : (M.n : Int) - 1 - (i : Int) ≥ 0 := of_decide_eq_true h
    obtain ⟨j, hj⟩ : ∃ j : Nat, (M.n : Int) - 1 - (i : Int) = (j : Int) := ⟨((M.n : Int) - 1 - (i : Int)).toNat, by omega⟩
    have hjn : j < M.n := by omega
    rw [hj]
    refine Chk.mk (show (0 : Int) ≤ (j : Int) ∧ (j : Int) < (M.n : Int) by omega) ?_
    refine Chk.mk (fun _ => show (0 : Int) ≤ (j : Int) ∧ (j : Int) < (M.n : Int) by omega) ?_
    have hin : InK .i64 ((j : Int) - 1) := ⟨by show (-9223372036854775808 : Int) ≤ _; omega, by show _ ≤ (9223372036854775807 : Int); omega⟩
    refine Br.mk (fun h2 => ?_) (fun h2 => ?_)
    · have h2 : keepsP F (M.L j) = true := h2
      refine Chk.mk hin ?_
      refine ⟨⟨(i + 1, j), by simp only; omega, by simp only; omega, by simp only; omega, fun j' h3 h4 => by simp only at h3 h4; omega, fun _ => h2⟩, (fun j => j), ?_, by show M.n + 1 - (i + 1) < M.n + 1 - i; omega⟩
      refine ⟨?_, ?_, rfl, rfl, rfl, rfl, trivial⟩ <;> repeat' (first | exact trivial | exact rfl | (show (j : Int) - 1 = (M.n : Int) - 1 - ((i + 1 : Nat) : Int); omega) | (intro i hi; exact ⟨rfl, rfl⟩) | refine And.intro ?_ ?_)
    · have h2 : keepsP F (M.L j) = false := h2
      refine Chk.mk hin ?_
      refine ⟨⟨(i + 1, w), by simp only; omega, by simp only; omega, hw2, fun j' h3 h4 => ?_, hw4⟩, (fun j => j), ?_, by show M.n + 1 - (i + 1) < M.n + 1 - i; omega⟩
      · simp only at h3 h4
        rcases (show j' = j ∨ M.n - i ≤ j' by omega) with rfl | h5
        · exact h2
        · exact hw3 j' h5 h4
      refine ⟨?_, ?_, rfl, rfl, rfl, rfl, trivial⟩ <;> repeat' (first | exact trivial | exact rfl | (show (j : Int) - 1 = (M.n : Int) - 1 - ((i + 1 : Nat) : Int); omega) | (intro i hi; exact ⟨rfl, rfl⟩) | refine And.intro ?_ ?_)
  have h : ¬ (M.n : Int) - 1 - (i : Int) ≥ 0 := of_decide_eq_false h
  obtain rfl : i = M.n := by omega
  have hFb : F.1 ≤ 40 ∧ F.2 ≤ 40 := by
    rw [← hF2]
    obtain ⟨o0, o1, o2, o3, o4⟩ := hMo
    exact off_b o0 o1 o2 o3 o4
  have hown : ofL (lims3 LL) F = w := of_uniq hFb (by omega) (fun j hj => by rw [hLi j (by omega)]; exact hw3 j (by omega) hj) (fun h => by rw [hLi w (by omega)]; exact hw4 (by omega))

  have hlim : Lims M.n (fun i => liC (M.L i)) ∧ M.n ≤ 1000000 := ⟨lims_i _ _, by omega⟩
  refine Chk.mk hlim (Chk.mk hlim (Chk.mk hlim ?_))
  refine fb_weaken (st' := ⟨[(93, ⟨[], .fn (.func 89) [] [.sp 38 0, .sp 39 0]⟩), (96, ⟨[], .si .i64 (M.n : Int)⟩), (3, ⟨[], .fn (.func 89) [] [.sp 38 0, .sp 39 0]⟩), (4, ⟨[], .sp 40 0⟩), (5, ⟨[], .sp 41 0⟩), (6, ⟨[], .si .i64 F.1⟩), (7, ⟨[], .si .i64 F.2⟩), (8, ⟨[], .si .i64 (w : Int)⟩), (10, ⟨[], .sp 60 0⟩), (11, ⟨[], .si .i64 (errS varV M.g ((List.range M.n).map M.L) true)⟩), (12, ⟨[], .sp 61 0⟩), (13, ⟨[], .si .i64 (errS offV M.g ((List.range M.n).map M.L) true)⟩), (14, ⟨[], .si .i64 ((resG M.g ((List.range M.n).map M.L) true : Nat) : Int)⟩), (15, ⟨[], .si .i64 (errT M.g ((List.range M.n).map M.L) true)⟩)], [], [(38, .cells 3 [.si .i64 M.k]), (39, .cells 42 [.sl 0]), (0, .ro 1 m fun i => [.si .u16 (v i)]), (42, .vec 51 2 M.n fun j => liC (M.L j)), (40, .cells 27 (grA 42 M.g)), (41, .cells 45 (c5 M.b.1 M.b.2.1 M.b.2.2.1 M.b.2.2.2.1 M.b.2.2.2.2)), (60, .cells 24 [.si .i64 (resS varV M.g ((List.range M.n).map M.L) true).1, .si .i64 (resS varV M.g ((List.range M.n).map M.L) true).2]), (61, .cells 24 [.si .i64 (resS offV M.g ((List.range M.n).map M.L) true).1, .si .i64 (resS offV M.g ((List.range M.n).map M.L) true).2])], 70, []⟩) 1 (fun j => j) hG ?_ ?_
  · refine ⟨?_, ?_, rfl, rfl, rfl, rfl, trivial⟩ <;> repeat' (first | exact trivial | exact rfl | (intro i hi; exact ⟨rfl, rfl⟩) | refine And.intro ?_ ?_)
  refine fb_call (g.ok _ _ _) cont_std rfl rfl rfl rfl ⟨b89, draw_70 hm hv hk0 (by omega) (by omega) (by omega) ⟨rfl, rfl, rfl, trivial⟩ (fun d hd0 hd1 => ?_)⟩
  obtain ⟨q, rfl⟩ : ∃ q : Nat, d = (q : Int) := ⟨d.toNat, by omega⟩
  have hqn : q < M.n := by omega
  have hqL : q < LL.length := by omega
  refine Chk.mk hlim (Chk.mk hlim (Chk.mk hlim (Chk.mk hlim ?_)))
  have hh : hasB M.g = true := hasB_iff.2 ⟨M.b, hMb⟩
  have hT : errT M.g LL true = 0 := by rw [errT_ok hok, hh]; rfl
  have e1 : errS varV M.g LL true = 0 := by rw [errS_all]; exact hT
  have e2 : errS offV M.g LL true = 0 := by rw [errS_all]; exact hT
  have e3 : errT M.g LL (isG LL (q : Int)) = 0 := by rw [isG_ok hqL]; exact hT
  obtain ⟨z, z1, z2, z3, z4, z5⟩ := bestA_ok (fun q => askV (lims3 LL) q M.g)
  have e4 : resA M.g LL = (z, ((mostI M.g LL z : Nat) : Int), 0) := by
    rw [resA, if_pos hT, z1, z4, ask_most hok ⟨z2, z3⟩]
  have e5 : (resC M.g LL).2.2 = 4 := by rw [resC_ok hok, (clashV_none (gradeOk_o hok)).2 hh]
  have rV : resS varV M.g LL true = vSpan (spanG varV M.g) := resS_ok hok
  have rO : resS offV M.g LL true = vSpan (spanG offV M.g) := resS_ok hok
  have rG : resG M.g LL true = setV (lims3 LL) M.g := resG_ok hok hh
  have rU : resU M.g LL q = sureV (setV (lims3 LL) M.g) (upTo (q : Int)) := resU_ok hok hh hqL
  have hSb : (setV (lims3 LL) M.g).testBit w = true := setV_bit.2 ⟨M.b, hMb, by rw [hF2]; exact hown⟩
  have hS32 : setV (lims3 LL) M.g < 32 := setV_lt hb (by omega)
  have hSn : setV (lims3 LL) M.g < 2 ^ (M.n + 1) := by
    rw [← hlen]
    exact gradesN_lt fun f hf => by
      obtain ⟨y, hy, rfl⟩ := List.mem_map.1 hf
      exact ofL_lt (face_b hb y hy)
  have hin : InK .i64 ((resG M.g ((List.range M.n).map M.L) true : Nat) : Int) := by
    rw [hLL, rG]
    exact ⟨by show (-9223372036854775808 : Int) ≤ _; omega, by show _ ≤ (9223372036854775807 : Int); omega⟩
  have hsh : InK .i64 (((resG M.g ((List.range M.n).map M.L) true : Nat) : Int).fdiv (2 ^ (w : Int).toNat)) ∧ 0 ≤ ((resG M.g ((List.range M.n).map M.L) true : Nat) : Int).fdiv (2 ^ (w : Int).toNat) := by
    rw [hLL, rG]
    exact shr_b hS32
  refine Chk.mk (fun _ => show (0 : Int) ≤ (w : Int) ∧ (w : Int).toNat ≤ 64 from by omega) ?_
  refine Chk.mk (fun _ => show (0 : Int) ≤ ((resG M.g ((List.range M.n).map M.L) true : Nat) : Int).fdiv (2 ^ (w : Int).toNat) ∧ (0 : Int) ≤ 1 ∧ InK .i64 (((resG M.g ((List.range M.n).map M.L) true : Nat) : Int).fdiv (2 ^ (w : Int).toNat)) ∧ InK .i64 1 from ⟨hsh.2, by decide, hsh.1, by decide, by decide⟩) ?_
  refine Chk.mk (fun _ => show InK .i64 ((M.n : Int) + 1) from ⟨by show (-9223372036854775808 : Int) ≤ _; omega, by show _ ≤ (9223372036854775807 : Int); omega⟩) ?_
  refine Chk.mk (fun _ => show (0 : Int) ≤ (M.n : Int) + 1 ∧ ((M.n : Int) + 1).toNat ≤ 64 from by omega) ?_
  have hofq : ofL (lims3 LL) (lk5 lkP M.b) = w := by rw [hF2]; exact hown
  obtain ⟨su2, su0, _, _⟩ := sureV_cases (L := lims3 LL) hh q
  refine Br.mk (fun h2 => ?_) (fun _ => ?_)
  · have h2 : (((((((((((!decide (errS varV M.g ((List.range M.n).map M.L) true = 0) || !decide (errS offV M.g ((List.range M.n).map M.L) true = 0)) || !decide (errT M.g ((List.range M.n).map M.L) true = 0)) || !decide (errT M.g ((List.range M.n).map M.L) (isG ((List.range M.n).map M.L) (q : Int)) = 0)) || !decide ((resA M.g ((List.range M.n).map M.L)).2.2 = 0)) || !decide ((resC M.g ((List.range M.n).map M.L)).2.2 = 4)) || !inB F.2 (resS varV M.g ((List.range M.n).map M.L) true).1 (resS varV M.g ((List.range M.n).map M.L) true).2) || !inB F.1 (resS offV M.g ((List.range M.n).map M.L) true).1 (resS offV M.g ((List.range M.n).map M.L) true).2) || !decide ((((((resG M.g ((List.range M.n).map M.L) true : Nat) : Int).fdiv (2 ^ (w : Int).toNat)).toNat &&& (1 : Int).toNat : Nat) : Int) = 1)) || !decide (((resG M.g ((List.range M.n).map M.L) true : Nat) : Int).fdiv (2 ^ ((M.n : Int) + 1).toNat) = 0)) || (decide (resU M.g ((List.range M.n).map M.L) q = 2) && decide ((w : Int) > (q : Int)))) || (decide (resU M.g ((List.range M.n).map M.L) q = 0) && decide ((w : Int) ≤ (q : Int)))) = true := h2
    rw [hLL, e1, e2, hT, e3, e4, e5, rV, rO, rG, rU, shr_bit, hSb, fdiv_zero hSn] at h2
    have i1 := (vSpan_of (F := varV) hh).all _ hMb
    have i2 := (vSpan_of (F := offV) hh).all _ hMb
    rw [← lk5_2, hF2] at i1
    rw [← lk5_1, hF2] at i2
    rw [inB_true i1, inB_true i2] at h2
    have j1 : (decide (sureV (setV (lims3 LL) M.g) (upTo (q : Int)) = 2) && decide ((w : Int) > (q : Int))) = false := by
      by_cases hs : sureV (setV (lims3 LL) M.g) (upTo (q : Int)) = 2
      · have := su2.1 hs M.b hMb
        rw [decide_eq_false (show ¬ (w : Int) > (q : Int) by omega), Bool.and_false]
      · rw [decide_eq_false hs, Bool.false_and]
    have j2 : (decide (sureV (setV (lims3 LL) M.g) (upTo (q : Int)) = 0) && decide ((w : Int) ≤ (q : Int))) = false := by
      by_cases hs : sureV (setV (lims3 LL) M.g) (upTo (q : Int)) = 0
      · have := su0.1 hs M.b hMb
        rw [decide_eq_false (show ¬ (w : Int) ≤ (q : Int) by omega), Bool.and_false]
      · rw [decide_eq_false hs, Bool.false_and]
    rw [j1, j2] at h2
    cases h2

  refine loop_okR (g.ok _ _ _) 1 (fun x : {x : Nat // x ≤ 5} => ⟨[(4, ⟨[], .sp 40 0⟩), (5, ⟨[], .sp 41 0⟩), (8, ⟨[], .si .i64 (w : Int)⟩), (14, ⟨[], .si .i64 ((resG M.g ((List.range M.n).map M.L) true : Nat) : Int)⟩), (16, ⟨[], .si .i64 (q : Int)⟩), (17, ⟨[], .si .i64 (resU M.g ((List.range M.n).map M.L) q)⟩), (19, ⟨[], .si .i64 (resL M.g ((List.range M.n).map M.L) q).1⟩), (20, ⟨[], .si .i64 (resL M.g ((List.range M.n).map M.L) q).2⟩), (21, ⟨[], .si .i64 (resA M.g ((List.range M.n).map M.L)).1⟩), (22, ⟨[], .si .i64 (resA M.g ((List.range M.n).map M.L)).2.1⟩), (190, ⟨[], .agg (c5 M.b.1 M.b.2.1 M.b.2.2.1 M.b.2.2.2.1 M.b.2.2.2.2)⟩), (191, ⟨[], .si .i64 x.1⟩)], [], [(42, .vec 51 2 M.n fun j => liC (M.L j)), (40, .cells 27 (grA 42 M.g)), (41, .cells 45 (c5 M.b.1 M.b.2.1 M.b.2.2.1 M.b.2.2.2.1 M.b.2.2.2.2))], 80, []⟩) (fun x => 5 - x.1) hG ⟨0, Nat.zero_le _⟩ (fun j => j) ?_ ?_
  · refine ⟨?_, ?_, rfl, rfl, rfl, rfl, trivial⟩ <;> repeat' (first | exact trivial | exact rfl | (intro i hi; exact ⟨rfl, rfl⟩) | refine And.intro ?_ ?_)
  rintro ⟨i, hi5⟩
  rcases (show i = 0 ∨ i = 1 ∨ i = 2 ∨ i = 3 ∨ i = 4 ∨ i = 5 by omega) with rfl | rfl | rfl | rfl | rfl | rfl
  · refine Br.mk (fun _ => ?_) (fun h => by cases h)
    refine Chk.mk (bnd 0 5 rfl) ?_
    refine Chk.mk hlim ?_
    refine drawn_ok (g.ok _ _ _) fol [0,1,3,7,7,31,63,127,255,511,1023,511,511,6655,14847,31231,65535,131071,262143,524287,1048575,524287,524287,6815743,15204351,31981567,67108863,134217727] [] 28 (by kernel_rfl) ?_
    refine Chk.mk (under_of (bnd 0 5 rfl)) ?_
    refine Chk.mk (under_of (bnd 0 5 rfl)) ?_
    refine Br.mk (fun h2 => ?_) (fun _ => ?_)
    · have h2 : (((!decide (errS (ptV 0) M.g ((List.range M.n).map M.L) (inB 0 0 4) = 0) || !inB M.b.1 (resS (ptV 0) M.g ((List.range M.n).map M.L) (inB 0 0 4)).1 (resS (ptV 0) M.g ((List.range M.n).map M.L) (inB 0 0 4)).2) || decide ((resS (ptV 0) M.g ((List.range M.n).map M.L) (inB 0 0 4)).1 < M.g.l0)) || decide ((resS (ptV 0) M.g ((List.range M.n).map M.L) (inB 0 0 4)).2 > M.g.h0)) = true := h2
      have y1 : errS (ptV 0) M.g LL (inB 0 0 4) = 0 := by rw [errS_all]; exact hT
      have y2 : resS (ptV 0) M.g LL (inB 0 0 4) = vSpan (spanG (ptV 0) M.g) := resS_ok hok
      have so := vSpan_of (F := ptV 0) hh
      have y3 := so.all _ hMb
      obtain ⟨b1, hb1, f1⟩ := so.lo
      obtain ⟨b2, hb2, f2⟩ := so.hi
      have y4 : M.g.l0 ≤ fun5 (ptV 0) b1 := (okB_pt (q := 0) (by decide) hb1).1
      have y5 : fun5 (ptV 0) b2 ≤ M.g.h0 := (okB_pt (q := 0) (by decide) hb2).2
      rw [hLL, y1, y2, inB_true (n := M.b.1) y3, decide_eq_false (show ¬ (vSpan (spanG (ptV 0) M.g)).1 < M.g.l0 by omega), decide_eq_false (show ¬ (vSpan (spanG (ptV 0) M.g)).2 > M.g.h0 by omega)] at h2
      cases h2
    refine Chk.mk (ink1 0 rfl) ?_
    refine ⟨⟨1, by decide⟩, (fun j => j), ?_, by show 5 - 1 < 5 - 0; omega⟩
    refine ⟨?_, ?_, rfl, rfl, rfl, rfl, trivial⟩ <;> repeat' (first | exact trivial | exact rfl | (intro i hi; exact ⟨rfl, rfl⟩) | refine And.intro ?_ ?_)
  · refine Br.mk (fun _ => ?_) (fun h => by cases h)
    refine Chk.mk (bnd 1 5 rfl) ?_
    refine Chk.mk hlim ?_
    refine drawn_ok (g.ok _ _ _) fol [0,1,3,7,7,31,63,127,255,511,1023,511,511,6655,14847,31231,65535,131071,262143,524287,1048575,524287,524287,6815743,15204351,31981567,67108863,134217727] [] 28 (by kernel_rfl) ?_
    refine Chk.mk (under_of (bnd 1 5 rfl)) ?_
    refine Chk.mk (under_of (bnd 1 5 rfl)) ?_
    refine Br.mk (fun h2 => ?_) (fun _ => ?_)
    · have h2 : (((!decide (errS (ptV 1) M.g ((List.range M.n).map M.L) (inB 1 0 4) = 0) || !inB M.b.2.1 (resS (ptV 1) M.g ((List.range M.n).map M.L) (inB 1 0 4)).1 (resS (ptV 1) M.g ((List.range M.n).map M.L) (inB 1 0 4)).2) || decide ((resS (ptV 1) M.g ((List.range M.n).map M.L) (inB 1 0 4)).1 < M.g.l1)) || decide ((resS (ptV 1) M.g ((List.range M.n).map M.L) (inB 1 0 4)).2 > M.g.h1)) = true := h2
      have y1 : errS (ptV 1) M.g LL (inB 1 0 4) = 0 := by rw [errS_all]; exact hT
      have y2 : resS (ptV 1) M.g LL (inB 1 0 4) = vSpan (spanG (ptV 1) M.g) := resS_ok hok
      have so := vSpan_of (F := ptV 1) hh
      have y3 := so.all _ hMb
      obtain ⟨b1, hb1, f1⟩ := so.lo
      obtain ⟨b2, hb2, f2⟩ := so.hi
      have y4 : M.g.l1 ≤ fun5 (ptV 1) b1 := (okB_pt (q := 1) (by decide) hb1).1
      have y5 : fun5 (ptV 1) b2 ≤ M.g.h1 := (okB_pt (q := 1) (by decide) hb2).2
      rw [hLL, y1, y2, inB_true (n := M.b.2.1) y3, decide_eq_false (show ¬ (vSpan (spanG (ptV 1) M.g)).1 < M.g.l1 by omega), decide_eq_false (show ¬ (vSpan (spanG (ptV 1) M.g)).2 > M.g.h1 by omega)] at h2
      cases h2
    refine Chk.mk (ink1 1 rfl) ?_
    refine ⟨⟨2, by decide⟩, (fun j => j), ?_, by show 5 - 2 < 5 - 1; omega⟩
    refine ⟨?_, ?_, rfl, rfl, rfl, rfl, trivial⟩ <;> repeat' (first | exact trivial | exact rfl | (intro i hi; exact ⟨rfl, rfl⟩) | refine And.intro ?_ ?_)
  · refine Br.mk (fun _ => ?_) (fun h => by cases h)
    refine Chk.mk (bnd 2 5 rfl) ?_
    refine Chk.mk hlim ?_
    refine drawn_ok (g.ok _ _ _) fol [0,1,3,7,7,31,63,127,255,511,1023,511,511,6655,14847,31231,65535,131071,262143,524287,1048575,524287,524287,6815743,15204351,31981567,67108863,134217727] [] 28 (by kernel_rfl) ?_
    refine Chk.mk (under_of (bnd 2 5 rfl)) ?_
    refine Chk.mk (under_of (bnd 2 5 rfl)) ?_
    refine Br.mk (fun h2 => ?_) (fun _ => ?_)
    · have h2 : (((!decide (errS (ptV 2) M.g ((List.range M.n).map M.L) (inB 2 0 4) = 0) || !inB M.b.2.2.1 (resS (ptV 2) M.g ((List.range M.n).map M.L) (inB 2 0 4)).1 (resS (ptV 2) M.g ((List.range M.n).map M.L) (inB 2 0 4)).2) || decide ((resS (ptV 2) M.g ((List.range M.n).map M.L) (inB 2 0 4)).1 < M.g.l2)) || decide ((resS (ptV 2) M.g ((List.range M.n).map M.L) (inB 2 0 4)).2 > M.g.h2)) = true := h2
      have y1 : errS (ptV 2) M.g LL (inB 2 0 4) = 0 := by rw [errS_all]; exact hT
      have y2 : resS (ptV 2) M.g LL (inB 2 0 4) = vSpan (spanG (ptV 2) M.g) := resS_ok hok
      have so := vSpan_of (F := ptV 2) hh
      have y3 := so.all _ hMb
      obtain ⟨b1, hb1, f1⟩ := so.lo
      obtain ⟨b2, hb2, f2⟩ := so.hi
      have y4 : M.g.l2 ≤ fun5 (ptV 2) b1 := (okB_pt (q := 2) (by decide) hb1).1
      have y5 : fun5 (ptV 2) b2 ≤ M.g.h2 := (okB_pt (q := 2) (by decide) hb2).2
      rw [hLL, y1, y2, inB_true (n := M.b.2.2.1) y3, decide_eq_false (show ¬ (vSpan (spanG (ptV 2) M.g)).1 < M.g.l2 by omega), decide_eq_false (show ¬ (vSpan (spanG (ptV 2) M.g)).2 > M.g.h2 by omega)] at h2
      cases h2
    refine Chk.mk (ink1 2 rfl) ?_
    refine ⟨⟨3, by decide⟩, (fun j => j), ?_, by show 5 - 3 < 5 - 2; omega⟩
    refine ⟨?_, ?_, rfl, rfl, rfl, rfl, trivial⟩ <;> repeat' (first | exact trivial | exact rfl | (intro i hi; exact ⟨rfl, rfl⟩) | refine And.intro ?_ ?_)
  · refine Br.mk (fun _ => ?_) (fun h => by cases h)
    refine Chk.mk (bnd 3 5 rfl) ?_
    refine Chk.mk hlim ?_
    refine drawn_ok (g.ok _ _ _) fol [0,1,3,7,7,31,63,127,255,511,1023,511,511,6655,14847,31231,65535,131071,262143,524287,1048575,524287,524287,6815743,15204351,31981567,67108863,134217727] [] 28 (by kernel_rfl) ?_
    refine Chk.mk (under_of (bnd 3 5 rfl)) ?_
    refine Chk.mk (under_of (bnd 3 5 rfl)) ?_
    refine Br.mk (fun h2 => ?_) (fun _ => ?_)
    · have h2 : (((!decide (errS (ptV 3) M.g ((List.range M.n).map M.L) (inB 3 0 4) = 0) || !inB M.b.2.2.2.1 (resS (ptV 3) M.g ((List.range M.n).map M.L) (inB 3 0 4)).1 (resS (ptV 3) M.g ((List.range M.n).map M.L) (inB 3 0 4)).2) || decide ((resS (ptV 3) M.g ((List.range M.n).map M.L) (inB 3 0 4)).1 < M.g.l3)) || decide ((resS (ptV 3) M.g ((List.range M.n).map M.L) (inB 3 0 4)).2 > M.g.h3)) = true := h2
      have y1 : errS (ptV 3) M.g LL (inB 3 0 4) = 0 := by rw [errS_all]; exact hT
      have y2 : resS (ptV 3) M.g LL (inB 3 0 4) = vSpan (spanG (ptV 3) M.g) := resS_ok hok
      have so := vSpan_of (F := ptV 3) hh
      have y3 := so.all _ hMb
      obtain ⟨b1, hb1, f1⟩ := so.lo
      obtain ⟨b2, hb2, f2⟩ := so.hi
      have y4 : M.g.l3 ≤ fun5 (ptV 3) b1 := (okB_pt (q := 3) (by decide) hb1).1
      have y5 : fun5 (ptV 3) b2 ≤ M.g.h3 := (okB_pt (q := 3) (by decide) hb2).2
      rw [hLL, y1, y2, inB_true (n := M.b.2.2.2.1) y3, decide_eq_false (show ¬ (vSpan (spanG (ptV 3) M.g)).1 < M.g.l3 by omega), decide_eq_false (show ¬ (vSpan (spanG (ptV 3) M.g)).2 > M.g.h3 by omega)] at h2
      cases h2
    refine Chk.mk (ink1 3 rfl) ?_
    refine ⟨⟨4, by decide⟩, (fun j => j), ?_, by show 5 - 4 < 5 - 3; omega⟩
    refine ⟨?_, ?_, rfl, rfl, rfl, rfl, trivial⟩ <;> repeat' (first | exact trivial | exact rfl | (intro i hi; exact ⟨rfl, rfl⟩) | refine And.intro ?_ ?_)
  · refine Br.mk (fun _ => ?_) (fun h => by cases h)
    refine Chk.mk (bnd 4 5 rfl) ?_
    refine Chk.mk hlim ?_
    refine drawn_ok (g.ok _ _ _) fol [0,1,3,7,7,31,63,127,255,511,1023,511,511,6655,14847,31231,65535,131071,262143,524287,1048575,524287,524287,6815743,15204351,31981567,67108863,134217727] [] 28 (by kernel_rfl) ?_
    refine Chk.mk (under_of (bnd 4 5 rfl)) ?_
    refine Chk.mk (under_of (bnd 4 5 rfl)) ?_
    refine Br.mk (fun h2 => ?_) (fun _ => ?_)
    · have h2 : (((!decide (errS (ptV 4) M.g ((List.range M.n).map M.L) (inB 4 0 4) = 0) || !inB M.b.2.2.2.2 (resS (ptV 4) M.g ((List.range M.n).map M.L) (inB 4 0 4)).1 (resS (ptV 4) M.g ((List.range M.n).map M.L) (inB 4 0 4)).2) || decide ((resS (ptV 4) M.g ((List.range M.n).map M.L) (inB 4 0 4)).1 < M.g.l4)) || decide ((resS (ptV 4) M.g ((List.range M.n).map M.L) (inB 4 0 4)).2 > M.g.h4)) = true := h2
      have y1 : errS (ptV 4) M.g LL (inB 4 0 4) = 0 := by rw [errS_all]; exact hT
      have y2 : resS (ptV 4) M.g LL (inB 4 0 4) = vSpan (spanG (ptV 4) M.g) := resS_ok hok
      have so := vSpan_of (F := ptV 4) hh
      have y3 := so.all _ hMb
      obtain ⟨b1, hb1, f1⟩ := so.lo
      obtain ⟨b2, hb2, f2⟩ := so.hi
      have y4 : M.g.l4 ≤ fun5 (ptV 4) b1 := (okB_pt (q := 4) (by decide) hb1).1
      have y5 : fun5 (ptV 4) b2 ≤ M.g.h4 := (okB_pt (q := 4) (by decide) hb2).2
      rw [hLL, y1, y2, inB_true (n := M.b.2.2.2.2) y3, decide_eq_false (show ¬ (vSpan (spanG (ptV 4) M.g)).1 < M.g.l4 by omega), decide_eq_false (show ¬ (vSpan (spanG (ptV 4) M.g)).2 > M.g.h4 by omega)] at h2
      cases h2
    refine Chk.mk (ink1 4 rfl) ?_
    refine ⟨⟨5, by decide⟩, (fun j => j), ?_, by show 5 - 5 < 5 - 4; omega⟩
    refine ⟨?_, ?_, rfl, rfl, rfl, rfl, trivial⟩ <;> repeat' (first | exact trivial | exact rfl | (intro i hi; exact ⟨rfl, rfl⟩) | refine And.intro ?_ ?_)
  refine Br.mk (fun h => by cases h) (fun _ => ?_)

  have eA : (resA M.g ((List.range M.n).map M.L)).1 = z ∧ (resA M.g ((List.range M.n).map M.L)).2.1 = ((mostI M.g LL z : Nat) : Int) := by rw [hLL, e4]; exact ⟨rfl, rfl⟩
  have hR : resL M.g LL q = (match lapV M.g (LL.getD q (0, 0)) with
    | some j => (20 - (j : Int), 0)
    | none => (0, 4)) := resL_ok hok hh hqL
  rw [hLi q hqn] at hR
  have hnoz : (decide ((resA M.g ((List.range M.n).map M.L)).1 < 0) || decide ((resA M.g ((List.range M.n).map M.L)).1 ≥ 5)) = false := by
    rw [eA.1, decide_eq_false (show ¬ z < 0 by omega), decide_eq_false (show ¬ z ≥ 5 by omega)]
    rfl
  refine br_join (X := ⟨P, T, tabC [(14, c14), (15, c15), (17, spanE varV), (19, spanE offV), (21, c21), (23, c23), (25, c25), (27, c27), (29, c29), (33, c33), (35, c35), (36, c36), (37, c37), (38, c38)], G, none, Try.f6.ntmps⟩) (c := ?cc) (st1 := ?s1) (st2 := ?s2) (K := ?kk) (g.ok _ _ _) 1 hG ⟨[(4, ⟨[], .sp 40 0⟩), (5, ⟨[], .sp 41 0⟩), (8, ⟨[], .si .i64 (w : Int)⟩), (14, ⟨[], .si .i64 ((resG M.g ((List.range M.n).map M.L) true : Nat) : Int)⟩), (21, ⟨[], .si .i64 z⟩), (22, ⟨[], .si .i64 ((mostI M.g LL z : Nat) : Int)⟩)], [], [(42, .vec 51 2 M.n fun j => liC (M.L j)), (40, .cells 27 (grA 42 M.g)), (41, .cells 45 (c5 M.b.1 M.b.2.1 M.b.2.2.1 M.b.2.2.2.1 M.b.2.2.2.2))], 100, []⟩ (fun j => j) (fun j => j) (fun h hc => ?ha) (fun h hc => ?hb) (fun _ => ?w1) (fun _ => ?w2) ?hh
  case ha =>
    have h : decide ((resL M.g ((List.range M.n).map M.L) q).2 = 0) = true := h
    rw [hLL] at h
    obtain ⟨j, hj⟩ : ∃ j, lapV M.g (M.L q) = some j := by
      cases hl : lapV M.g (M.L q) with
      | some j => exact ⟨j, rfl⟩
      | none => rw [hl] at hR; rw [hR] at h; cases h
    rw [hj] at hR
    have hR : resL M.g LL q = (20 - (j : Int), 0) := hR
    obtain ⟨j41, hjl, _⟩ := lapV_is.1 hj
    have hRx : (resL M.g ((List.range M.n).map M.L) q).1 = 20 - (j : Int) := by rw [hLL, hR]
    refine Chk.mk ⟨hMo, by unfold okI; rw [hRx]; omega⟩ ?_
    refine Chk.mk (show (0 : Int) ≤ (q : Int) ∧ (q : Int) < (M.n : Int) by omega) ?_
    refine Chk.mk (fun _ => show (0 : Int) ≤ (q : Int) ∧ (q : Int) < (M.n : Int) by omega) ?_
    refine Br.mk (fun h2 => ?_) (fun _ => ?_)
    · have h2 : (decide ((lk5 (lkL (resL M.g ((List.range M.n).map M.L) q).1) M.b).1 > (M.L q).1) || decide ((lk5 (lkL (resL M.g ((List.range M.n).map M.L) q).1) M.b).2 > (M.L q).2)) = true := h2
      rw [hRx, Bool.or_eq_true, decide_eq_true_eq, decide_eq_true_eq] at h2
      have := lapB_iff.1 hjl M.b hMb
      omega
    refine Br.mk (fun h2 => ?_) (fun _ => ?_)
    · exact absurd (hnoz.symm.trans h2) (by decide)
    exact hc
  case hb =>
    have h : decide ((resL M.g ((List.range M.n).map M.L) q).2 = 0) = false := h
    rw [hLL] at h
    have hj : lapV M.g (M.L q) = none := by
      cases hl : lapV M.g (M.L q) with
      | none => rfl
      | some j => rw [hl] at hR; rw [hR] at h; cases h
    rw [hj] at hR
    have hR : resL M.g LL q = (0, 4) := hR
    refine Br.mk (fun h2 => ?_) (fun _ => ?_)
    · have h2 : (!decide ((resL M.g ((List.range M.n).map M.L) q).2 = 4) || decide (resU M.g ((List.range M.n).map M.L) q = 2)) = true := h2
      rw [hLL, hR, rU] at h2
      have h2 : sureV (setV (lims3 LL) M.g) (upTo (q : Int)) = 2 := by simpa using h2
      have hall := su2.1 h2
      have htop : lapB M.g 20 (M.L q) = true := lapB_iff.2 fun b hb' => by
        have := (of3_le (gradeOk_up hok).2.1 hqL).1 (hall b hb')
        rw [hLi q hqn] at this
        rw [lkL_top (ok5_of hb hb')]
        exact this
      have := lapV_no.1 hj 0 (by decide)
      rw [show (20 : Int) - ((0 : Nat) : Int) = 20 from rfl, htop] at this
      cases this
    refine Br.mk (fun h2 => ?_) (fun _ => ?_)
    · exact absurd (hnoz.symm.trans h2) (by decide)
    exact hc
  case w1 => refine ⟨?_, ?_, rfl, rfl, rfl, rfl, trivial⟩ <;> repeat' (first | exact trivial | exact rfl | exact eA.1 | exact eA.2 | (intro i hi; exact ⟨rfl, rfl⟩) | refine And.intro ?_ ?_)
  case w2 => refine ⟨?_, ?_, rfl, rfl, rfl, rfl, trivial⟩ <;> repeat' (first | exact trivial | exact rfl | exact eA.1 | exact eA.2 | (intro i hi; exact ⟨rfl, rfl⟩) | refine And.intro ?_ ?_)
  have hz := ask_most hok ⟨z2, z3⟩
  clear hR e4 eA hnoz
  rcases (show z = 0 ∨ z = 1 ∨ z = 2 ∨ z = 3 ∨ z = 4 by omega) with rfl | rfl | rfl | rfl | rfl
  · have hkp := okB_pt (q := 0) (by decide) hMb
    have hkp : loP M.g 0 ≤ M.b.1 ∧ M.b.1 ≤ hiP M.g 0 := hkp
    have hok' : gradeOk (atP M.g 0 M.b.1) LL = true := gradeOk_at hok (by decide) hkp
    have hMb' : OkB (atP M.g 0 M.b.1) M.b := (okB_at (by decide) hkp).2 ⟨hMb, rfl⟩
    have hh' : hasB (atP M.g 0 M.b.1) = true := hasB_iff.2 ⟨M.b, hMb'⟩
    have hT' : errT (atP M.g 0 M.b.1) LL true = 0 := by rw [errT_ok hok', hh']; rfl
    have rG' : resG (atP M.g 0 M.b.1) LL true = setV (lims3 LL) (atP M.g 0 M.b.1) := resG_ok hok' hh'
    have hS32' : setV (lims3 LL) (atP M.g 0 M.b.1) < 32 := setV_lt (gradeOk_b hok').1 (by omega)
    have hSb' : (setV (lims3 LL) (atP M.g 0 M.b.1)).testBit w = true := setV_bit.2 ⟨M.b, hMb', hofq⟩
    refine drawn_ok (g.ok _ _ _) fol [0,0,0,4,12,31,0,127] [(7, 124)] 8 (by kernel_rfl) ?_
    refine Chk.mk (bnd 0 5 rfl) ?_
    refine Chk.mk ⟨lims_i _ _, by decide, by decide⟩ ?_
    refine Chk.mk hlim ?_
    have hin' : InK .i64 ((resG (atP M.g 0 M.b.1) ((List.range M.n).map M.L) true : Nat) : Int) := by
      rw [hLL, rG']
      exact ⟨by show (-9223372036854775808 : Int) ≤ _; omega, by show _ ≤ (9223372036854775807 : Int); omega⟩
    have hsh' : InK .i64 (((resG (atP M.g 0 M.b.1) ((List.range M.n).map M.L) true : Nat) : Int).fdiv (2 ^ (w : Int).toNat)) ∧ 0 ≤ ((resG (atP M.g 0 M.b.1) ((List.range M.n).map M.L) true : Nat) : Int).fdiv (2 ^ (w : Int).toNat) := by
      rw [hLL, rG']
      exact shr_b hS32'
    refine Chk.mk (fun _ => show (0 : Int) ≤ (w : Int) ∧ (w : Int).toNat ≤ 64 from by omega) ?_
    refine Chk.mk (fun _ => show (0 : Int) ≤ ((resG (atP M.g 0 M.b.1) ((List.range M.n).map M.L) true : Nat) : Int).fdiv (2 ^ (w : Int).toNat) ∧ (0 : Int) ≤ 1 ∧ InK .i64 (((resG (atP M.g 0 M.b.1) ((List.range M.n).map M.L) true : Nat) : Int).fdiv (2 ^ (w : Int).toNat)) ∧ InK .i64 1 from ⟨hsh'.2, by decide, hsh'.1, by decide, by decide⟩) ?_
    refine Chk.mk (fun _ => show ((resG (atP M.g 0 M.b.1) ((List.range M.n).map M.L) true : Nat) : Int) < 4611686018427387904 from by rw [hLL, rG']; omega) ?_
    refine Chk.mk (fun _ => show (0 : Int) ≤ ((resG (atP M.g 0 M.b.1) ((List.range M.n).map M.L) true : Nat) : Int) ∧ (0 : Int) ≤ ((resG M.g ((List.range M.n).map M.L) true : Nat) : Int) ∧ InK .i64 ((resG (atP M.g 0 M.b.1) ((List.range M.n).map M.L) true : Nat) : Int) ∧ InK .i64 ((resG M.g ((List.range M.n).map M.L) true : Nat) : Int) from ⟨by omega, by omega, hin', hin⟩) ?_
    have hsub : (setV (lims3 LL) (atP M.g 0 M.b.1)) - ((setV (lims3 LL) (atP M.g 0 M.b.1)) &&& (setV (lims3 LL) M.g)) = 0 := by
      rw [sub_bits fun k hk' => by
        obtain ⟨b, hb', e⟩ := setV_bit.1 hk'
        exact setV_bit.2 ⟨b, ((okB_at (by decide) hkp).1 hb').1, e⟩]
      omega
    have hle : sizeN (setV (lims3 LL) (atP M.g 0 M.b.1)) ≤ mostI M.g LL 0 := by
      have := (foldMax (fun n => sizeN (resG (atP M.g 0 n) LL true)) (rangeI (loP M.g 0) (hiP M.g 0)) 0).2.1 _ (rangeI_mem.2 hkp)
      simp only [rG'] at this
      exact this
    exact ⟨.inl rfl, end_noid (by
      show ((((decide (errT (atP M.g 0 M.b.1) ((List.range M.n).map M.L) true = 0) && decide ((((((resG (atP M.g 0 M.b.1) ((List.range M.n).map M.L) true : Nat) : Int).fdiv (2 ^ (w : Int).toNat)).toNat &&& (1 : Int).toNat : Nat) : Int) = 1)) && decide (((sizeN ((resG (atP M.g 0 M.b.1) ((List.range M.n).map M.L) true : Nat) : Int).toNat : Nat) : Int) ≤ ((mostI M.g LL 0 : Nat) : Int))) && decide (((((resG (atP M.g 0 M.b.1) ((List.range M.n).map M.L) true : Nat) : Int).toNat - (((resG (atP M.g 0 M.b.1) ((List.range M.n).map M.L) true : Nat) : Int).toNat &&& ((resG M.g ((List.range M.n).map M.L) true : Nat) : Int).toNat) : Nat) : Int) = 0)) && true) = true
      rw [hLL, hT', rG', rG, shr_bit, hSb', Int.toNat_natCast, Int.toNat_natCast, hsub, decide_eq_true (show ((sizeN (setV (lims3 LL) (atP M.g 0 M.b.1)) : Nat) : Int) ≤ ((mostI M.g LL 0 : Nat) : Int) by omega)]
      rfl) rfl rfl (by repeat' (first | exact trivial | exact rfl | (intro i hi; exact ⟨rfl, rfl⟩) | refine And.intro ?_ ?_))⟩
  · have hkp := okB_pt (q := 1) (by decide) hMb
    have hkp : loP M.g 1 ≤ M.b.2.1 ∧ M.b.2.1 ≤ hiP M.g 1 := hkp
    have hok' : gradeOk (atP M.g 1 M.b.2.1) LL = true := gradeOk_at hok (by decide) hkp
    have hMb' : OkB (atP M.g 1 M.b.2.1) M.b := (okB_at (by decide) hkp).2 ⟨hMb, rfl⟩
    have hh' : hasB (atP M.g 1 M.b.2.1) = true := hasB_iff.2 ⟨M.b, hMb'⟩
    have hT' : errT (atP M.g 1 M.b.2.1) LL true = 0 := by rw [errT_ok hok', hh']; rfl
    have rG' : resG (atP M.g 1 M.b.2.1) LL true = setV (lims3 LL) (atP M.g 1 M.b.2.1) := resG_ok hok' hh'
    have hS32' : setV (lims3 LL) (atP M.g 1 M.b.2.1) < 32 := setV_lt (gradeOk_b hok').1 (by omega)
    have hSb' : (setV (lims3 LL) (atP M.g 1 M.b.2.1)).testBit w = true := setV_bit.2 ⟨M.b, hMb', hofq⟩
    refine drawn_ok (g.ok _ _ _) fol [0,0,0,4,12,31,0,127] [(7, 124)] 8 (by kernel_rfl) ?_
    refine Chk.mk (bnd 1 5 rfl) ?_
    refine Chk.mk ⟨lims_i _ _, by decide, by decide⟩ ?_
    refine Chk.mk hlim ?_
    have hin' : InK .i64 ((resG (atP M.g 1 M.b.2.1) ((List.range M.n).map M.L) true : Nat) : Int) := by
      rw [hLL, rG']
      exact ⟨by show (-9223372036854775808 : Int) ≤ _; omega, by show _ ≤ (9223372036854775807 : Int); omega⟩
    have hsh' : InK .i64 (((resG (atP M.g 1 M.b.2.1) ((List.range M.n).map M.L) true : Nat) : Int).fdiv (2 ^ (w : Int).toNat)) ∧ 0 ≤ ((resG (atP M.g 1 M.b.2.1) ((List.range M.n).map M.L) true : Nat) : Int).fdiv (2 ^ (w : Int).toNat) := by
      rw [hLL, rG']
      exact shr_b hS32'
    refine Chk.mk (fun _ => show (0 : Int) ≤ (w : Int) ∧ (w : Int).toNat ≤ 64 from by omega) ?_
    refine Chk.mk (fun _ => show (0 : Int) ≤ ((resG (atP M.g 1 M.b.2.1) ((List.range M.n).map M.L) true : Nat) : Int).fdiv (2 ^ (w : Int).toNat) ∧ (0 : Int) ≤ 1 ∧ InK .i64 (((resG (atP M.g 1 M.b.2.1) ((List.range M.n).map M.L) true : Nat) : Int).fdiv (2 ^ (w : Int).toNat)) ∧ InK .i64 1 from ⟨hsh'.2, by decide, hsh'.1, by decide, by decide⟩) ?_
    refine Chk.mk (fun _ => show ((resG (atP M.g 1 M.b.2.1) ((List.range M.n).map M.L) true : Nat) : Int) < 4611686018427387904 from by rw [hLL, rG']; omega) ?_
    refine Chk.mk (fun _ => show (0 : Int) ≤ ((resG (atP M.g 1 M.b.2.1) ((List.range M.n).map M.L) true : Nat) : Int) ∧ (0 : Int) ≤ ((resG M.g ((List.range M.n).map M.L) true : Nat) : Int) ∧ InK .i64 ((resG (atP M.g 1 M.b.2.1) ((List.range M.n).map M.L) true : Nat) : Int) ∧ InK .i64 ((resG M.g ((List.range M.n).map M.L) true : Nat) : Int) from ⟨by omega, by omega, hin', hin⟩) ?_
    have hsub : (setV (lims3 LL) (atP M.g 1 M.b.2.1)) - ((setV (lims3 LL) (atP M.g 1 M.b.2.1)) &&& (setV (lims3 LL) M.g)) = 0 := by
      rw [sub_bits fun k hk' => by
        obtain ⟨b, hb', e⟩ := setV_bit.1 hk'
        exact setV_bit.2 ⟨b, ((okB_at (by decide) hkp).1 hb').1, e⟩]
      omega
    have hle : sizeN (setV (lims3 LL) (atP M.g 1 M.b.2.1)) ≤ mostI M.g LL 1 := by
      have := (foldMax (fun n => sizeN (resG (atP M.g 1 n) LL true)) (rangeI (loP M.g 1) (hiP M.g 1)) 0).2.1 _ (rangeI_mem.2 hkp)
      simp only [rG'] at this
      exact this
    exact ⟨.inl rfl, end_noid (by
      show ((((decide (errT (atP M.g 1 M.b.2.1) ((List.range M.n).map M.L) true = 0) && decide ((((((resG (atP M.g 1 M.b.2.1) ((List.range M.n).map M.L) true : Nat) : Int).fdiv (2 ^ (w : Int).toNat)).toNat &&& (1 : Int).toNat : Nat) : Int) = 1)) && decide (((sizeN ((resG (atP M.g 1 M.b.2.1) ((List.range M.n).map M.L) true : Nat) : Int).toNat : Nat) : Int) ≤ ((mostI M.g LL 1 : Nat) : Int))) && decide (((((resG (atP M.g 1 M.b.2.1) ((List.range M.n).map M.L) true : Nat) : Int).toNat - (((resG (atP M.g 1 M.b.2.1) ((List.range M.n).map M.L) true : Nat) : Int).toNat &&& ((resG M.g ((List.range M.n).map M.L) true : Nat) : Int).toNat) : Nat) : Int) = 0)) && true) = true
      rw [hLL, hT', rG', rG, shr_bit, hSb', Int.toNat_natCast, Int.toNat_natCast, hsub, decide_eq_true (show ((sizeN (setV (lims3 LL) (atP M.g 1 M.b.2.1)) : Nat) : Int) ≤ ((mostI M.g LL 1 : Nat) : Int) by omega)]
      rfl) rfl rfl (by repeat' (first | exact trivial | exact rfl | (intro i hi; exact ⟨rfl, rfl⟩) | refine And.intro ?_ ?_))⟩
  · have hkp := okB_pt (q := 2) (by decide) hMb
    have hkp : loP M.g 2 ≤ M.b.2.2.1 ∧ M.b.2.2.1 ≤ hiP M.g 2 := hkp
    have hok' : gradeOk (atP M.g 2 M.b.2.2.1) LL = true := gradeOk_at hok (by decide) hkp
    have hMb' : OkB (atP M.g 2 M.b.2.2.1) M.b := (okB_at (by decide) hkp).2 ⟨hMb, rfl⟩
    have hh' : hasB (atP M.g 2 M.b.2.2.1) = true := hasB_iff.2 ⟨M.b, hMb'⟩
    have hT' : errT (atP M.g 2 M.b.2.2.1) LL true = 0 := by rw [errT_ok hok', hh']; rfl
    have rG' : resG (atP M.g 2 M.b.2.2.1) LL true = setV (lims3 LL) (atP M.g 2 M.b.2.2.1) := resG_ok hok' hh'
    have hS32' : setV (lims3 LL) (atP M.g 2 M.b.2.2.1) < 32 := setV_lt (gradeOk_b hok').1 (by omega)
    have hSb' : (setV (lims3 LL) (atP M.g 2 M.b.2.2.1)).testBit w = true := setV_bit.2 ⟨M.b, hMb', hofq⟩
    refine drawn_ok (g.ok _ _ _) fol [0,0,0,4,12,31,0,127] [(7, 124)] 8 (by kernel_rfl) ?_
    refine Chk.mk (bnd 2 5 rfl) ?_
    refine Chk.mk ⟨lims_i _ _, by decide, by decide⟩ ?_
    refine Chk.mk hlim ?_
    have hin' : InK .i64 ((resG (atP M.g 2 M.b.2.2.1) ((List.range M.n).map M.L) true : Nat) : Int) := by
      rw [hLL, rG']
      exact ⟨by show (-9223372036854775808 : Int) ≤ _; omega, by show _ ≤ (9223372036854775807 : Int); omega⟩
    have hsh' : InK .i64 (((resG (atP M.g 2 M.b.2.2.1) ((List.range M.n).map M.L) true : Nat) : Int).fdiv (2 ^ (w : Int).toNat)) ∧ 0 ≤ ((resG (atP M.g 2 M.b.2.2.1) ((List.range M.n).map M.L) true : Nat) : Int).fdiv (2 ^ (w : Int).toNat) := by
      rw [hLL, rG']
      exact shr_b hS32'
    refine Chk.mk (fun _ => show (0 : Int) ≤ (w : Int) ∧ (w : Int).toNat ≤ 64 from by omega) ?_
    refine Chk.mk (fun _ => show (0 : Int) ≤ ((resG (atP M.g 2 M.b.2.2.1) ((List.range M.n).map M.L) true : Nat) : Int).fdiv (2 ^ (w : Int).toNat) ∧ (0 : Int) ≤ 1 ∧ InK .i64 (((resG (atP M.g 2 M.b.2.2.1) ((List.range M.n).map M.L) true : Nat) : Int).fdiv (2 ^ (w : Int).toNat)) ∧ InK .i64 1 from ⟨hsh'.2, by decide, hsh'.1, by decide, by decide⟩) ?_
    refine Chk.mk (fun _ => show ((resG (atP M.g 2 M.b.2.2.1) ((List.range M.n).map M.L) true : Nat) : Int) < 4611686018427387904 from by rw [hLL, rG']; omega) ?_
    refine Chk.mk (fun _ => show (0 : Int) ≤ ((resG (atP M.g 2 M.b.2.2.1) ((List.range M.n).map M.L) true : Nat) : Int) ∧ (0 : Int) ≤ ((resG M.g ((List.range M.n).map M.L) true : Nat) : Int) ∧ InK .i64 ((resG (atP M.g 2 M.b.2.2.1) ((List.range M.n).map M.L) true : Nat) : Int) ∧ InK .i64 ((resG M.g ((List.range M.n).map M.L) true : Nat) : Int) from ⟨by omega, by omega, hin', hin⟩) ?_
    have hsub : (setV (lims3 LL) (atP M.g 2 M.b.2.2.1)) - ((setV (lims3 LL) (atP M.g 2 M.b.2.2.1)) &&& (setV (lims3 LL) M.g)) = 0 := by
      rw [sub_bits fun k hk' => by
        obtain ⟨b, hb', e⟩ := setV_bit.1 hk'
        exact setV_bit.2 ⟨b, ((okB_at (by decide) hkp).1 hb').1, e⟩]
      omega
    have hle : sizeN (setV (lims3 LL) (atP M.g 2 M.b.2.2.1)) ≤ mostI M.g LL 2 := by
      have := (foldMax (fun n => sizeN (resG (atP M.g 2 n) LL true)) (rangeI (loP M.g 2) (hiP M.g 2)) 0).2.1 _ (rangeI_mem.2 hkp)
      simp only [rG'] at this
      exact this
    exact ⟨.inl rfl, end_noid (by
      show ((((decide (errT (atP M.g 2 M.b.2.2.1) ((List.range M.n).map M.L) true = 0) && decide ((((((resG (atP M.g 2 M.b.2.2.1) ((List.range M.n).map M.L) true : Nat) : Int).fdiv (2 ^ (w : Int).toNat)).toNat &&& (1 : Int).toNat : Nat) : Int) = 1)) && decide (((sizeN ((resG (atP M.g 2 M.b.2.2.1) ((List.range M.n).map M.L) true : Nat) : Int).toNat : Nat) : Int) ≤ ((mostI M.g LL 2 : Nat) : Int))) && decide (((((resG (atP M.g 2 M.b.2.2.1) ((List.range M.n).map M.L) true : Nat) : Int).toNat - (((resG (atP M.g 2 M.b.2.2.1) ((List.range M.n).map M.L) true : Nat) : Int).toNat &&& ((resG M.g ((List.range M.n).map M.L) true : Nat) : Int).toNat) : Nat) : Int) = 0)) && true) = true
      rw [hLL, hT', rG', rG, shr_bit, hSb', Int.toNat_natCast, Int.toNat_natCast, hsub, decide_eq_true (show ((sizeN (setV (lims3 LL) (atP M.g 2 M.b.2.2.1)) : Nat) : Int) ≤ ((mostI M.g LL 2 : Nat) : Int) by omega)]
      rfl) rfl rfl (by repeat' (first | exact trivial | exact rfl | (intro i hi; exact ⟨rfl, rfl⟩) | refine And.intro ?_ ?_))⟩
  · have hkp := okB_pt (q := 3) (by decide) hMb
    have hkp : loP M.g 3 ≤ M.b.2.2.2.1 ∧ M.b.2.2.2.1 ≤ hiP M.g 3 := hkp
    have hok' : gradeOk (atP M.g 3 M.b.2.2.2.1) LL = true := gradeOk_at hok (by decide) hkp
    have hMb' : OkB (atP M.g 3 M.b.2.2.2.1) M.b := (okB_at (by decide) hkp).2 ⟨hMb, rfl⟩
    have hh' : hasB (atP M.g 3 M.b.2.2.2.1) = true := hasB_iff.2 ⟨M.b, hMb'⟩
    have hT' : errT (atP M.g 3 M.b.2.2.2.1) LL true = 0 := by rw [errT_ok hok', hh']; rfl
    have rG' : resG (atP M.g 3 M.b.2.2.2.1) LL true = setV (lims3 LL) (atP M.g 3 M.b.2.2.2.1) := resG_ok hok' hh'
    have hS32' : setV (lims3 LL) (atP M.g 3 M.b.2.2.2.1) < 32 := setV_lt (gradeOk_b hok').1 (by omega)
    have hSb' : (setV (lims3 LL) (atP M.g 3 M.b.2.2.2.1)).testBit w = true := setV_bit.2 ⟨M.b, hMb', hofq⟩
    refine drawn_ok (g.ok _ _ _) fol [0,0,0,4,12,31,0,127] [(7, 124)] 8 (by kernel_rfl) ?_
    refine Chk.mk (bnd 3 5 rfl) ?_
    refine Chk.mk ⟨lims_i _ _, by decide, by decide⟩ ?_
    refine Chk.mk hlim ?_
    have hin' : InK .i64 ((resG (atP M.g 3 M.b.2.2.2.1) ((List.range M.n).map M.L) true : Nat) : Int) := by
      rw [hLL, rG']
      exact ⟨by show (-9223372036854775808 : Int) ≤ _; omega, by show _ ≤ (9223372036854775807 : Int); omega⟩
    have hsh' : InK .i64 (((resG (atP M.g 3 M.b.2.2.2.1) ((List.range M.n).map M.L) true : Nat) : Int).fdiv (2 ^ (w : Int).toNat)) ∧ 0 ≤ ((resG (atP M.g 3 M.b.2.2.2.1) ((List.range M.n).map M.L) true : Nat) : Int).fdiv (2 ^ (w : Int).toNat) := by
      rw [hLL, rG']
      exact shr_b hS32'
    refine Chk.mk (fun _ => show (0 : Int) ≤ (w : Int) ∧ (w : Int).toNat ≤ 64 from by omega) ?_
    refine Chk.mk (fun _ => show (0 : Int) ≤ ((resG (atP M.g 3 M.b.2.2.2.1) ((List.range M.n).map M.L) true : Nat) : Int).fdiv (2 ^ (w : Int).toNat) ∧ (0 : Int) ≤ 1 ∧ InK .i64 (((resG (atP M.g 3 M.b.2.2.2.1) ((List.range M.n).map M.L) true : Nat) : Int).fdiv (2 ^ (w : Int).toNat)) ∧ InK .i64 1 from ⟨hsh'.2, by decide, hsh'.1, by decide, by decide⟩) ?_
    refine Chk.mk (fun _ => show ((resG (atP M.g 3 M.b.2.2.2.1) ((List.range M.n).map M.L) true : Nat) : Int) < 4611686018427387904 from by rw [hLL, rG']; omega) ?_
    refine Chk.mk (fun _ => show (0 : Int) ≤ ((resG (atP M.g 3 M.b.2.2.2.1) ((List.range M.n).map M.L) true : Nat) : Int) ∧ (0 : Int) ≤ ((resG M.g ((List.range M.n).map M.L) true : Nat) : Int) ∧ InK .i64 ((resG (atP M.g 3 M.b.2.2.2.1) ((List.range M.n).map M.L) true : Nat) : Int) ∧ InK .i64 ((resG M.g ((List.range M.n).map M.L) true : Nat) : Int) from ⟨by omega, by omega, hin', hin⟩) ?_
    have hsub : (setV (lims3 LL) (atP M.g 3 M.b.2.2.2.1)) - ((setV (lims3 LL) (atP M.g 3 M.b.2.2.2.1)) &&& (setV (lims3 LL) M.g)) = 0 := by
      rw [sub_bits fun k hk' => by
        obtain ⟨b, hb', e⟩ := setV_bit.1 hk'
        exact setV_bit.2 ⟨b, ((okB_at (by decide) hkp).1 hb').1, e⟩]
      omega
    have hle : sizeN (setV (lims3 LL) (atP M.g 3 M.b.2.2.2.1)) ≤ mostI M.g LL 3 := by
      have := (foldMax (fun n => sizeN (resG (atP M.g 3 n) LL true)) (rangeI (loP M.g 3) (hiP M.g 3)) 0).2.1 _ (rangeI_mem.2 hkp)
      simp only [rG'] at this
      exact this
    exact ⟨.inl rfl, end_noid (by
      show ((((decide (errT (atP M.g 3 M.b.2.2.2.1) ((List.range M.n).map M.L) true = 0) && decide ((((((resG (atP M.g 3 M.b.2.2.2.1) ((List.range M.n).map M.L) true : Nat) : Int).fdiv (2 ^ (w : Int).toNat)).toNat &&& (1 : Int).toNat : Nat) : Int) = 1)) && decide (((sizeN ((resG (atP M.g 3 M.b.2.2.2.1) ((List.range M.n).map M.L) true : Nat) : Int).toNat : Nat) : Int) ≤ ((mostI M.g LL 3 : Nat) : Int))) && decide (((((resG (atP M.g 3 M.b.2.2.2.1) ((List.range M.n).map M.L) true : Nat) : Int).toNat - (((resG (atP M.g 3 M.b.2.2.2.1) ((List.range M.n).map M.L) true : Nat) : Int).toNat &&& ((resG M.g ((List.range M.n).map M.L) true : Nat) : Int).toNat) : Nat) : Int) = 0)) && true) = true
      rw [hLL, hT', rG', rG, shr_bit, hSb', Int.toNat_natCast, Int.toNat_natCast, hsub, decide_eq_true (show ((sizeN (setV (lims3 LL) (atP M.g 3 M.b.2.2.2.1)) : Nat) : Int) ≤ ((mostI M.g LL 3 : Nat) : Int) by omega)]
      rfl) rfl rfl (by repeat' (first | exact trivial | exact rfl | (intro i hi; exact ⟨rfl, rfl⟩) | refine And.intro ?_ ?_))⟩
  · have hkp := okB_pt (q := 4) (by decide) hMb
    have hkp : loP M.g 4 ≤ M.b.2.2.2.2 ∧ M.b.2.2.2.2 ≤ hiP M.g 4 := hkp
    have hok' : gradeOk (atP M.g 4 M.b.2.2.2.2) LL = true := gradeOk_at hok (by decide) hkp
    have hMb' : OkB (atP M.g 4 M.b.2.2.2.2) M.b := (okB_at (by decide) hkp).2 ⟨hMb, rfl⟩
    have hh' : hasB (atP M.g 4 M.b.2.2.2.2) = true := hasB_iff.2 ⟨M.b, hMb'⟩
    have hT' : errT (atP M.g 4 M.b.2.2.2.2) LL true = 0 := by rw [errT_ok hok', hh']; rfl
    have rG' : resG (atP M.g 4 M.b.2.2.2.2) LL true = setV (lims3 LL) (atP M.g 4 M.b.2.2.2.2) := resG_ok hok' hh'
    have hS32' : setV (lims3 LL) (atP M.g 4 M.b.2.2.2.2) < 32 := setV_lt (gradeOk_b hok').1 (by omega)
    have hSb' : (setV (lims3 LL) (atP M.g 4 M.b.2.2.2.2)).testBit w = true := setV_bit.2 ⟨M.b, hMb', hofq⟩
    refine drawn_ok (g.ok _ _ _) fol [0,0,0,4,12,31,0,127] [(7, 124)] 8 (by kernel_rfl) ?_
    refine Chk.mk (bnd 4 5 rfl) ?_
    refine Chk.mk ⟨lims_i _ _, by decide, by decide⟩ ?_
    refine Chk.mk hlim ?_
    have hin' : InK .i64 ((resG (atP M.g 4 M.b.2.2.2.2) ((List.range M.n).map M.L) true : Nat) : Int) := by
      rw [hLL, rG']
      exact ⟨by show (-9223372036854775808 : Int) ≤ _; omega, by show _ ≤ (9223372036854775807 : Int); omega⟩
    have hsh' : InK .i64 (((resG (atP M.g 4 M.b.2.2.2.2) ((List.range M.n).map M.L) true : Nat) : Int).fdiv (2 ^ (w : Int).toNat)) ∧ 0 ≤ ((resG (atP M.g 4 M.b.2.2.2.2) ((List.range M.n).map M.L) true : Nat) : Int).fdiv (2 ^ (w : Int).toNat) := by
      rw [hLL, rG']
      exact shr_b hS32'
    refine Chk.mk (fun _ => show (0 : Int) ≤ (w : Int) ∧ (w : Int).toNat ≤ 64 from by omega) ?_
    refine Chk.mk (fun _ => show (0 : Int) ≤ ((resG (atP M.g 4 M.b.2.2.2.2) ((List.range M.n).map M.L) true : Nat) : Int).fdiv (2 ^ (w : Int).toNat) ∧ (0 : Int) ≤ 1 ∧ InK .i64 (((resG (atP M.g 4 M.b.2.2.2.2) ((List.range M.n).map M.L) true : Nat) : Int).fdiv (2 ^ (w : Int).toNat)) ∧ InK .i64 1 from ⟨hsh'.2, by decide, hsh'.1, by decide, by decide⟩) ?_
    refine Chk.mk (fun _ => show ((resG (atP M.g 4 M.b.2.2.2.2) ((List.range M.n).map M.L) true : Nat) : Int) < 4611686018427387904 from by rw [hLL, rG']; omega) ?_
    refine Chk.mk (fun _ => show (0 : Int) ≤ ((resG (atP M.g 4 M.b.2.2.2.2) ((List.range M.n).map M.L) true : Nat) : Int) ∧ (0 : Int) ≤ ((resG M.g ((List.range M.n).map M.L) true : Nat) : Int) ∧ InK .i64 ((resG (atP M.g 4 M.b.2.2.2.2) ((List.range M.n).map M.L) true : Nat) : Int) ∧ InK .i64 ((resG M.g ((List.range M.n).map M.L) true : Nat) : Int) from ⟨by omega, by omega, hin', hin⟩) ?_
    have hsub : (setV (lims3 LL) (atP M.g 4 M.b.2.2.2.2)) - ((setV (lims3 LL) (atP M.g 4 M.b.2.2.2.2)) &&& (setV (lims3 LL) M.g)) = 0 := by
      rw [sub_bits fun k hk' => by
        obtain ⟨b, hb', e⟩ := setV_bit.1 hk'
        exact setV_bit.2 ⟨b, ((okB_at (by decide) hkp).1 hb').1, e⟩]
      omega
    have hle : sizeN (setV (lims3 LL) (atP M.g 4 M.b.2.2.2.2)) ≤ mostI M.g LL 4 := by
      have := (foldMax (fun n => sizeN (resG (atP M.g 4 n) LL true)) (rangeI (loP M.g 4) (hiP M.g 4)) 0).2.1 _ (rangeI_mem.2 hkp)
      simp only [rG'] at this
      exact this
    exact ⟨.inl rfl, end_noid (by
      show ((((decide (errT (atP M.g 4 M.b.2.2.2.2) ((List.range M.n).map M.L) true = 0) && decide ((((((resG (atP M.g 4 M.b.2.2.2.2) ((List.range M.n).map M.L) true : Nat) : Int).fdiv (2 ^ (w : Int).toNat)).toNat &&& (1 : Int).toNat : Nat) : Int) = 1)) && decide (((sizeN ((resG (atP M.g 4 M.b.2.2.2.2) ((List.range M.n).map M.L) true : Nat) : Int).toNat : Nat) : Int) ≤ ((mostI M.g LL 4 : Nat) : Int))) && decide (((((resG (atP M.g 4 M.b.2.2.2.2) ((List.range M.n).map M.L) true : Nat) : Int).toNat - (((resG (atP M.g 4 M.b.2.2.2.2) ((List.range M.n).map M.L) true : Nat) : Int).toNat &&& ((resG M.g ((List.range M.n).map M.L) true : Nat) : Int).toNat) : Nat) : Int) = 0)) && true) = true
      rw [hLL, hT', rG', rG, shr_bit, hSb', Int.toNat_natCast, Int.toNat_natCast, hsub, decide_eq_true (show ((sizeN (setV (lims3 LL) (atP M.g 4 M.b.2.2.2.2)) : Nat) : Int) ≤ ((mostI M.g LL 4 : Nat) : Int) by omega)]
      rfl) rfl rfl (by repeat' (first | exact trivial | exact rfl | (intro i hi; exact ⟨rfl, rfl⟩) | refine And.intro ?_ ?_))⟩
end Go.X.Gr
end
