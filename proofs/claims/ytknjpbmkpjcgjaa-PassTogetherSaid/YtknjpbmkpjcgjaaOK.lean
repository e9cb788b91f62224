/- The walk of PassTogether. -/
import Derived.Test.YtknjpbmkpjcgjaaOJ

section
set_option linter.unusedVariables false
set_option linter.unusedSimpArgs false
set_option linter.unusedSectionVars false
/- Pass: PassTogether answers true. -/
set_option linter.unusedVariables false
set_option linter.unusedSimpArgs false
set_option maxRecDepth 10000
set_option maxHeartbeats 4000000
namespace Go.X.Ps
open Go Go.Proofs Go.X

def c8 : Ct := fun fr args H => match args with
  | [.agg l, .si .u8 a, .si .u8 b, .si .u8 d] => passK H l fun i1 it ag n get => some ⟨some (Pps n get ∧ ((0 ≤ a ∧ a < 256) ∧ (0 ≤ b ∧ b < 256) ∧ 0 ≤ d ∧ d < 256)), none, .sb true, []⟩
  | _ => none
theorem k8 {l : List (Nat × Ct)} (g0 : Good P T l) : COk P 8 c8 := by
  have g := g33 (g14 (g24 (g19 (g15 (g17 good0)))))
  refine cok (C := tabC _) g.ok Try.func8 (c := code Try.f8) rfl fun fr args H out h hp => ?_
  unfold c8 at h
  split at h
  case h_2 => cases h
  rename_i l a b d
  obtain ⟨i1, it, ag, n, get, rfl, e1, h⟩ := passK_some h
  cases h
  obtain ⟨hs, ha, hb, hd⟩ : Pps n get ∧ ((0 ≤ a ∧ a < 256) ∧ (0 ≤ b ∧ b < 256) ∧ 0 ≤ d ∧ d < 256) := hp
  refine ⟨[(i1, .ro 5 n fun i => ppC (ppAt get i))], [.agg (paA 0 it ag), .si .u8 a, .si .u8 b, .si .u8 d], [(0, .ro 5 n fun i => ppC (ppAt get i))], 1, [], rfl, rfl, Nat.le_of_ble_eq_true rfl, pp_hand e1 hs, rfl, rfl, fun G hG => ?_⟩
  generalize ppAt get = L
  obtain ⟨ps, hps⟩ : ∃ ps, papL n (fun i => ppC (L i)) = ps := ⟨_, rfl⟩
  refine Chk.mk (pps_i _ _) ?_
  refine Br.mk (fun h => ?_) (fun h => ?_)
  · exact ⟨.inl rfl, end_noid rfl rfl rfl (by repeat' (first | exact trivial | exact rfl | (intro i hi; exact ⟨rfl, rfl⟩) | refine And.intro ?_ ?_))⟩
  have h : (!validV it ag (papL n fun i => ppC (L i))) = false := h
  rw [hps] at h
  have hv : validV it ag ps = true := by simpa using h
  obtain ⟨hr, hit, hn8⟩ := valid_ok (r := L) (n := n) (by rw [← hps] at hv; exact hv)
  have hn : n ≤ 1000000 := by omega
  obtain ⟨p1, p2, p3⟩ := pow_in hit
  have hy := tmod_b hd.1 (show (0 : Int) < 21 by decide)
  obtain ⟨k, hk, hk6, hE⟩ := every_eq hit
  refine Chk.mk p1 (Chk.mk p2 ?_)
  rw [hE]
  have hK64 := pow_64 hk6.2
  have hK1 := Nat.one_le_two_pow (n := k)
  generalize hE2 : 2 ^ k - 1 = E at p2
  refine Chk.mk (show InK .i64 d from ⟨by omega, by omega⟩) (Chk.mk (show (21 : Int) ≠ 0 by decide) (Chk.mk (show InK .i64 a from ⟨by omega, by omega⟩) ?_))
  refine Chk.mk ⟨ha.1, by omega, ⟨by omega, by omega⟩, by omega, by omega⟩ ?_
  generalize hA : a.toNat &&& (E : Int).toNat = A
  refine Chk.mk (show InK .i64 b from ⟨by omega, by omega⟩) (Chk.mk ⟨hb.1, by omega, ⟨by omega, by omega⟩, by omega, by omega⟩ ?_)
  generalize hB : b.toNat &&& (E : Int).toNat = B0
  have hA1 : A ≤ E := by rw [← hA]; exact Nat.and_le_right
  have hB1 : B0 ≤ E := by rw [← hB]; exact Nat.and_le_right
  refine Chk.mk ⟨by omega, by omega, ⟨by omega, by omega⟩, by omega, by omega⟩ ?_
  generalize hC : (B0 : Int).toNat - ((B0 : Int).toNat &&& (A : Int).toNat) = C
  have hC1 : C ≤ E := by omega
  generalize d.tmod 21 = y at hy
  refine Chk.mk ⟨pps_i _ _, hn⟩ (Chk.mk ⟨pps_i _ _, hn⟩ (Chk.mk ⟨by omega, by omega, ⟨by omega, by omega⟩, by omega, by omega⟩ ?_))
  generalize hD : (A : Int).toNat ||| (C : Int).toNat = D
  refine Chk.mk ⟨pps_i _ _, hn⟩ (Chk.mk ⟨pps_i _ _, hn⟩ (Chk.mk ⟨pps_i _ _, hn⟩ ?_))
  have hy : 0 ≤ y ∧ y ≤ 20 := by omega
  have hr2 : PpOk ag ps.length (pget ps) := valid_ps hv
  have hE3 : E < 2 ^ k := by omega
  have hkn := known_in (it := it) hv hy
  have hKb : 0 ≤ knownR it ag ps y ∧ knownR it ag ps y ≤ 63 := by
    rw [hkn.2]
    have := setN_lt (fun i => decide (0 ≤ bnN ag ps y i)) 6
    omega
  have tA := tog_le hr2 hv hk hk6.2 (show A < 2 ^ k by omega) hy
  have tC := tog_le hr2 hv hk hk6.2 (show C < 2 ^ k by omega) hy
  refine Chk.mk (under_of ⟨by omega, by rw [hps]; exact hKb.1, ⟨by omega, by omega⟩, by rw [hps]; exact ⟨by omega, by omega⟩⟩) ?_
  refine Chk.mk (under_of (show InK .i64 _ by rw [hps]; exact ⟨by omega, by omega⟩)) ?_
  refine Br.mk (fun h => ?_) (fun _ => ?_)
  · exfalso
    exact absurd h (Bool.eq_false_iff.1 (by rw [hps]; exact togCond hr2 hv hk hk6.2 (by omega) (by omega) hC hD hy))
  refine loop_okR (g.ok _ _ _) 1 (fun z : {i : Nat // i ≤ k} => ⟨[(4, ⟨[], .sp 1 0⟩), (10, ⟨[], .si .i64 y⟩), (11, ⟨[], .si .i64 (A : Int)⟩), (13, ⟨[], .si .i64 (togR it ag (papL n fun i => ppC (L i)) (A : Int) y)⟩), (14, ⟨[], .si .i64 (togE it ag (papL n fun i => ppC (L i)) (A : Int) y)⟩), (19, ⟨[], .si .i64 (knownR it ag (papL n fun i => ppC (L i)) y)⟩), (23, ⟨[], .si .i64 (sumS (fun i => wO (bnL ag ps (i : Int) y)) (A : Int) z.1)⟩), (129, ⟨[], .si .i64 it⟩), (130, ⟨[], .si .i64 (z.1 : Int)⟩)], [], [(1, .cells 24 (paA 0 it ag)), (0, .ro 5 n fun i => ppC (L i))], 2, []⟩)
    (fun z => k - z.1) hG ⟨0, Nat.zero_le _⟩ (fun j => j) ?_ ?_
  · refine ⟨?_, ?_, rfl, rfl, rfl, rfl, trivial⟩ <;> repeat' (first | exact trivial | exact rfl | (intro i hi; exact ⟨rfl, rfl⟩) | refine And.intro ?_ ?_)
  rintro ⟨i, hi⟩
  have hW : ∀ j : Nat, 0 ≤ wO (bnL ag ps (j : Int) y) ∧ wO (bnL ag ps (j : Int) y) ≤ 10000 := fun j => wO_in hr2
  have hS := sumS_in (S := (A : Int)) hW
  have hSi := hS i
  have hWi := hW i
  generalize hs0 : sumS (fun i => wO (bnL ag ps (i : Int) y)) (A : Int) i = s0 at hSi
  refine Br.mk (fun h => ?_) (fun h => ?_)
  · have h : (i : Int) < it := of_decide_eq_true h
    have hq : 0 ≤ (i : Int) ∧ (i : Int) < it := ⟨by omega, h⟩
    obtain ⟨bE, bR⟩ := bound_in hv hit hq hy
    have hkb := known_bit (it := it) (i := i) hv hr2 hy (by omega)
    refine Chk.mk ⟨pps_i _ _, hn⟩ ?_
    refine Chk.mk (shr_in (i := i) (by omega)) (Chk.mk (sh_in (i := i) (by rw [hps]; exact hKb) (by omega)) ?_)
    refine Br.mk (fun h1 => ?_) (fun h1 => ?_)
    · exfalso
      have h1 : (!(decide (boundE it ag (papL n fun i => ppC (L i)) (i : Int) y = 0) == decide (((((knownR it ag (papL n fun i => ppC (L i)) y).fdiv (2 ^ ((i : Nat) : Int).toNat)).toNat &&& Int.toNat 1 : Nat) : Int) = 1))) = true := h1
      rw [hps, hkb, bE] at h1
      cases hb : (bnL ag ps (i : Int) y).isSome <;> rw [hb] at h1 <;> cases h1
    refine Chk.mk (shr_in (i := i) (by omega)) (Chk.mk (sh_in (i := i) ⟨by omega, by omega⟩ (by omega)) ?_)
    refine Br.mk (fun h2 => Chk.mk (show InK .i64 (s0 + boundR it ag (papL n fun i => ppC (L i)) (i : Int) y) by rw [hps, bR]; exact ⟨by omega, by omega⟩) ?_) (fun h2 => ?_)
    have hs1 : s0 + boundR it ag (papL n fun i => ppC (L i)) (i : Int) y = sumS (fun i => wO (bnL ag ps (i : Int) y)) (A : Int) (i + 1) := by
      rw [hasB_eq (Int.natCast_nonneg _)] at h2
      rw [sumS, if_pos h2, hps, bR, hs0]
    rotate_left
    have hs1 : s0 = sumS (fun i => wO (bnL ag ps (i : Int) y)) (A : Int) (i + 1) := by
      rw [hasB_eq (Int.natCast_nonneg _)] at h2
      rw [sumS, if_neg (by rw [h2]; decide), hs0]
    all_goals
      refine Br.mk (fun h3 => ?_) (fun h3 => ?_)
      · refine Chk.mk (show InK .i64 ((i : Int) + 1) from ⟨by omega, by omega⟩) ⟨⟨i + 1, by omega⟩, (fun j => j), ?_, by show k - (i + 1) < k - i; omega⟩
        refine ⟨?_, ?_, rfl, rfl, rfl, rfl, trivial⟩ <;> repeat' (first | exact trivial | exact rfl | exact hs1 | (intro i hi; exact ⟨rfl, rfl⟩) | refine And.intro ?_ ?_)
      have h3 : ¬ y = 20 := of_decide_eq_false h3
      refine Chk.mk (show InK .i64 (y + 1) from ⟨by omega, by omega⟩) (Chk.mk ⟨pps_i _ _, hn⟩ ?_)
      refine drawn_ok (g.ok _ _ _) fol [0,1,3,7,15,31,63,127,255,511,1023,2047,4095,8191,16383,32767,65535,16383,147455,409599,1048575,2097151,4194303,8388607,16777215,8388607,41943039,109051903,268435455,536870911,1073741823,8388607,4294967295,8589934591] [] 34 (by kernel_rfl) ?_
      refine Chk.mk (fun hg => ?_) ?_
      · have := of_decide_eq_false (Bool.or_eq_false_iff.1 hg).2
        exact ⟨Int.le_refl _, by omega⟩
      refine Chk.mk (fun hg => ?_) ?_
      · have := of_decide_eq_false (Bool.or_eq_false_iff.1 (Bool.or_eq_false_iff.1 hg).1).2
        exact ⟨Int.le_refl _, by omega⟩
      refine Chk.mk (fun hg => ?_) ?_
      · have := of_decide_eq_false (Bool.or_eq_false_iff.1 (Bool.or_eq_false_iff.1 (Bool.or_eq_false_iff.1 hg).1).1).2
        exact ⟨Int.le_refl _, by omega⟩
      refine Chk.mk (fun hg => ?_) ?_
      · have h8 := of_decide_eq_false (Bool.or_eq_false_iff.1 hg).2
        have h9 := of_decide_eq_false (Bool.or_eq_false_iff.1 (Bool.or_eq_false_iff.1 hg).1).2
        exact ⟨Int.not_lt.1 h9, Int.not_le.1 h8⟩
      refine Br.mk (fun h4 => ?_) (fun h4 => ?_)
      · refine Chk.mk (show InK .i64 ((i : Int) + 1) from ⟨by omega, by omega⟩) ⟨⟨i + 1, by omega⟩, (fun j => j), ?_, by show k - (i + 1) < k - i; omega⟩
        refine ⟨?_, ?_, rfl, rfl, rfl, rfl, trivial⟩ <;> repeat' (first | exact trivial | exact rfl | exact hs1 | (intro i hi; exact ⟨rfl, rfl⟩) | refine And.intro ?_ ?_)
      have h4 : (!decide (boundE it ag (papL n fun i => ppC (L i)) (i : Int) (y + 1) = 0) ||
            decide (((chainL it ag (papL n fun i => ppC (L i)) (i : Int) (y + 1)).length : Int) = 0) ||
          decide ((chainL it ag (papL n fun i => ppC (L i)) (i : Int) (y + 1)).getD (Int.toNat 0) 0 < 0) ||
        decide ((n : Int) ≤ (chainL it ag (papL n fun i => ppC (L i)) (i : Int) (y + 1)).getD (Int.toNat 0) 0) ||
      decide
        (y < (L ((chainL it ag (papL n fun i => ppC (L i)) (i : Int) (y + 1)).getD (Int.toNat 0) 0).toNat).yr)) = false := h4
      rw [hps] at h4
      obtain ⟨q1, q2, q3⟩ := later hps hv hit hq ⟨by omega, by omega⟩ h4
      refine Chk.mk (show InK .i64 (y + 1) from ⟨by omega, by omega⟩) (Chk.mk ⟨pps_i _ _, hn⟩ ?_)
      refine Br.mk (fun h5 => ?_) (fun h5 => ?_)
      · exfalso
        have h5 : (!decide (boundE it ag (papL n fun i => ppC (L i)) (i : Int) (y + 1) = 0) || !decide (boundE it ag (papL n fun i => ppC (L i)) (i : Int) y = 0) || decide (boundR it ag (papL n fun i => ppC (L i)) (i : Int) (y + 1) < boundR it ag (papL n fun i => ppC (L i)) (i : Int) y)) = true := h5
        rw [hps, q1, q2, decide_eq_false (show ¬ boundR it ag ps (i : Int) (y + 1) < boundR it ag ps (i : Int) y by omega)] at h5
        cases h5
      · refine Chk.mk (show InK .i64 ((i : Int) + 1) from ⟨by omega, by omega⟩) ⟨⟨i + 1, by omega⟩, (fun j => j), ?_, by show k - (i + 1) < k - i; omega⟩
        refine ⟨?_, ?_, rfl, rfl, rfl, rfl, trivial⟩ <;> repeat' (first | exact trivial | exact rfl | exact hs1 | (intro i hi; exact ⟨rfl, rfl⟩) | refine And.intro ?_ ?_)
  · have h : ¬ (i : Int) < it := of_decide_eq_false h
    obtain rfl : i = k := by omega
    refine ⟨.inl rfl, end_noid ?_ rfl rfl (by repeat' (first | exact trivial | exact rfl | (intro i hi; exact ⟨rfl, rfl⟩) | refine And.intro ?_ ?_))⟩
    show ((!decide (togE it ag (papL n fun i => ppC (L i)) (↑A) y = 0) ||
            decide (s0 = togR it ag (papL n fun i => ppC (L i)) (↑A) y)) &&
          (decide (togE it ag (papL n fun i => ppC (L i)) (↑A) y = 0) ||
            decide (togE it ag (papL n fun i => ppC (L i)) (↑A) y = 4) &&
              decide (togR it ag (papL n fun i => ppC (L i)) (↑A) y = 0)) &&
        true) = true
    rw [hps]
    exact togEnd hv hk hk6.2 (by omega) hy hs0
end Go.X.Ps
end
