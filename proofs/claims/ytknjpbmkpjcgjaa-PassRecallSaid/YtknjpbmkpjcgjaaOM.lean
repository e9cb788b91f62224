/- The walk of PassRecall. -/
import Derived.Test.YtknjpbmkpjcgjaaOL

section
set_option linter.unusedVariables false
set_option linter.unusedSimpArgs false
set_option linter.unusedSectionVars false
/- Pass: PassRecall answers true. -/
set_option linter.unusedVariables false
set_option linter.unusedSimpArgs false
set_option maxRecDepth 10000
set_option maxHeartbeats 4000000
namespace Go.X.Ps
open Go Go.Proofs Go.X

def c9 : Ct := fun fr args H => match args with
  | [.agg l, .si .u8 a, .si .u8 b] => passK H l fun i1 it ag n get => some ⟨some (Pps n get ∧ ((0 ≤ a ∧ a < 256) ∧ 0 ≤ b ∧ b < 256)), none, .sb true, []⟩
  | _ => none
theorem k9 {l : List (Nat × Ct)} (g0 : Good P T l) : COk P 9 c9 := by
  have g := g33 (g14 (g26 (g35 (g15 (g17 good0)))))
  refine cok (C := tabC _) g.ok Try.func9 (c := code Try.f9) rfl fun fr args H out h hp => ?_
  unfold c9 at h
  split at h
  case h_2 => cases h
  rename_i l a b
  obtain ⟨i1, it, ag, n, get, rfl, e1, h⟩ := passK_some h
  cases h
  obtain ⟨hs, ha, hb⟩ : Pps n get ∧ ((0 ≤ a ∧ a < 256) ∧ 0 ≤ b ∧ b < 256) := hp
  refine ⟨[(i1, .ro 5 n fun i => ppC (ppAt get i))], [.agg (paA 0 it ag), .si .u8 a, .si .u8 b], [(0, .ro 5 n fun i => ppC (ppAt get i))], 1, [], rfl, rfl, Nat.le_of_ble_eq_true rfl, pp_hand e1 hs, rfl, rfl, fun G hG => ?_⟩
  generalize ppAt get = L
  obtain ⟨ps, hps⟩ : ∃ ps, papL n (fun i => ppC (L i)) = ps := ⟨_, rfl⟩
  refine Chk.mk (pps_i _ _) ?_
  refine Br.mk (fun h => ?_) (fun h => ?_)
  · exact ⟨.inl rfl, end_noid rfl rfl rfl (by repeat' (first | exact trivial | exact rfl | (intro i hi; exact ⟨rfl, rfl⟩) | refine And.intro ?_ ?_))⟩
  have h : (!validV it ag (papL n fun i => ppC (L i)) || decide ((n : Int) = 0)) = false := h
  rw [hps] at h
  have hv : validV it ag ps = true := by simpa using (Bool.or_eq_false_iff.1 h).1
  have hn0 : ¬ (n : Int) = 0 := of_decide_eq_false (Bool.or_eq_false_iff.1 h).2
  obtain ⟨hr, hit, hn8⟩ := valid_ok (r := L) (n := n) (by rw [← hps] at hv; exact hv)
  have hn : n ≤ 1000000 := by omega
  have hq := tmod_b ha.1 (show (0 : Int) < (n : Int) by omega)
  have hy := tmod_b hb.1 (show (0 : Int) < 21 by decide)
  refine Chk.mk (show InK .i64 a from ⟨by omega, by omega⟩) (Chk.mk hn0 (Chk.mk (show InK .i64 b from ⟨by omega, by omega⟩) (Chk.mk (show (21 : Int) ≠ 0 by decide) ?_)))
  obtain ⟨k, hk⟩ : ∃ k : Nat, a.tmod (n : Int) = (k : Int) := ⟨(a.tmod (n : Int)).toNat, by omega⟩
  rw [hk] at hq ⊢
  generalize b.tmod 21 = y at hy
  have hy : 0 ≤ y ∧ y ≤ 20 := by omega
  have hkn : k < n := by omega
  refine Chk.mk ⟨pps_i _ _, hn⟩ (Chk.mk ⟨pps_i _ _, by omega, by omega, by omega⟩ ?_)
  have hlen := tolen hps
  have hkp : k < ps.length := by omega
  obtain ⟨bW, bG⟩ := rec_b hv hkp hy
  refine Chk.mk (under_of ⟨by omega, by show it.toNat ≤ 64; omega⟩) (Chk.mk (under_of (by rw [hps]; exact ⟨by omega, by omega, ⟨by omega, by omega⟩, by omega, by omega⟩)) ?_)
  refine Br.mk (fun h => ?_) (fun _ => ?_)
  · exfalso
    obtain ⟨f1, f2, f3, f4⟩ := recCond hv hit hkp hy
    have h : (!decide (recE it ag (papL n fun i => ppC (L i)) (k : Int) y = 0) || decide (recW it ag (papL n fun i => ppC (L i)) (k : Int) y < 0) || !decide ((recW it ag (papL n fun i => ppC (L i)) (k : Int) y).fdiv (2 ^ it.toNat) = 0) || !decide ((((recG it ag (papL n fun i => ppC (L i)) (k : Int) y).toNat - ((recG it ag (papL n fun i => ppC (L i)) (k : Int) y).toNat &&& (recW it ag (papL n fun i => ppC (L i)) (k : Int) y).toNat) : Nat) : Int) = 0)) = true := h
    rw [hps, f1, decide_eq_false f2, f3, f4] at h
    cases h
  have hpx := erase_pap hps hkn
  refine loop_okR (g.ok _ _ _) 1 (fun z : {i : Nat // (i : Int) ≤ it} => ⟨[(3, ⟨[], .sp 1 0⟩), (7, ⟨[], .si .i64 (k : Int)⟩), (8, ⟨[], .si .i64 y⟩), (9, ⟨[], .si .i64 (recW it ag (papL n fun i => ppC (L i)) (k : Int) y)⟩), (10, ⟨[], .si .i64 (recG it ag (papL n fun i => ppC (L i)) (k : Int) y)⟩), (12, ⟨[], .sp 3 0⟩), (75, ⟨[], .si .i64 it⟩), (76, ⟨[], .si .i64 (z.1 : Int)⟩)], [],
      [(3, .cells 24 [.si .i64 it, .si .i64 ag, .sl 2]), (2, .vec 49 5 (n - 1) fun j => ppC (woP L k j)), (1, .cells 24 (paA 0 it ag)), (0, .ro 5 n fun i => ppC (L i))], 4, []⟩)
    (fun z => (it - (z.1 : Int)).toNat) hG ⟨0, by omega⟩ (fun j => match j with | 3 => 6 | j => j) ?_ ?_
  · refine ⟨?_, ?_, rfl, rfl, rfl, rfl, trivial⟩ <;> repeat' (first | exact trivial | exact rfl | exact List.Perm.refl _ | (intro i hi; exact ⟨rfl, rfl⟩) | refine And.intro ?_ ?_)
  rintro ⟨i, hi⟩
  refine Br.mk (fun h => ?_) (fun h => ?_)
  · have h : (i : Int) < it := of_decide_eq_true h
    obtain ⟨w1, w2, w3, w4⟩ := recEach hv hit hkp h hy
    refine Chk.mk ⟨pps_i _ _, hn⟩ (Chk.mk ⟨pps_i _ _, by omega⟩ (Chk.mk ⟨pps_i _ _, hn⟩ ?_))
    refine loop_okR (g.ok _ _ _) 1 (fun z : {j : Nat // j ≤ (chainL it ag (papL n fun i => ppC (L i)) (i : Int) y).length} => ⟨[(3, ⟨[], .sp 1 0⟩), (7, ⟨[], .si .i64 (k : Int)⟩), (8, ⟨[], .si .i64 y⟩), (9, ⟨[], .si .i64 (recW it ag (papL n fun i => ppC (L i)) (k : Int) y)⟩), (10, ⟨[], .si .i64 (recG it ag (papL n fun i => ppC (L i)) (k : Int) y)⟩), (12, ⟨[], .sp 3 0⟩), (75, ⟨[], .si .i64 it⟩), (76, ⟨[], .si .i64 (i : Int)⟩),
      (13, ⟨[], .si .i64 (i : Int)⟩), (14, ⟨[], .si .i64 (boundR it ag (papL n fun i => ppC (L i)) (i : Int) y)⟩), (15, ⟨[], .si .i64 (boundE it ag (papL n fun i => ppC (L i)) (i : Int) y)⟩), (16, ⟨[], .si .i64 (boundR it ag (papL (n - 1) fun j => ppC (woP L k j)) (i : Int) y)⟩), (17, ⟨[], .si .i64 (boundE it ag (papL (n - 1) fun j => ppC (woP L k j)) (i : Int) y)⟩),
      (19, ⟨[], .si .i64 (boundE it ag (papL n fun i => ppC (L i)) (i : Int) y)⟩), (20, ⟨[], .sb (((chainL it ag (papL n fun i => ppC (L i)) (i : Int) y).take z.1).any fun v => decide (v = (k : Int)))⟩), (100, ⟨[], .sl 4⟩), (101, ⟨[], .si .i64 ((chainL it ag (papL n fun i => ppC (L i)) (i : Int) y).length : Int)⟩), (102, ⟨[], .si .i64 (z.1 : Int)⟩)], [],
      [(4, .vec 3 1 (chainL it ag (papL n fun i => ppC (L i)) (i : Int) y).length (getI (chainL it ag (papL n fun i => ppC (L i)) (i : Int) y))), (3, .cells 24 [.si .i64 it, .si .i64 ag, .sl 2]), (2, .vec 49 5 (n - 1) fun j => ppC (woP L k j)), (1, .cells 24 (paA 0 it ag)), (0, .ro 5 n fun i => ppC (L i))], 5, []⟩)
      (fun z => (chainL it ag (papL n fun i => ppC (L i)) (i : Int) y).length - z.1) hG ⟨0, Nat.zero_le _⟩ (fun j => match j with | j => j) ?_ ?_
    · refine ⟨?_, ?_, rfl, rfl, rfl, rfl, trivial⟩ <;> repeat' (first | exact trivial | exact rfl | exact List.Perm.refl _ | (intro i hi; exact ⟨rfl, rfl⟩) | refine And.intro ?_ ?_)
    rintro ⟨j, hj⟩
    have hcl : (chainL it ag (papL n fun i => ppC (L i)) (i : Int) y).length ≤ 40 := by rw [hps]; exact chain_le hv hit ⟨by omega, h⟩ hy
    have hch : chainL it ag (papL n fun i => ppC (L i)) (i : Int) y = chainL it ag ps (i : Int) y := by rw [hps]
    generalize chainL it ag (papL n fun i => ppC (L i)) (i : Int) y = ch at hcl hch hj
    refine Br.mk (fun h2 => ?_) (fun h2 => ?_)
    · have h2 : (j : Int) < (ch.length : Int) := of_decide_eq_true h2
      have hjl : j < ch.length := by omega
      have hnx := any_take (f := fun v => decide (v = (k : Int))) hjl
      refine Chk.mk (show (0 : Int) ≤ (j : Int) ∧ (j : Int) < (ch.length : Int) from ⟨by omega, h2⟩) ?_
      refine Chk.mk (show InK .i64 ((j : Int) + 1) from ⟨by omega, by omega⟩) ⟨⟨j + 1, hjl⟩, (fun j => j), ?_, by show ch.length - (j + 1) < ch.length - j; omega⟩
      refine ⟨?_, ?_, rfl, rfl, rfl, rfl, trivial⟩ <;> repeat' (first | exact trivial | exact rfl | exact hnx | exact List.Perm.refl _ | (intro i hi; exact ⟨rfl, rfl⟩) | refine And.intro ?_ ?_)
    have h2 : ¬ (j : Int) < (ch.length : Int) := of_decide_eq_false h2
    obtain rfl : j = ch.length := by omega
    have hta : ch.take ch.length = ch := List.take_length
    refine drawn_ok (g.ok _ _ _) fol [0,0,3,7,15,0,0,96,224,480,31,2047] [] 12 (by kernel_rfl) ?_
    refine Chk.mk (shr_in (i := i) (by omega)) (Chk.mk (sh_in (i := i) (by rw [hps]; exact bW) (by omega)) (Chk.mk (shr_in (i := i) (by omega)) (Chk.mk (sh_in (i := i) (by rw [hps]; exact bG) (by omega)) ?_)))
    refine Br.mk (fun h3 => ?_) (fun h3 => ?_)
    · exfalso
      have h3 : (!decide (boundE it ag (papL n fun i => ppC (L i)) (↑i) y = boundE it ag (papL n fun i => ppC (L i)) (↑i) y) ||
            decide (boundE it ag (papL (n - 1) fun j => ppC (woP L k j)) (↑i) y = 0) &&
              (!decide (boundE it ag (papL n fun i => ppC (L i)) (↑i) y = 0) ||
                decide
                  (boundR it ag (papL (n - 1) fun j => ppC (woP L k j)) (↑i) y <
                    boundR it ag (papL n fun i => ppC (L i)) (↑i) y)) ||
          !decide
                ((((((recW it ag (papL n fun i => ppC (L i)) (↑k) y).fdiv (2 ^ ((i : Nat) : Int).toNat)).toNat &&& Int.toNat 1 : Nat) : Int)) =
                  1) ==
              (decide (boundE it ag (papL n fun i => ppC (L i)) (↑i) y = 0) &&
                (!decide (boundE it ag (papL (n - 1) fun j => ppC (woP L k j)) (↑i) y = 0) ||
                  decide
                    (boundR it ag (papL n fun i => ppC (L i)) (↑i) y <
                      boundR it ag (papL (n - 1) fun j => ppC (woP L k j)) (↑i) y))) ||
        !decide
              ((((((recG it ag (papL n fun i => ppC (L i)) (↑k) y).fdiv (2 ^ ((i : Nat) : Int).toNat)).toNat &&& Int.toNat 1 : Nat) : Int)) = 1) ==
            (decide (boundE it ag (papL n fun i => ppC (L i)) (↑i) y = 0) &&
              !decide (boundE it ag (papL (n - 1) fun j => ppC (woP L k j)) (↑i) y = 0)) ||
      decide ((((((recW it ag (papL n fun i => ppC (L i)) (↑k) y).fdiv (2 ^ ((i : Nat) : Int).toNat)).toNat &&& Int.toNat 1 : Nat) : Int)) = 1) &&
        !(List.take ch.length ch).any fun v => decide (v = (k : Int))) = true := h3
      rw [hps, hpx, hta, hch, w1, w2] at h3
      by_cases e2 : boundE it ag (ps.eraseIdx k) (i : Int) y = 0
      · obtain ⟨e3, hle⟩ := w3 e2
        rw [e2, e3, decide_eq_false (show ¬ boundR it ag (ps.eraseIdx k) (i : Int) y < boundR it ag ps (i : Int) y by omega)] at h3
        rw [e2, e3] at w4
        by_cases e4 : boundR it ag ps (i : Int) y < boundR it ag (ps.eraseIdx k) (i : Int) y
        · rw [decide_eq_true e4] at h3 w4
          rw [w4 rfl] at h3
          cases h3
        · rw [decide_eq_false e4] at h3
          cases h3
      · rw [decide_eq_false e2] at h3 w4
        by_cases e3 : boundE it ag ps (i : Int) y = 0
        · rw [e3] at h3 w4
          rw [w4 rfl] at h3
          cases h3
        · rw [decide_eq_false e3] at h3
          simp at h3
    · refine Chk.mk (show InK .i64 ((i : Int) + 1) from ⟨by omega, by omega⟩) ⟨⟨i + 1, by omega⟩, (fun j => j), ?_, by show (it - ((i + 1 : Nat) : Int)).toNat < (it - (i : Int)).toNat; omega⟩
      refine ⟨?_, ?_, rfl, rfl, rfl, rfl, trivial⟩ <;> repeat' (first | exact trivial | exact rfl | exact List.Perm.refl _ | (intro i hi; exact ⟨rfl, rfl⟩) | refine And.intro ?_ ?_)
  · exact ⟨.inl rfl, end_noid rfl rfl rfl (by repeat' (first | exact trivial | exact rfl | (intro i hi; exact ⟨rfl, rfl⟩) | refine And.intro ?_ ?_))⟩
end Go.X.Ps
end
