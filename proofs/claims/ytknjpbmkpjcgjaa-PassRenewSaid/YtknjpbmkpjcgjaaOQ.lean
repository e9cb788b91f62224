/- The walk of PassRenew. -/
import Derived.Test.YtknjpbmkpjcgjaaOP

section
set_option linter.unusedVariables false
set_option linter.unusedSimpArgs false
set_option linter.unusedSectionVars false
/- Pass: PassRenew answers true. -/
set_option linter.unusedVariables false
set_option linter.unusedSimpArgs false
set_option maxRecDepth 10000
set_option maxHeartbeats 4000000
namespace Go.X.Ps
open Go Go.Proofs Go.X

def c10 : Ct := fun fr args H => match args with
  | [.agg l, .si .u8 a, .si .u8 b, .si .u8 d, .si .u8 e] => passK H l fun i1 it ag n get => some ⟨some (Pps n get ∧ ((0 ≤ a ∧ a < 256) ∧ (0 ≤ b ∧ b < 256) ∧ (0 ≤ d ∧ d < 256) ∧ 0 ≤ e ∧ e < 256)), none, .sb true, []⟩
  | _ => none
theorem k10 {l : List (Nat × Ct)} (g0 : Good P T l) : COk P 10 c10 := by
  have g := g33 (g14 (g29 (g36 (g38 good0))))
  refine cok (C := tabC _) g.ok Try.func10 (c := code Try.f10) rfl fun fr args H out h hp => ?_
  unfold c10 at h
  split at h
  case h_2 => cases h
  rename_i l a b d e
  obtain ⟨i1, it, ag, n, get, rfl, e1, h⟩ := passK_some h
  cases h
  obtain ⟨hs, ha, hb, hd, he⟩ : Pps n get ∧ ((0 ≤ a ∧ a < 256) ∧ (0 ≤ b ∧ b < 256) ∧ (0 ≤ d ∧ d < 256) ∧ 0 ≤ e ∧ e < 256) := hp
  refine ⟨[(i1, .ro 5 n fun i => ppC (ppAt get i))], [.agg (paA 0 it ag), .si .u8 a, .si .u8 b, .si .u8 d, .si .u8 e], [(0, .ro 5 n fun i => ppC (ppAt get i))], 1, [], rfl, rfl, Nat.le_of_ble_eq_true rfl, pp_hand e1 hs, rfl, rfl, fun G hG => ?_⟩
  generalize ppAt get = L
  obtain ⟨ps, hps⟩ : ∃ ps, papL n (fun i => ppC (L i)) = ps := ⟨_, rfl⟩
  refine Chk.mk (pps_i _ _) ?_
  refine Br.mk (fun h => ?_) (fun h => ?_)
  · exact ⟨.inl rfl, end_noid rfl rfl rfl (by repeat' (first | exact trivial | exact rfl | (intro i hi; exact ⟨rfl, rfl⟩) | refine And.intro ?_ ?_))⟩
  have h : (!validV it ag (papL n fun i => ppC (L i))) = false := h
  rw [hps] at h
  have hv : validV it ag ps = true := by simpa using h
  obtain ⟨hr, hit, hn8⟩ := valid_ok (r := L) (n := n) (by rw [← hps] at hv; exact hv)
  have hn : n ≤ 1000000 := by omega
  have hlen := tolen hps
  have hy := tmod_b ha.1 (show (0 : Int) < 21 by decide)
  refine Chk.mk (show InK .i64 a from ⟨by omega, by omega⟩) (Chk.mk (show (21 : Int) ≠ 0 by decide) ?_)
  generalize a.tmod 21 = y at hy
  have hy : 0 ≤ y ∧ y ≤ 20 := by omega
  refine Chk.mk (show InK .i64 b from ⟨by omega, by omega⟩) (Chk.mk ⟨pps_i _ _, hn⟩ (Chk.mk (show InK .i64 d from ⟨by omega, by omega⟩) (Chk.mk (show InK .i64 (b + d) from ⟨by omega, by omega⟩) (Chk.mk ⟨pps_i _ _, hn⟩ ?_))))
  have hE : (1 : Int) * 2 ^ ((n : Int)).toNat - 1 = ((2 ^ n - 1 : Nat) : Int) := by
    have := Nat.one_le_two_pow (n := n)
    rw [Int.natCast_sub this, Int.toNat_natCast]
    push_cast
    omega
  have hE8 : 2 ^ n ≤ 2 ^ 8 := Nat.pow_le_pow_right (by decide) hn8
  have hE1 := Nat.one_le_two_pow (n := n)
  have hpw : InK .i64 ((1 : Int) * 2 ^ ((n : Int)).toNat) := ⟨by omega, by omega⟩
  refine Chk.mk ⟨by omega, by rw [Int.toNat_natCast]; show n ≤ 64; omega, hpw⟩ (Chk.mk (show InK .i64 ((1 : Int) * 2 ^ ((n : Int)).toNat - 1) from ⟨by omega, by omega⟩) ?_)
  rw [hE]
  have b1 := ren_b (y := y) (lim := b) hv (by omega) hy ⟨hb.1, by omega⟩
  have b2 := ren_b (y := y) (lim := b + d) hv (by omega) hy ⟨by omega, by omega⟩
  refine Chk.mk (under_of (show renR it ag (papL n fun i => ppC (L i)) y (b + d) < 4611686018427387904 by rw [hps]; omega)) (Chk.mk (under_of (show renR it ag (papL n fun i => ppC (L i)) y b < 4611686018427387904 by rw [hps]; omega)) ?_)
  refine Br.mk (fun h => ?_) (fun _ => ?_)
  · exfalso
    have h : (decide (renR it ag (papL n fun i => ppC (L i)) y b < 0) ||
          decide (((2 ^ n - 1 : Nat) : Int) < renR it ag (papL n fun i => ppC (L i)) y b) ||
        !decide (renE it ag (papL n fun i => ppC (L i)) y b = 0) &&
          (!decide (renE it ag (papL n fun i => ppC (L i)) y b = 4) ||
            !decide (renR it ag (papL n fun i => ppC (L i)) y b = 0)) ||
      decide (renE it ag (papL n fun i => ppC (L i)) y b = 0) &&
        (!decide (renE it ag (papL n fun i => ppC (L i)) y (b + d) = 0) ||
            decide (renR it ag (papL n fun i => ppC (L i)) y (b + d) < 0) ||
          decide
            (((sizeN (renR it ag (papL n fun i => ppC (L i)) y b).toNat : Nat) : Int) <
              ((sizeN (renR it ag (papL n fun i => ppC (L i)) y (b + d)).toNat : Nat) : Int)))) = true := h
    rw [hps, ← hlen, renCond1 hv (by omega) hy hb hd] at h
    cases h
  refine Chk.mk (show InK .i64 e from ⟨by omega, by omega⟩) ?_
  refine Chk.mk ⟨by omega, by omega, ⟨by omega, by omega⟩, by omega, by omega⟩ ?_
  generalize hO : e.toNat &&& ((2 ^ n - 1 : Nat) : Int).toNat = O
  have hO1 : O ≤ 2 ^ n - 1 := by rw [← hO, Int.toNat_natCast]; exact Nat.and_le_right
  have hvn : validV it ag (papL n fun i => ppC (L i)) = true := by rw [hps]; exact hv
  have eno : ∀ S : Nat, enoB it ag n (ppAt fun i => ppC (L i)) (S : Int) y b = enoP it ag ps y b S := fun S => by rw [← hps, enoP_papL]
  refine Chk.mk ⟨pps_i _ _, hvn, hy, by omega, by omega⟩ ?_
  refine Br.mk (fun h => ?_) (fun h => ?_)
  have h : (decide ((rnw n (ppAt fun i => ppC (L i)) (↑O) y).length ≤ 8) && (decide ((rnw n (ppAt fun i => ppC (L i)) (↑O) y).length ≤ 8) && enoB it ag n (ppAt fun i => ppC (L i)) (↑O) y b)) = true := h
  rw [eno] at h
  have ho : enoP it ag ps y b O = true := (Bool.and_eq_true_iff.1 (Bool.and_eq_true_iff.1 h).2).2
  obtain ⟨q1, q2, q3⟩ := renCond2 hv (by omega) hy hb (by rw [hlen]; omega) ho
  refine Chk.mk (under_of (show (O : Int) < 4611686018427387904 by omega)) (Chk.mk (under_of (show renR it ag (papL n fun i => ppC (L i)) y b < 4611686018427387904 by rw [hps]; omega)) (Chk.mk (under_of (show (O : Int) < 4611686018427387904 by omega)) (Chk.mk (under_of (show renR it ag (papL n fun i => ppC (L i)) y b < 4611686018427387904 by rw [hps]; omega)) ?_)))
  refine Br.mk (fun h2 => ?_) (fun _ => ?_)
  · exfalso
    have h2 : (!decide (renE it ag (papL n fun i => ppC (L i)) y b = 0) || decide (((sizeN (O : Int).toNat : Nat) : Int) < ((sizeN (renR it ag (papL n fun i => ppC (L i)) y b).toNat : Nat) : Int)) || decide (((sizeN (O : Int).toNat : Nat) : Int) = ((sizeN (renR it ag (papL n fun i => ppC (L i)) y b).toNat : Nat) : Int)) && decide ((O : Int) < renR it ag (papL n fun i => ppC (L i)) y b)) = true := h2
    rw [hps, q1, Int.toNat_natCast, decide_eq_false q2] at h2
    rcases Decidable.not_and_iff_not_or_not.1 q3 with q | q
    · rw [decide_eq_false q] at h2; cases h2
    · rw [decide_eq_false q, Bool.and_false] at h2; cases h2
  all_goals
    refine Chk.mk ⟨pps_i _ _, hvn, hy, by omega, by omega⟩ ?_
    refine Br.mk (fun h3 => ?_) (fun _ => ?_)
    · exfalso
      have h3 : (decide ((rnw n (ppAt fun i => ppC (L i)) ((2 ^ n - 1 : Nat) : Int) y).length ≤ 8) && !((decide ((rnw n (ppAt fun i => ppC (L i)) ((2 ^ n - 1 : Nat) : Int) y).length ≤ 8) && enoB it ag n (ppAt fun i => ppC (L i)) ((2 ^ n - 1 : Nat) : Int) y b) == decide (renE it ag (papL n fun i => ppC (L i)) y b = 0))) = true := h3
      rw [eno, hps, ← hlen, renCond3 hv (by omega) hy hb] at h3
      cases hl : decide ((rnw ps.length (ppAt fun i => ppC (L i)) ((2 ^ ps.length - 1 : Nat) : Int) y).length ≤ 8) <;> rw [hl] at h3 <;> simp at h3
    refine Br.mk (fun h4 => ?_) (fun h4 => ?_)
    · exact ⟨.inl rfl, end_noid rfl rfl rfl (by repeat' (first | exact trivial | exact rfl | (intro i hi; exact ⟨rfl, rfl⟩) | refine And.intro ?_ ?_))⟩
    have h4 : (!decide (renE it ag (papL n fun i => ppC (L i)) y b = 0)) = false := h4
    rw [hps] at h4
    have h4 : renE it ag ps y b = 0 := by simpa using h4
    rcases ren_spec (lim := b) hv hy ⟨hb.1, by omega⟩ with ⟨_, m, e2, m1, m2, m3⟩ | ⟨f1, _, _⟩
    rotate_left
    · rw [f1] at h4; cases h4
    rw [hlen] at m1 m3
    have hSm : renR it ag (papL n fun i => ppC (L i)) y b = (m : Int) := by rw [hps]; exact e2
    refine Chk.mk ⟨pps_i _ _, hvn, hy, by rw [hSm]; omega, by rw [hSm]; omega⟩ ?_
    refine Br.mk (fun h5 => ?_) (fun _ => ?_)
    · exfalso
      have h5 : (decide ((rnw n (ppAt fun i => ppC (L i)) (renR it ag (papL n fun i => ppC (L i)) y b) y).length ≤ 8) && !(decide ((rnw n (ppAt fun i => ppC (L i)) (renR it ag (papL n fun i => ppC (L i)) y b) y).length ≤ 8) && enoB it ag n (ppAt fun i => ppC (L i)) (renR it ag (papL n fun i => ppC (L i)) y b) y b)) = true := h5
      rw [hSm, eno, m2] at h5
      cases hl : decide ((rnw n (ppAt fun i => ppC (L i)) (m : Int) y).length ≤ 8) <;> rw [hl] at h5 <;> simp at h5
    refine loop_okR (g.ok _ _ _) 1 (fun z : {i : Nat // i ≤ n} => ⟨[(5, ⟨[], .sp 1 0⟩), (13, ⟨[], .si .i64 (m : Int)⟩), (17, ⟨[], .fn (.func 36) [] [.sp 1 0, .sp 2 0, .sp 3 0]⟩), (170, ⟨[], .si .i64 (n : Int)⟩), (171, ⟨[], .si .i64 (z.1 : Int)⟩)], [], [(1, .cells 24 (paA 0 it ag)), (2, .cells 3 [.si .i64 y]), (3, .cells 3 [.si .i64 b]), (0, .ro 5 n fun i => ppC (L i))], 4, []⟩)
      (fun z => n - z.1) hG ⟨0, Nat.zero_le _⟩ (fun j => j) ?_ ?_
    · refine ⟨?_, ?_, rfl, rfl, rfl, rfl, trivial⟩ <;> repeat' (first | exact trivial | exact rfl | exact hSm | exact List.Perm.refl _ | (intro i hi; exact ⟨rfl, rfl⟩) | refine And.intro ?_ ?_)
    rintro ⟨i, hi⟩
    refine Br.mk (fun h6 => ?_) (fun h6 => ?_)
    rotate_left
    · exact ⟨.inl rfl, end_noid rfl rfl rfl (by repeat' (first | exact trivial | exact rfl | (intro i hi; exact ⟨rfl, rfl⟩) | refine And.intro ?_ ?_))⟩
    have h6 : (i : Int) < (n : Int) := of_decide_eq_true h6
    have hin : i < n := by omega
    obtain ⟨s1, s2⟩ := sh_in8 (S := (m : Int)) (i := i) ⟨by omega, by omega⟩ (by omega)
    refine Chk.mk s1 (Chk.mk s2 ?_)
    refine Br.mk (fun h7 => ?_) (fun h7 => ?_)
    · refine Chk.mk (show InK .i64 ((i : Int) + 1) from ⟨by omega, by omega⟩) ⟨⟨i + 1, by omega⟩, (fun j => j), ?_, by show n - (i + 1) < n - i; omega⟩
      refine ⟨?_, ?_, rfl, rfl, rfl, rfl, trivial⟩ <;> repeat' (first | exact trivial | exact rfl | exact List.Perm.refl _ | (intro i hi; exact ⟨rfl, rfl⟩) | refine And.intro ?_ ?_)
    have hbt := bit0 h7
    obtain ⟨q, hq⟩ : ∃ q : Nat, q = 2 ^ i := ⟨_, rfl⟩
    have hp2 : (1 : Int) * 2 ^ ((i : Nat) : Int).toNat = (q : Int) := by rw [hq, Int.toNat_natCast]; push_cast; omega
    have hp3 : q ≤ 2 ^ 8 := by rw [hq]; exact Nat.pow_le_pow_right (by decide) (by omega)
    have hpl := pop_less m (by omega) i (by omega) hbt
    rw [← hq] at hpl
    refine Chk.mk ⟨by omega, by rw [Int.toNat_natCast]; show i ≤ 64; omega, by rw [hp2]; exact ⟨by omega, by omega⟩⟩ ?_
    rw [hp2]
    refine Chk.mk ⟨by omega, by omega, ⟨by omega, by omega⟩, by omega, by omega⟩ ?_
    generalize hM : (m : Int).toNat - ((m : Int).toNat &&& (q : Int).toNat) = M
    rw [Int.toNat_natCast, Int.toNat_natCast] at hM
    refine Chk.mk ⟨pps_i _ _, hvn, hy, by omega, by omega⟩ ?_
    refine Br.mk (fun h8 => ?_) (fun _ => ?_)
    · exfalso
      have h8 : (decide ((rnw n (ppAt fun i => ppC (L i)) (M : Int) y).length ≤ 8) && (decide ((rnw n (ppAt fun i => ppC (L i)) (M : Int) y).length ≤ 8) && enoB it ag n (ppAt fun i => ppC (L i)) (M : Int) y b)) = true := h8
      rw [eno] at h8
      have ho : enoP it ag ps y b M = true := (Bool.and_eq_true_iff.1 (Bool.and_eq_true_iff.1 h8).2).2
      have := (m3 M (by omega) ho).1
      rw [← hM] at this
      omega
    · refine Chk.mk (show InK .i64 ((i : Int) + 1) from ⟨by omega, by omega⟩) ⟨⟨i + 1, by omega⟩, (fun j => j), ?_, by show n - (i + 1) < n - i; omega⟩
      refine ⟨?_, ?_, rfl, rfl, rfl, rfl, trivial⟩ <;> repeat' (first | exact trivial | exact rfl | exact List.Perm.refl _ | (intro i hi; exact ⟨rfl, rfl⟩) | refine And.intro ?_ ?_)
end Go.X.Ps
end
