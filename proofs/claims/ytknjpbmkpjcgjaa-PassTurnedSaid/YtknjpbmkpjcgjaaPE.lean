/- The walk of PassTurned. -/
import Derived.Test.YtknjpbmkpjcgjaaPD

section
set_option linter.unusedVariables false
set_option linter.unusedSimpArgs false
set_option linter.unusedSectionVars false
/- Pass: PassTurned answers true. -/
set_option linter.unusedVariables false
set_option linter.unusedSimpArgs false
set_option maxRecDepth 10000
set_option maxHeartbeats 4000000
namespace Go.X.Ps
open Go Go.Proofs Go.X
def c12 : Ct := fun fr args H => match args with
  | [.agg l, .si .u8 a, .si .u8 b, .si .u8 d] => passK H l fun i1 it ag n get => some ⟨some (Pps n get ∧ ((0 ≤ a ∧ a < 256) ∧ (0 ≤ b ∧ b < 256) ∧ 0 ≤ d ∧ d < 256)), none, .sb true, []⟩
  | _ => none
def F12 (n : Nat) (y s d : Int) (i : Nat) : List (Nat × FE) := [(4, ⟨[], .sp 1 0⟩), (9, ⟨[], .si .i64 y⟩), (10, ⟨[], .si .i64 s⟩), (11, ⟨[], .si .i64 d⟩), (12, ⟨[], .fn (.func 39) [] [.sp 1 0]⟩), (13, ⟨[], .sp 2 0⟩), (14, ⟨[], .sp 3 0⟩), (65, ⟨[], .sl 0⟩), (66, ⟨[], .si .i64 (n : Int)⟩), (67, ⟨[], .si .i64 (i : Int)⟩)]
def H12 (it ag : Int) (n : Nat) (L : Nat → Pp) (s : Int) (i : Nat) : List (Nat × HB) := [(5, .vec 49 5 i fun j => ppC (shP s (L j))), (3, .cells 24 [.si .i64 it, .si .i64 ag, .sl 5]), (4, .vec 49 5 i fun j => ppC (trV it n L j)), (2, .cells 24 [.si .i64 it, .si .i64 ag, .sl 4]), (1, .cells 24 (paA 0 it ag)), (0, .ro 5 n fun i => ppC (L i))]
theorem k12 {l : List (Nat × Ct)} (g0 : Good P T l) : COk P 12 c12 := by
  have g := g33 (g14 (g15 (g17 (g21 (g22 (g28 (g29 (g38 (g39 (g40 good0))))))))))
  refine cok (C := tabC _) g.ok Try.func12 (c := code Try.f12) rfl fun fr args H out h hp => ?_
  unfold c12 at h
  split at h
  case h_2 => cases h
  rename_i l a b d
  obtain ⟨i1, it, ag, n, get, rfl, e1, h⟩ := passK_some h
  cases h
  obtain ⟨hs, ha, hb, hd⟩ : Pps n get ∧ ((0 ≤ a ∧ a < 256) ∧ (0 ≤ b ∧ b < 256) ∧ 0 ≤ d ∧ d < 256) := hp
  refine ⟨[(i1, .ro 5 n fun i => ppC (ppAt get i))], [.agg (paA 0 it ag), .si .u8 a, .si .u8 b, .si .u8 d], [(0, .ro 5 n fun i => ppC (ppAt get i))], 1, [], rfl, rfl, Nat.le_of_ble_eq_true rfl, pp_hand e1 hs, rfl, rfl, fun G hG => ?_⟩
  generalize ppAt get = L
  refine Chk.mk (pps_i _ _) ?_
  refine Br.mk (fun h => ?_) (fun h => ?_)
  · exact ⟨.inl rfl, end_noid rfl rfl rfl (by repeat' (first | exact trivial | exact rfl | (intro i hi; exact ⟨rfl, rfl⟩) | refine And.intro ?_ ?_))⟩
  have h : (!validV it ag (papL n fun i => ppC (L i))) = false := h
  have hv : validV it ag (papL n fun i => ppC (L i)) = true := by simpa using h
  obtain ⟨hr, hit, hn8⟩ := valid_ok (r := L) (n := n) hv
  have hbad := valid_all (L := L) (n := n) hv
  have hn : n ≤ 1000000 := by omega
  refine Chk.mk (show InK .i64 a from ⟨by omega, by omega⟩) (Chk.mk (show (21 : Int) ≠ 0 by decide) (Chk.mk (show InK .i64 b from ⟨by omega, by omega⟩) (Chk.mk (show (8 : Int) ≠ 0 by decide) (Chk.mk (show InK .i64 d from ⟨by omega, by omega⟩) ?_))))
  have hy := tmod_b ha.1 (show (0 : Int) < 21 by decide)
  have hby := tmod_b hb.1 (show (0 : Int) < 8 by decide)
  generalize a.tmod 21 = y at hy ⊢
  generalize b.tmod 8 = s at hby ⊢
  refine drawn_ok (g.ok _ _ _) fol [0,1,0,4,15,0,32,0,128,480,0,0,3103,8191] [(12, 42), (13, 46)] 14 (by kernel_rfl) ?_
  refine nil_at 42 24 49 5 (fun _ => []) [.si .i64 it, .si .i64 ag] [] rfl ?_
  refine nil_at 46 24 49 5 (fun _ => []) [.si .i64 it, .si .i64 ag] [] rfl ?_
  have hlen : ∀ i, i < n → (0 : Int) ≤ (i : Int) ∧ (i : Int) < (n : Int) := fun i hi => ⟨by omega, by omega⟩
  refine loop_okR (g.ok _ _ _) 1 (fun z : {i : Nat // i ≤ n} => ⟨F12 n y s d z.1, [], H12 it ag n L s z.1, 6, []⟩) (fun z => n - z.1) hG ⟨0, Nat.zero_le _⟩ (fun j => match j with | 2 => 42 | 3 => 46 | 4 => 58 | 5 => 59 | j => j) ?_ ?_
  · refine ⟨?_, ?_, rfl, rfl, rfl, rfl, trivial⟩ <;> repeat' (first | exact trivial | exact rfl | exact List.Perm.refl _ | (intro i hi; exact absurd hi (Nat.not_lt_zero _)) | (intro i hi; exact ⟨rfl, rfl⟩) | refine And.intro ?_ ?_)
  rintro ⟨i, hi⟩
  have hi : i ≤ n := hi
  refine Br.mk (fun h => ?_) (fun h => ?_)
  · have h : (i : Int) < (n : Int) := of_decide_eq_true h
    have hidx : ((n : Int) - 1 - (i : Int)).toNat = n - 1 - i := by omega
    have hbt := bad_in (hbad (n - 1 - i) (by omega))
    have hbi := bad_in (hbad i (by omega))
    refine Chk.mk (hlen i (by omega)) ?_
    refine Chk.mk (show InK .i64 ((n : Int) - 1) from ⟨by omega, by omega⟩) (Chk.mk (show InK .i64 ((n : Int) - 1 - (i : Int)) from ⟨by omega, by omega⟩) (Chk.mk (show (0 : Int) ≤ (n : Int) - 1 - (i : Int) ∧ (n : Int) - 1 - (i : Int) < (n : Int) from ⟨by omega, by omega⟩) ?_))
    rw [← hidx] at hbt
    refine drawn_ok (g.ok _ _ _) fol [0,1,0,0,8,28,0,0,128,508,0,1024,0,4096,0,16384,65532,131068,262143,524287,1048575] [] 18 (by kernel_rfl) ?_
    refine Chk.mk (under_of ⟨pps_i _ _, hit, (show -1 ≤ (L ((n : Int) - 1 - (i : Int)).toNat).of by have := hbt.1.1; omega), hbt.1.1.2⟩) (Chk.mk (under_of ⟨pps_i _ _, hit, hbt.1.2.1, hbt.1.2.2⟩) ?_)
    have htr : ∀ j, j < i + 1 → ppC (trV it n L j) = if j < i then ppC (trV it n L j) else ppC (turnP it (L ((n : Int) - 1 - (i : Int)).toNat)) := fun j hj => by
      split
      · rfl
      · have e : j = i := by omega
        rw [e]
        unfold trV
        rw [hidx]
    refine fb_append (Te := 0) 4 76 i 1 (fun j => ppC (trV it n L j)) _ (fun j => ppC (trV it n L j)) (g.ok _ _ _) cont_std rfl rfl rfl rfl rfl rfl rfl rfl rfl rfl rfl rfl (by decide) (by decide) rfl rfl rfl rfl (by omega) ?_ ?_
    · intro j hj
      rw [htr j hj]
      split
      · rfl
      · have e : j - i = 0 := by omega
        rw [e]; rfl
    refine drawn_ok (g.ok _ _ _) fol [0,1,0,4,0,16,0,64,0,256,0,1792,0,4096,16380,32764,65535,131071,262143] [] 16 (by kernel_rfl) ?_
    refine Chk.mk (show InK .i64 ((L i).yr + s) from ⟨by omega, by omega⟩) ?_
    refine fb_append (Te := 0) 5 141 i 1 (fun j => ppC (shP s (L j))) _ (fun j => ppC (shP s (L j))) (g.ok _ _ _) cont_std rfl rfl rfl rfl rfl rfl rfl rfl rfl rfl rfl rfl (by decide) (by decide) rfl rfl rfl rfl (by omega) ?_ ?_
    · intro j hj
      split
      · rfl
      · have e : j - i = 0 := by omega
        have e2 : j = i := by omega
        rw [e, e2]; rfl
    refine Chk.mk (show InK .i64 ((i : Int) + 1) from ⟨by omega, by omega⟩) ⟨⟨i + 1, by omega⟩, (fun j => match j with | 4 => 80 | 5 => 145 | j => j), ?_, by show n - (i + 1) < n - i; omega⟩
    refine ⟨?_, ?_, rfl, rfl, rfl, rfl, trivial⟩ <;> repeat' (first | exact trivial | exact rfl | exact List.Perm.refl _ | (intro i hi; exact ⟨rfl, rfl⟩) | refine And.intro ?_ ?_)
  have h : ¬ (i : Int) < (n : Int) := of_decide_eq_false h
  obtain rfl : n = i := by omega
  have hd2 : 0 ≤ d ∧ d ≤ 2000 := by omega
  have hy2 : 0 ≤ y ∧ y ≤ 20 := by omega
  refine Chk.mk ⟨pps_i _ _, hn⟩ (Chk.mk ⟨pps_i _ _, hn⟩ ?_)
  obtain ⟨t1, t2⟩ := tr_ren hv hn8 hy2 hd2
  have r1 := ren_b hv (by rw [papL_len]; exact hn8) hy2 hd2
  have r2 := ren_b (tr_valid' hv) (by rw [papL_len]; exact hn8) hy2 hd2
  refine Chk.mk (under_of (show renR it ag (papL n fun i => ppC (L i)) y d < 4611686018427387904 by omega)) (Chk.mk (under_of (show renR it ag (papL n fun j => ppC (trV it n L j)) y d < 4611686018427387904 by omega)) ?_)
  refine Br.mk (fun h2 => ?_) (fun _ => ?_)
  · exfalso
    have h2 : (!decide (renE it ag (papL n fun i => ppC (L i)) y d = renE it ag (papL n fun j => ppC (trV it n L j)) y d) || decide (renR it ag (papL n fun i => ppC (L i)) y d < 0) || decide (renR it ag (papL n fun j => ppC (trV it n L j)) y d < 0) || !decide (((sizeN (renR it ag (papL n fun i => ppC (L i)) y d).toNat : Nat) : Int) = ((sizeN (renR it ag (papL n fun j => ppC (trV it n L j)) y d).toNat : Nat) : Int))) = true := h2
    rw [t1, t2] at h2
    simp at h2
    omega
  have hps2 : ∀ i, i < n → (fun j => ppC (shP s (L j))) i = ppC (shP s (L i)) := fun i _ => rfl
  refine Chk.mk ⟨pps_i _ _, hn⟩ (Chk.mk (under_of (show InK .i64 (y + s) from ⟨by omega, by omega⟩)) ?_)
  obtain ⟨can, hcan⟩ : ∃ can, (validV it ag (papL n fun j => ppC (shP s (L j))) && decide (y + s ≤ 20)) = can := ⟨_, rfl⟩
  have hcv : can = true → validV it ag (papL n fun j => ppC (shP s (L j))) = true ∧ y + s ≤ 20 := fun hc => by
    rw [hc, Bool.and_eq_true, decide_eq_true_eq] at hcan
    exact hcan
  refine Br.mk (fun h => ?_) (fun h => ?_)
  · have h : (validV it ag (papL n fun j => ppC (shP s (L j))) && decide (y + s ≤ 20)) = true := h
    obtain ⟨hv2, hys⟩ := hcv (hcan.symm.trans h)
    obtain ⟨q1, q2⟩ := sh_ren (lim := d) hv hv2 hy2 ⟨hby.1, hys⟩
    refine Chk.mk (show InK .i64 (y + s) from ⟨by omega, by omega⟩) (Chk.mk ⟨pps_i _ _, hn⟩ ?_)
    refine Br.mk (fun h2 => ?_) (fun _ => ?_)
    · exfalso
      have h2 : (!decide (renR it ag (papL n fun j => ppC (shP s (L j))) (y + s) d = renR it ag (papL n fun i => ppC (L i)) y d) || !decide (renE it ag (papL n fun j => ppC (shP s (L j))) (y + s) d = renE it ag (papL n fun i => ppC (L i)) y d)) = true := h2
      rw [q1, q2] at h2
      simp at h2
    refine loop_okR (g.ok _ _ _) 1 (fun z : {i : Nat // (i : Int) ≤ it} => ⟨[(4, ⟨[], .sp 1 0⟩), (9, ⟨[], .si .i64 y⟩), (10, ⟨[], .si .i64 s⟩), (11, ⟨[], .si .i64 d⟩), (12, ⟨[], .fn (.func 39) [] [.sp 1 0]⟩), (13, ⟨[], .sp 2 0⟩), (14, ⟨[], .sp 3 0⟩), (23, ⟨[], .sb can⟩), (182, ⟨[], .si .i64 it⟩), (183, ⟨[], .si .i64 (z.1 : Int)⟩)], [], H12 it ag n L s n, 6, []⟩) (fun z => it.toNat - z.1) hG ⟨0, by omega⟩ (fun j => j) ?_ ?_
    · refine ⟨?_, ?_, rfl, rfl, rfl, rfl, trivial⟩ <;> repeat' (first | exact trivial | exact rfl | exact hcan | exact List.Perm.refl _ | (intro i hi; exact ⟨rfl, rfl⟩) | refine And.intro ?_ ?_)
    rintro ⟨i, hi⟩
    have hi : (i : Int) ≤ it := hi
    refine Br.mk (fun h => ?_) (fun h => ?_)
    · have h : (i : Int) < it := of_decide_eq_true h
      have hq : 0 ≤ (i : Int) ∧ (i : Int) < it := ⟨by omega, h⟩
      have htq : turnQ it (i : Int) = it - 1 - (i : Int) := turnQ_pos hq
      obtain ⟨b1, b2⟩ := tr_bound hv hit hq hy2
      obtain ⟨u1, u2⟩ := tr_until hv hit hq hy2 hd2
      rw [← htq] at b1 b2 u1 u2
      refine Chk.mk ⟨pps_i _ _, hn⟩ ?_
      refine drawn_ok (g.ok _ _ _) fol [0,0,0,6,0,31,63,127,127,255,1023] [] 11 (by kernel_rfl) ?_
      refine Chk.mk ⟨pps_i _ _, hit, by omega, hq.2⟩ (Chk.mk ⟨pps_i _ _, hn⟩ ?_)
      refine Chk.mk ⟨pps_i _ _, hn⟩ ?_
      refine drawn_ok (g.ok _ _ _) fol [0,0,0,6,0,0,63,127,255,255,511,2047] [] 12 (by kernel_rfl) ?_
      refine Chk.mk ⟨pps_i _ _, hit, by omega, hq.2⟩ (Chk.mk ⟨pps_i _ _, hn⟩ ?_)
      refine Br.mk (fun h2 => ?_) (fun _ => ?_)
      · exfalso
        have h2 : (!decide (boundR it ag (papL n fun i => ppC (L i)) (i : Int) y = boundR it ag (papL n fun j => ppC (trV it n L j)) (turnQ it (i : Int)) y) || !decide (boundE it ag (papL n fun i => ppC (L i)) (i : Int) y = boundE it ag (papL n fun j => ppC (trV it n L j)) (turnQ it (i : Int)) y) || !decide (untilR it ag (papL n fun i => ppC (L i)) (i : Int) y d = untilR it ag (papL n fun j => ppC (trV it n L j)) (turnQ it (i : Int)) y d) || !decide (untilE it ag (papL n fun i => ppC (L i)) (i : Int) y d = untilE it ag (papL n fun j => ppC (trV it n L j)) (turnQ it (i : Int)) y d)) = true := h2
        rw [b1, b2, u1, u2] at h2
        simp at h2
      refine Br.mk (fun h2 => ?_) (fun _ => ?_)
      · have h2 : can = true := h2
        obtain ⟨hv2, hys⟩ := hcv h2
        obtain ⟨s1, s2, s3⟩ := sh_bound hv hv2 hit hq hy2 ⟨hby.1, hys⟩
        have hcl := chain_le hv hit hq hy2
        refine Chk.mk (show InK .i64 (y + s) from ⟨by omega, by omega⟩) (Chk.mk ⟨pps_i _ _, hn⟩ (Chk.mk ⟨pps_i _ _, hn⟩ (Chk.mk (show InK .i64 (y + s) from ⟨by omega, by omega⟩) (Chk.mk ⟨pps_i _ _, hn⟩ ?_))))
        refine Chk.mk (under_of ⟨⟨ints_getI _ _, ints_getI _ _⟩, (show (chainL it ag (papL n fun i => ppC (L i)) (i : Int) y).length ≤ 1000000 by omega), (show (chainL it ag (papL n fun j => ppC (shP s (L j))) (i : Int) (y + s)).length ≤ 1000000 by rw [s3]; omega)⟩) ?_
        refine Br.mk (fun h3 => ?_) (fun _ => ?_)
        · exfalso
          have h3 : (!decide (boundR it ag (papL n fun j => ppC (shP s (L j))) (i : Int) (y + s) = boundR it ag (papL n fun i => ppC (L i)) (i : Int) y) || !decide (boundE it ag (papL n fun j => ppC (shP s (L j))) (i : Int) (y + s) = boundE it ag (papL n fun i => ppC (L i)) (i : Int) y) || !decide (boundE it ag (papL n fun i => ppC (L i)) (i : Int) y = boundE it ag (papL n fun j => ppC (shP s (L j))) (i : Int) (y + s)) || !decide (intL (chainL it ag (papL n fun i => ppC (L i)) (i : Int) y).length (intAt (getI (chainL it ag (papL n fun i => ppC (L i)) (i : Int) y))) = intL (chainL it ag (papL n fun j => ppC (shP s (L j))) (i : Int) (y + s)).length (intAt (getI (chainL it ag (papL n fun j => ppC (shP s (L j))) (i : Int) (y + s)))))) = true := h3
          rw [s1, s2, intL_getI, intL_getI, s3] at h3
          simp at h3
        refine Chk.mk (show InK .i64 ((i : Int) + 1) from ⟨by omega, by omega⟩) ⟨⟨i + 1, by omega⟩, (fun j => j), ?_, by show it.toNat - (i + 1) < it.toNat - i; omega⟩
        refine ⟨?_, ?_, rfl, rfl, rfl, rfl, trivial⟩ <;> repeat' (first | exact trivial | exact rfl | exact List.Perm.refl _ | (intro i hi; exact ⟨rfl, rfl⟩) | refine And.intro ?_ ?_)
      · refine Chk.mk (show InK .i64 ((i : Int) + 1) from ⟨by omega, by omega⟩) ⟨⟨i + 1, by omega⟩, (fun j => j), ?_, by show it.toNat - (i + 1) < it.toNat - i; omega⟩
        refine ⟨?_, ?_, rfl, rfl, rfl, rfl, trivial⟩ <;> repeat' (first | exact trivial | exact rfl | exact List.Perm.refl _ | (intro i hi; exact ⟨rfl, rfl⟩) | refine And.intro ?_ ?_)
    · exact ⟨.inl rfl, end_noid rfl rfl rfl (by repeat' (first | exact trivial | exact rfl | (intro i hi; exact ⟨rfl, rfl⟩) | refine And.intro ?_ ?_))⟩
  · have h : (validV it ag (papL n fun j => ppC (shP s (L j))) && decide (y + s ≤ 20)) = false := h
    refine loop_okR (g.ok _ _ _) 1 (fun z : {i : Nat // (i : Int) ≤ it} => ⟨[(4, ⟨[], .sp 1 0⟩), (9, ⟨[], .si .i64 y⟩), (10, ⟨[], .si .i64 s⟩), (11, ⟨[], .si .i64 d⟩), (12, ⟨[], .fn (.func 39) [] [.sp 1 0]⟩), (13, ⟨[], .sp 2 0⟩), (14, ⟨[], .sp 3 0⟩), (23, ⟨[], .sb can⟩), (182, ⟨[], .si .i64 it⟩), (183, ⟨[], .si .i64 (z.1 : Int)⟩)], [], H12 it ag n L s n, 6, []⟩) (fun z => it.toNat - z.1) hG ⟨0, by omega⟩ (fun j => j) ?_ ?_
    · refine ⟨?_, ?_, rfl, rfl, rfl, rfl, trivial⟩ <;> repeat' (first | exact trivial | exact rfl | exact hcan | exact List.Perm.refl _ | (intro i hi; exact ⟨rfl, rfl⟩) | refine And.intro ?_ ?_)
    rintro ⟨i, hi⟩
    have hi : (i : Int) ≤ it := hi
    refine Br.mk (fun h => ?_) (fun h => ?_)
    · have h : (i : Int) < it := of_decide_eq_true h
      have hq : 0 ≤ (i : Int) ∧ (i : Int) < it := ⟨by omega, h⟩
      have htq : turnQ it (i : Int) = it - 1 - (i : Int) := turnQ_pos hq
      obtain ⟨b1, b2⟩ := tr_bound hv hit hq hy2
      obtain ⟨u1, u2⟩ := tr_until hv hit hq hy2 hd2
      rw [← htq] at b1 b2 u1 u2
      refine Chk.mk ⟨pps_i _ _, hn⟩ ?_
      refine drawn_ok (g.ok _ _ _) fol [0,0,0,6,0,31,63,127,127,255,1023] [] 11 (by kernel_rfl) ?_
      refine Chk.mk ⟨pps_i _ _, hit, by omega, hq.2⟩ (Chk.mk ⟨pps_i _ _, hn⟩ ?_)
      refine Chk.mk ⟨pps_i _ _, hn⟩ ?_
      refine drawn_ok (g.ok _ _ _) fol [0,0,0,6,0,0,63,127,255,255,511,2047] [] 12 (by kernel_rfl) ?_
      refine Chk.mk ⟨pps_i _ _, hit, by omega, hq.2⟩ (Chk.mk ⟨pps_i _ _, hn⟩ ?_)
      refine Br.mk (fun h2 => ?_) (fun _ => ?_)
      · exfalso
        have h2 : (!decide (boundR it ag (papL n fun i => ppC (L i)) (i : Int) y = boundR it ag (papL n fun j => ppC (trV it n L j)) (turnQ it (i : Int)) y) || !decide (boundE it ag (papL n fun i => ppC (L i)) (i : Int) y = boundE it ag (papL n fun j => ppC (trV it n L j)) (turnQ it (i : Int)) y) || !decide (untilR it ag (papL n fun i => ppC (L i)) (i : Int) y d = untilR it ag (papL n fun j => ppC (trV it n L j)) (turnQ it (i : Int)) y d) || !decide (untilE it ag (papL n fun i => ppC (L i)) (i : Int) y d = untilE it ag (papL n fun j => ppC (trV it n L j)) (turnQ it (i : Int)) y d)) = true := h2
        rw [b1, b2, u1, u2] at h2
        simp at h2
      refine Br.mk (fun h2 => ?_) (fun _ => ?_)
      · have h2 : can = true := h2
        obtain ⟨hv2, hys⟩ := hcv h2
        obtain ⟨s1, s2, s3⟩ := sh_bound hv hv2 hit hq hy2 ⟨hby.1, hys⟩
        have hcl := chain_le hv hit hq hy2
        refine Chk.mk (show InK .i64 (y + s) from ⟨by omega, by omega⟩) (Chk.mk ⟨pps_i _ _, hn⟩ (Chk.mk ⟨pps_i _ _, hn⟩ (Chk.mk (show InK .i64 (y + s) from ⟨by omega, by omega⟩) (Chk.mk ⟨pps_i _ _, hn⟩ ?_))))
        refine Chk.mk (under_of ⟨⟨ints_getI _ _, ints_getI _ _⟩, (show (chainL it ag (papL n fun i => ppC (L i)) (i : Int) y).length ≤ 1000000 by omega), (show (chainL it ag (papL n fun j => ppC (shP s (L j))) (i : Int) (y + s)).length ≤ 1000000 by rw [s3]; omega)⟩) ?_
        refine Br.mk (fun h3 => ?_) (fun _ => ?_)
        · exfalso
          have h3 : (!decide (boundR it ag (papL n fun j => ppC (shP s (L j))) (i : Int) (y + s) = boundR it ag (papL n fun i => ppC (L i)) (i : Int) y) || !decide (boundE it ag (papL n fun j => ppC (shP s (L j))) (i : Int) (y + s) = boundE it ag (papL n fun i => ppC (L i)) (i : Int) y) || !decide (boundE it ag (papL n fun i => ppC (L i)) (i : Int) y = boundE it ag (papL n fun j => ppC (shP s (L j))) (i : Int) (y + s)) || !decide (intL (chainL it ag (papL n fun i => ppC (L i)) (i : Int) y).length (intAt (getI (chainL it ag (papL n fun i => ppC (L i)) (i : Int) y))) = intL (chainL it ag (papL n fun j => ppC (shP s (L j))) (i : Int) (y + s)).length (intAt (getI (chainL it ag (papL n fun j => ppC (shP s (L j))) (i : Int) (y + s)))))) = true := h3
          rw [s1, s2, intL_getI, intL_getI, s3] at h3
          simp at h3
        refine Chk.mk (show InK .i64 ((i : Int) + 1) from ⟨by omega, by omega⟩) ⟨⟨i + 1, by omega⟩, (fun j => j), ?_, by show it.toNat - (i + 1) < it.toNat - i; omega⟩
        refine ⟨?_, ?_, rfl, rfl, rfl, rfl, trivial⟩ <;> repeat' (first | exact trivial | exact rfl | exact List.Perm.refl _ | (intro i hi; exact ⟨rfl, rfl⟩) | refine And.intro ?_ ?_)
      · refine Chk.mk (show InK .i64 ((i : Int) + 1) from ⟨by omega, by omega⟩) ⟨⟨i + 1, by omega⟩, (fun j => j), ?_, by show it.toNat - (i + 1) < it.toNat - i; omega⟩
        refine ⟨?_, ?_, rfl, rfl, rfl, rfl, trivial⟩ <;> repeat' (first | exact trivial | exact rfl | exact List.Perm.refl _ | (intro i hi; exact ⟨rfl, rfl⟩) | refine And.intro ?_ ?_)
    · exact ⟨.inl rfl, end_noid rfl rfl rfl (by repeat' (first | exact trivial | exact rfl | (intro i hi; exact ⟨rfl, rfl⟩) | refine And.intro ?_ ?_))⟩
end Go.X.Ps
end
