/- The walk of PassMore. -/
import Derived.Test.YtknjpbmkpjcgjaaON

section
set_option linter.unusedVariables false
set_option linter.unusedSimpArgs false
set_option linter.unusedSectionVars false
/- Pass: PassMore answers true. -/
set_option linter.unusedVariables false
set_option linter.unusedSimpArgs false
set_option maxRecDepth 10000
set_option maxHeartbeats 4000000
namespace Go.X.Ps
open Go Go.Proofs Go.X

theorem snoc_get {n : Nat} {L : Nat → Pp} {ps : List Pp} {x : Pp} (hps : papL n (fun i => ppC (L i)) = ps) {j : Nat} (hj : j < n + 1) : ppC (pget (ps ++ [x]) j) = if j < n then ppC (L j) else (fun q => takeL 5 (dropL (q * 5) (ppC x))) (j - n) := by
  have hlen := tolen hps
  rw [pget_snoc (L := ps) (x := x) (j := j) (get2 := fun q => takeL 5 (dropL (q * 5) (ppC x))) rfl (by omega), hlen]
  split
  · rename_i h; rw [toget hps h]
  · rfl
theorem set_get {n k : Nat} {L : Nat → Pp} {ps : List Pp} {x : Pp} (hps : papL n (fun i => ppC (L i)) = ps) (hk : k < n) {j : Nat} (hj : j < n) : (if j = k then ppC x else ppC (L j)) = ppC (pget (ps.set k x) j) := by
  have hlen := tolen hps
  split
  · rename_i h
    subst h
    simp [pget, List.getD, show j < ps.length by omega]
  · rename_i h
    have : pget (ps.set k x) j = pget ps j := by simp [pget, List.getD, List.getElem?_set_ne (Ne.symm h)]
    rw [this, toget hps hj]
def c11 : Ct := fun fr args H => match args with
  | [.agg l, .agg [.si .i64 x0, .si .i64 x1, .si .i64 x2, .si .i64 x3, .si .i64 x4], .si .u8 a, .si .u8 b, .si .u8 d] => passK H l fun i1 it ag n get => some ⟨some (Pps n get ∧ ((0 ≤ a ∧ a < 256) ∧ (0 ≤ b ∧ b < 256) ∧ 0 ≤ d ∧ d < 256)), none, .sb true, []⟩
  | _ => none
theorem k11 {l : List (Nat × Ct)} (g0 : Good P T l) : COk P 11 c11 := by
  have g := g33 (g14 (g15 (g17 (g21 (g28 (g22 good0))))))
  refine cok (C := tabC _) g.ok Try.func11 (c := code Try.f11) rfl fun fr args H out h hp => ?_
  unfold c11 at h
  split at h
  case h_2 => cases h
  rename_i l x0 x1 x2 x3 x4 a b d
  obtain ⟨i1, it, ag, n, get, rfl, e1, h⟩ := passK_some h
  cases h
  obtain ⟨hs, ha, hb, hd⟩ : Pps n get ∧ ((0 ≤ a ∧ a < 256) ∧ (0 ≤ b ∧ b < 256) ∧ 0 ≤ d ∧ d < 256) := hp
  refine ⟨[(i1, .ro 5 n fun i => ppC (ppAt get i))], [.agg (paA 0 it ag), .agg (ppC ⟨x0, x1, x2, x3, x4⟩), .si .u8 a, .si .u8 b, .si .u8 d], [(0, .ro 5 n fun i => ppC (ppAt get i))], 1, [], rfl, rfl, Nat.le_of_ble_eq_true rfl, pp_hand e1 hs, rfl, rfl, fun G hG => ?_⟩
  generalize (⟨x0, x1, x2, x3, x4⟩ : Pp) = x
  generalize ppAt get = L
  obtain ⟨ps, hps⟩ : ∃ ps, papL n (fun i => ppC (L i)) = ps := ⟨_, rfl⟩
  refine Chk.mk (pps_i _ _) ?_
  refine Br.mk (fun h => ?_) (fun h => ?_)
  · exact ⟨.inl rfl, end_noid rfl rfl rfl (by repeat' (first | exact trivial | exact rfl | (intro i hi; exact ⟨rfl, rfl⟩) | refine And.intro ?_ ?_))⟩
  have h : (!validV it ag (papL n fun i => ppC (L i))) = false := h
  rw [hps] at h
  have hv : validV it ag ps = true := by simpa using h
  obtain ⟨hr, hit, hn8⟩ := valid_ok (r := L) (n := n) (by rw [← hps] at hv; exact hv)
  have hn : n ≤ 1000000 := by omega
  have hlen := tolen hps
  have hy := tmod_b hd.1 (show (0 : Int) < 21 by decide)
  refine Chk.mk (show InK .i64 d from ⟨by omega, by omega⟩) (Chk.mk (show (21 : Int) ≠ 0 by decide) ?_)
  generalize d.tmod 21 = y at hy
  have hy : 0 ≤ y ∧ y ≤ 20 := by omega
  refine fb_append0 _ _ n _ (g.ok _ _ _) cont_std rfl rfl rfl rfl rfl rfl rfl rfl rfl rfl rfl rfl (by decide) (by decide) rfl rfl rfl rfl (by decide) (by omega) ?_
  refine join_all (ι := {z : Int × List Pp // More ag ps z.1 z.2 ∧ z.2.length ≤ 1000}) (X := ⟨P, T, tabC [(33, c33), (14, c14), (15, c15), (17, c17), (21, c21), (28, c59), (22, c22)], G, none, Try.f11.ntmps⟩) (c := ?cc) (K := ?kk) (g.ok _ _ _) (fun z => ⟨[(5, ⟨[], .sp 1 0⟩), (12, ⟨[], .si .i64 y⟩), (13, ⟨[], .sp 3 0⟩), (16, ⟨[], .sl 6⟩), (117, ⟨[], .si .i64 it⟩), (118, ⟨[], .si .i64 0⟩)], [], [(6, .vec 49 5 n fun i => ppC (L i)), (5, .vec 49 5 (z.1.2).length fun j => ppC (pget (z.1.2) j)), (3, .cells 24 [.si .i64 it, .si .i64 z.1.1, .sl 5]), (1, .cells 24 (paA 0 it ag)), (0, .ro 5 n fun i => ppC (L i))], 7, []⟩) (fun hc => ?ha) ?hh
  case ha =>
    refine Chk.mk (show (4 : Int) ≠ 0 by decide) ?_
    refine Br.mk (fun h1 => ?_) (fun h1 => ?_)
    · refine fb_append (Te := 0) 5 _ n 1 (fun j => ppC (L j)) _ (fun j => ppC (pget (ps ++ [x]) j)) (g.ok _ _ _) cont_std rfl rfl rfl rfl rfl rfl rfl rfl rfl rfl rfl rfl (by decide) (by decide) rfl rfl rfl rfl (by omega) (fun j hj => ?_) ?_
      · exact snoc_get hps hj
      refine fb_append0 _ _ n _ (g.ok _ _ _) cont_std rfl rfl rfl rfl rfl rfl rfl rfl rfl rfl rfl rfl (by decide) (by decide) rfl rfl rfl rfl (by decide) (by omega) ?_
      refine sem_weaken (st' := ⟨[(5, ⟨[], .sp 1 0⟩), (12, ⟨[], .si .i64 y⟩), (13, ⟨[], .sp 3 0⟩), (16, ⟨[], .sl 6⟩), (117, ⟨[], .si .i64 it⟩), (118, ⟨[], .si .i64 0⟩)], [], [(6, .vec 49 5 n fun i => ppC (L i)), (5, .vec 49 5 (ps ++ [x]).length fun j => ppC (pget (ps ++ [x]) j)), (3, .cells 24 [.si .i64 it, .si .i64 ag, .sl 5]), (1, .cells 24 (paA 0 it ag)), (0, .ro 5 n fun i => ppC (L i))], 7, []⟩) 1 (fun j => match j with | 5 => 7 | 6 => 9 | j => j) hG ?_ (?_)
      have hl1 : n + 1 = (ps ++ [x]).length := by rw [List.length_append, hlen]; rfl
      rotate_left
      · exact hc ⟨(ag, ps ++ [x]), more_snoc, by rw [List.length_append, hlen]; show n + 1 ≤ 1000; omega⟩
      refine ⟨?_, ?_, rfl, rfl, rfl, rfl, trivial⟩ <;> repeat' (first | exact trivial | exact rfl | exact hl1 | exact List.Perm.refl _ | (intro i hi; exact ⟨rfl, rfl⟩) | refine And.intro ?_ ?_)
    refine Chk.mk (show (4 : Int) ≠ 0 by decide) ?_
    refine Br.mk (fun h2 => ?_) (fun h2 => ?_)
    · have hX : (decide (a.tmod 4 = 1) && decide (0 < (n : Int))) = true := h2
      have hn0 : 0 < n := by have := of_decide_eq_true (Bool.and_eq_true_iff.1 hX).2; omega
      have hq := tmod_b hb.1 (show (0 : Int) < (n : Int) by omega)
      refine drawn_ok (g.ok _ _ _) fol [0,1,0,4,0,28,63,127] [] 8 (by kernel_rfl) ?_
      refine Chk.mk (show InK .i64 b from ⟨by omega, by omega⟩) (Chk.mk (show (n : Int) ≠ 0 by omega) (Chk.mk (show (0 : Int) ≤ b.tmod (n : Int) ∧ b.tmod (n : Int) < (n : Int) from hq) ?_))
      obtain ⟨k, hk⟩ : ∃ k : Nat, b.tmod (n : Int) = (k : Int) := ⟨(b.tmod (n : Int)).toNat, by omega⟩
      rw [hk] at hq ⊢
      have hkn : k < n := by omega
      have hrk := hr.2.2 k hkn
      refine Chk.mk (show InK .i64 ((L k).wr - 1) from ⟨by omega, by omega⟩) ?_
      refine fb_storeV 5 49 5 n (k : Int) 2 (fun j => ppC (L j)) (fun j => if j = k then ppC (⟨(L k).of, (L k).by_, max 0 ((L k).wr - 1), (L k).yr, (L k).dr⟩) else ppC (L j)) [.si .i64 (max 0 ((L k).wr - 1))] (g.ok _ _ _) cont_std rfl rfl rfl rfl rfl rfl rfl rfl rfl rfl ⟨by omega, by omega⟩ (show 2 + 1 ≤ 5 by decide) (fun j hj => ?_) ?_
      · rw [Int.toNat_natCast]; split
        · rename_i e; subst e; rfl
        · rfl
      refine fb_append0 _ _ n _ (g.ok _ _ _) cont_std rfl rfl rfl rfl rfl rfl rfl rfl rfl rfl rfl rfl (by decide) (by decide) rfl rfl rfl rfl (by decide) (by omega) ?_
      refine sem_weaken (st' := ⟨[(5, ⟨[], .sp 1 0⟩), (12, ⟨[], .si .i64 y⟩), (13, ⟨[], .sp 3 0⟩), (16, ⟨[], .sl 6⟩), (117, ⟨[], .si .i64 it⟩), (118, ⟨[], .si .i64 0⟩)], [], [(6, .vec 49 5 n fun i => ppC (L i)), (5, .vec 49 5 (ps.set k (⟨(L k).of, (L k).by_, max 0 ((L k).wr - 1), (L k).yr, (L k).dr⟩)).length fun j => ppC (pget (ps.set k (⟨(L k).of, (L k).by_, max 0 ((L k).wr - 1), (L k).yr, (L k).dr⟩)) j)), (3, .cells 24 [.si .i64 it, .si .i64 ag, .sl 5]), (1, .cells 24 (paA 0 it ag)), (0, .ro 5 n fun i => ppC (L i))], 7, []⟩) 1 (fun j => match j with | 6 => 39 | j => j) hG ?_ (?_)
      rotate_left
      · exact hc ⟨(ag, ps.set k (⟨(L k).of, (L k).by_, max 0 ((L k).wr - 1), (L k).yr, (L k).dr⟩)), more_set (by rw [toget hps hkn]; exact ⟨rfl, rfl, rfl, by show max 0 ((L k).wr - 1) ≤ (L k).wr; omega, Int.le_refl _⟩), by rw [List.length_set, hlen]; omega⟩
      refine ⟨?_, ?_, rfl, rfl, rfl, rfl, trivial⟩ <;> repeat' (first | exact trivial | exact rfl | exact (show n = (ps.set k (⟨(L k).of, (L k).by_, max 0 ((L k).wr - 1), (L k).yr, (L k).dr⟩)).length by rw [List.length_set, hlen]) | exact List.Perm.refl _ | (intro i hi; exact ⟨rfl, rfl⟩) | (intro j hj; exact ⟨set_get hps hkn hj, rfl⟩) | refine And.intro ?_ ?_)
    refine Chk.mk (show (4 : Int) ≠ 0 by decide) ?_
    refine Br.mk (fun h3 => ?_) (fun h3 => ?_)
    · have hX : (decide (a.tmod 4 = 2) && decide (0 < (n : Int))) = true := h3
      have hn0 : 0 < n := by have := of_decide_eq_true (Bool.and_eq_true_iff.1 hX).2; omega
      have hq := tmod_b hb.1 (show (0 : Int) < (n : Int) by omega)
      refine drawn_ok (g.ok _ _ _) fol [0,1,0,4,0,28,63,127] [] 8 (by kernel_rfl) ?_
      refine Chk.mk (show InK .i64 b from ⟨by omega, by omega⟩) (Chk.mk (show (n : Int) ≠ 0 by omega) (Chk.mk (show (0 : Int) ≤ b.tmod (n : Int) ∧ b.tmod (n : Int) < (n : Int) from hq) ?_))
      obtain ⟨k, hk⟩ : ∃ k : Nat, b.tmod (n : Int) = (k : Int) := ⟨(b.tmod (n : Int)).toNat, by omega⟩
      rw [hk] at hq ⊢
      have hkn : k < n := by omega
      have hrk := hr.2.2 k hkn
      refine Chk.mk (show InK .i64 ((L k).dr - 1) from ⟨by omega, by omega⟩) ?_
      refine fb_storeV 5 49 5 n (k : Int) 4 (fun j => ppC (L j)) (fun j => if j = k then ppC (⟨(L k).of, (L k).by_, (L k).wr, (L k).yr, max 0 ((L k).dr - 1)⟩) else ppC (L j)) [.si .i64 (max 0 ((L k).dr - 1))] (g.ok _ _ _) cont_std rfl rfl rfl rfl rfl rfl rfl rfl rfl rfl ⟨by omega, by omega⟩ (show 4 + 1 ≤ 5 by decide) (fun j hj => ?_) ?_
      · rw [Int.toNat_natCast]; split
        · rename_i e; subst e; rfl
        · rfl
      refine fb_append0 _ _ n _ (g.ok _ _ _) cont_std rfl rfl rfl rfl rfl rfl rfl rfl rfl rfl rfl rfl (by decide) (by decide) rfl rfl rfl rfl (by decide) (by omega) ?_
      refine sem_weaken (st' := ⟨[(5, ⟨[], .sp 1 0⟩), (12, ⟨[], .si .i64 y⟩), (13, ⟨[], .sp 3 0⟩), (16, ⟨[], .sl 6⟩), (117, ⟨[], .si .i64 it⟩), (118, ⟨[], .si .i64 0⟩)], [], [(6, .vec 49 5 n fun i => ppC (L i)), (5, .vec 49 5 (ps.set k (⟨(L k).of, (L k).by_, (L k).wr, (L k).yr, max 0 ((L k).dr - 1)⟩)).length fun j => ppC (pget (ps.set k (⟨(L k).of, (L k).by_, (L k).wr, (L k).yr, max 0 ((L k).dr - 1)⟩)) j)), (3, .cells 24 [.si .i64 it, .si .i64 ag, .sl 5]), (1, .cells 24 (paA 0 it ag)), (0, .ro 5 n fun i => ppC (L i))], 7, []⟩) 1 (fun j => match j with | 6 => 39 | j => j) hG ?_ (?_)
      rotate_left
      · exact hc ⟨(ag, ps.set k (⟨(L k).of, (L k).by_, (L k).wr, (L k).yr, max 0 ((L k).dr - 1)⟩)), more_set (by rw [toget hps hkn]; exact ⟨rfl, rfl, rfl, Int.le_refl _, by show max 0 ((L k).dr - 1) ≤ (L k).dr; omega⟩), by rw [List.length_set, hlen]; omega⟩
      refine ⟨?_, ?_, rfl, rfl, rfl, rfl, trivial⟩ <;> repeat' (first | exact trivial | exact rfl | exact (show n = (ps.set k (⟨(L k).of, (L k).by_, (L k).wr, (L k).yr, max 0 ((L k).dr - 1)⟩)).length by rw [List.length_set, hlen]) | exact List.Perm.refl _ | (intro i hi; exact ⟨rfl, rfl⟩) | (intro j hj; exact ⟨set_get hps hkn hj, rfl⟩) | refine And.intro ?_ ?_)
    · refine Chk.mk (show InK .i64 (ag + 1) from ⟨by have := hr.2.1; omega, by have := hr.2.1; omega⟩) ?_
      refine fb_append0 _ _ n _ (g.ok _ _ _) cont_std rfl rfl rfl rfl rfl rfl rfl rfl rfl rfl rfl rfl (by decide) (by decide) rfl rfl rfl rfl (by decide) (by omega) ?_
      refine sem_weaken (st' := ⟨[(5, ⟨[], .sp 1 0⟩), (12, ⟨[], .si .i64 y⟩), (13, ⟨[], .sp 3 0⟩), (16, ⟨[], .sl 6⟩), (117, ⟨[], .si .i64 it⟩), (118, ⟨[], .si .i64 0⟩)], [], [(6, .vec 49 5 n fun i => ppC (L i)), (5, .vec 49 5 (ps).length fun j => ppC (pget (ps) j)), (3, .cells 24 [.si .i64 it, .si .i64 (min 20 (ag + 1)), .sl 5]), (1, .cells 24 (paA 0 it ag)), (0, .ro 5 n fun i => ppC (L i))], 7, []⟩) 1 (fun j => match j with | 6 => 7 | j => j) hG ?_ (?_)
      rotate_left
      · exact hc ⟨(min 20 (ag + 1), ps), more_age (by have := hr.2.1; omega), by show ps.length ≤ 1000; omega⟩
      refine ⟨?_, ?_, rfl, rfl, rfl, rfl, trivial⟩ <;> repeat' (first | exact trivial | exact rfl | exact hlen.symm | exact List.Perm.refl _ | (intro i hi; exact ⟨rfl, rfl⟩) | (intro j hj; exact ⟨congrArg ppC (toget hps hj).symm, rfl⟩) | refine And.intro ?_ ?_)
  case hh =>
    rintro ⟨⟨ag2, ps2⟩, hm, hl2⟩
    have hm : More ag ps ag2 ps2 := hm
    have hl2 : ps2.length ≤ 1000 := hl2
    refine loop_okR (g.ok _ _ _) 1 (fun z : {i : Nat // (i : Int) ≤ it} => ⟨[(5, ⟨[], .sp 1 0⟩), (12, ⟨[], .si .i64 y⟩), (13, ⟨[], .sp 3 0⟩), (16, ⟨[], .sl 6⟩), (117, ⟨[], .si .i64 it⟩), (118, ⟨[], .si .i64 (z.1 : Int)⟩)], [], [(6, .vec 49 5 n fun i => ppC (L i)), (5, .vec 49 5 ps2.length fun j => ppC (pget ps2 j)), (3, .cells 24 [.si .i64 it, .si .i64 ag2, .sl 5]), (1, .cells 24 (paA 0 it ag)), (0, .ro 5 n fun i => ppC (L i))], 7, []⟩)
      (fun z => (it - (z.1 : Int)).toNat) hG ⟨0, by omega⟩ (fun j => j) ?_ ?_
    · refine ⟨?_, ?_, rfl, rfl, rfl, rfl, trivial⟩ <;> repeat' (first | exact trivial | exact rfl | exact List.Perm.refl _ | (intro i hi; exact ⟨rfl, rfl⟩) | refine And.intro ?_ ?_)
    rintro ⟨i, hi⟩
    refine Br.mk (fun h => ?_) (fun h => ?_)
    · have h : (i : Int) < it := of_decide_eq_true h
      refine Chk.mk ⟨pps_i _ _, hn⟩ (Chk.mk ⟨pps_i _ _, hn⟩ ?_)
      have hcl : (chainL it ag (papL n fun i => ppC (L i)) (i : Int) y).length ≤ 40 := by rw [hps]; exact chain_le hv hit ⟨by omega, h⟩ hy
      refine fb_append0 _ _ (chainL it ag (papL n fun i => ppC (L i)) (i : Int) y).length _ (g.ok _ _ _) cont_std rfl rfl rfl rfl rfl rfl rfl rfl rfl rfl rfl rfl (by decide) (by decide) rfl rfl rfl rfl (by decide) (by omega) ?_
      refine loop_okR (g.ok _ _ _) 1 (fun w : {p : Nat × (Nat → Int) // p.1 ≤ (chainL it ag (papL n fun i => ppC (L i)) (i : Int) y).length} => ⟨[(5, ⟨[], .sp 1 0⟩), (12, ⟨[], .si .i64 y⟩), (13, ⟨[], .sp 3 0⟩), (16, ⟨[], .sl 6⟩), (117, ⟨[], .si .i64 it⟩), (118, ⟨[], .si .i64 (i : Int)⟩), (17, ⟨[], .si .i64 (i : Int)⟩), (18, ⟨[], .si .i64 (boundR it ag (papL n fun i => ppC (L i)) (i : Int) y)⟩), (19, ⟨[], .si .i64 (boundE it ag (papL n fun i => ppC (L i)) (i : Int) y)⟩), (20, ⟨[], .sl 7⟩), (21, ⟨[], .si .i64 (boundE it ag (papL n fun i => ppC (L i)) (i : Int) y)⟩), (22, ⟨[], .sl 8⟩), (139, ⟨[], .si .i64 ((chainL it ag (papL n fun i => ppC (L i)) (i : Int) y).length : Int)⟩), (140, ⟨[], .si .i64 (w.1.1 : Int)⟩)], [],
          [(8, .vec 3 1 (chainL it ag (papL n fun i => ppC (L i)) (i : Int) y).length (getI (chainL it ag (papL n fun i => ppC (L i)) (i : Int) y))), (7, .vec 3 1 (chainL it ag (papL n fun i => ppC (L i)) (i : Int) y).length fun j => intC (w.1.2 j)), (6, .vec 49 5 n fun i => ppC (L i)), (5, .vec 49 5 ps2.length fun j => ppC (pget ps2 j)), (3, .cells 24 [.si .i64 it, .si .i64 ag2, .sl 5]), (1, .cells 24 (paA 0 it ag)), (0, .ro 5 n fun i => ppC (L i))], 9, []⟩)
        (fun w => (chainL it ag (papL n fun i => ppC (L i)) (i : Int) y).length - w.1.1) hG ⟨(0, fun j => (chainL it ag (papL n fun i => ppC (L i)) (i : Int) y).getD j 0), Nat.zero_le _⟩ (fun j => match j with | 8 => 12 | j => j) ?_ ?_
      · refine ⟨?_, ?_, rfl, rfl, rfl, rfl, trivial⟩ <;> repeat' (first | exact trivial | exact rfl | exact List.Perm.refl _ | (intro i hi; exact ⟨rfl, rfl⟩) | refine And.intro ?_ ?_)
      rintro ⟨⟨j, f⟩, hj⟩
      have hj : j ≤ (chainL it ag (papL n fun i => ppC (L i)) (i : Int) y).length := hj
      have hch : chainL it ag (papL n fun i => ppC (L i)) (i : Int) y = chainL it ag ps (i : Int) y := by rw [hps]
      generalize chainL it ag (papL n fun i => ppC (L i)) (i : Int) y = ch at *
      refine Br.mk (fun h2 => ?_) (fun h2 => ?_)
      · have h2 : (j : Int) < (ch.length : Int) := of_decide_eq_true h2
        refine Chk.mk (show (0 : Int) ≤ (j : Int) ∧ (j : Int) < (ch.length : Int) from ⟨by omega, h2⟩) ?_
        refine fb_storeV 7 3 1 ch.length (j : Int) 0 (fun q => intC (f q)) (fun q => intC (if q = j then -7 else f q)) [.si .i64 (-7)] (g.ok _ _ _) cont_std rfl rfl rfl rfl rfl rfl rfl rfl rfl rfl ⟨by omega, h2⟩ (by decide) (fun q hq => ?_) ?_
        · rw [Int.toNat_natCast]; split <;> rfl
        refine Chk.mk (show InK .i64 ((j : Int) + 1) from ⟨by omega, by omega⟩) ⟨⟨(j + 1, fun q => if q = j then -7 else f q), by show j + 1 ≤ ch.length; omega⟩, (fun j => j), ?_, by show ch.length - (j + 1) < ch.length - j; omega⟩
        refine ⟨?_, ?_, rfl, rfl, rfl, rfl, trivial⟩ <;> repeat' (first | exact trivial | exact rfl | exact List.Perm.refl _ | (intro i hi; exact ⟨rfl, rfl⟩) | refine And.intro ?_ ?_)
      · refine Chk.mk ⟨pps_i _ _, hn⟩ ?_
        refine Chk.mk (under_of ⟨⟨ints_getI _ _, ints_getI _ _⟩, by rw [hps, ← hch]; omega, by omega⟩) ?_
        refine Br.mk (fun h3 => ?_) (fun h3 => ?_)
        · exfalso
          have h3 : (!decide (boundE it ag (papL n fun i => ppC (L i)) (i : Int) y = boundE it ag (papL n fun i => ppC (L i)) (i : Int) y) || !decide (boundE it ag (papL n fun i => ppC (L i)) (i : Int) y = boundE it ag (papL n fun i => ppC (L i)) (i : Int) y) || !decide (intL (chainL it ag (papL n fun i => ppC (L i)) (i : Int) y).length (intAt (getI (chainL it ag (papL n fun i => ppC (L i)) (i : Int) y))) = intL ch.length (intAt (getI ch)))) = true := h3
          rw [intL_getI, intL_getI, hps, hch] at h3
          simp at h3
        have hps2 : papL ps2.length (fun j => ppC (pget ps2 j)) = ps2 := map_pget ps2
        refine Chk.mk ⟨pps_i _ _, by omega⟩ ?_
        refine Br.mk (fun h4 => ?_) (fun h4 => ?_)
        · refine Chk.mk (show InK .i64 ((i : Int) + 1) from ⟨by omega, by omega⟩) ⟨⟨i + 1, by omega⟩, (fun j => j), ?_, by show (it - ((i + 1 : Nat) : Int)).toNat < (it - (i : Int)).toNat; omega⟩
          refine ⟨?_, ?_, rfl, rfl, rfl, rfl, trivial⟩ <;> repeat' (first | exact trivial | exact rfl | exact List.Perm.refl _ | (intro i hi; exact ⟨rfl, rfl⟩) | refine And.intro ?_ ?_)

        have h4 : (!validV it ag2 (papL ps2.length fun j => ppC (pget ps2 j))) = false := h4
        rw [hps2] at h4
        have hv2 : validV it ag2 ps2 = true := by simpa using h4
        have hmc := moreCond hm hv hv2 hit (q := (i : Int)) (y := y) ⟨by omega, h⟩ hy
        refine Chk.mk ⟨pps_i _ _, by omega⟩ (Chk.mk ⟨pps_i _ _, hn⟩ (Chk.mk ⟨pps_i _ _, by omega⟩ ?_))
        refine Br.mk (fun h5 => ?_) (fun h5 => ?_)
        · exfalso
          refine absurd h5 (Bool.eq_false_iff.1 ?_)
          rw [hps, hps2]
          exact hmc
        · refine Chk.mk (show InK .i64 ((i : Int) + 1) from ⟨by omega, by omega⟩) ⟨⟨i + 1, by omega⟩, (fun j => j), ?_, by show (it - ((i + 1 : Nat) : Int)).toNat < (it - (i : Int)).toNat; omega⟩
          refine ⟨?_, ?_, rfl, rfl, rfl, rfl, trivial⟩ <;> repeat' (first | exact trivial | exact rfl | exact List.Perm.refl _ | (intro i hi; exact ⟨rfl, rfl⟩) | refine And.intro ?_ ?_)

    · refine loop_okR (g.ok _ _ _) 1 (fun z : {i : Nat // i ≤ n} => ⟨[(5, ⟨[], .sp 1 0⟩), (16, ⟨[], .sl 6⟩), (218, ⟨[], .si .i64 (n : Int)⟩), (219, ⟨[], .si .i64 (z.1 : Int)⟩)], [], [(6, .vec 49 5 n fun i => ppC (L i)), (1, .cells 24 (paA 0 it ag)), (0, .ro 5 n fun i => ppC (L i))], 7, []⟩)
        (fun z => n - z.1) hG ⟨0, Nat.zero_le _⟩ (fun j => j) ?_ ?_
      · refine ⟨?_, ?_, rfl, rfl, rfl, rfl, trivial⟩ <;> repeat' (first | exact trivial | exact rfl | exact List.Perm.refl _ | (intro i hi; exact ⟨rfl, rfl⟩) | refine And.intro ?_ ?_)
      rintro ⟨j, hj⟩
      refine Br.mk (fun h2 => ?_) (fun h2 => ?_)
      · have h2 : (j : Int) < (n : Int) := of_decide_eq_true h2
        refine drawn_ok (g.ok _ _ _) fol [0,0,3,7,0,16,0,112,240,511] [] 10 (by kernel_rfl) ?_
        refine Chk.mk (show (0 : Int) ≤ (j : Int) ∧ (j : Int) < (n : Int) from ⟨by omega, h2⟩) (Chk.mk (show (0 : Int) ≤ (j : Int) ∧ (j : Int) < (n : Int) from ⟨by omega, h2⟩) ?_)
        refine Br.mk (fun h3 => ?_) (fun h3 => ?_)
        · exfalso
          simp at h3
        · refine Chk.mk (show InK .i64 ((j : Int) + 1) from ⟨by omega, by omega⟩) ⟨⟨j + 1, by omega⟩, (fun j => j), ?_, by show n - (j + 1) < n - j; omega⟩
          refine ⟨?_, ?_, rfl, rfl, rfl, rfl, trivial⟩ <;> repeat' (first | exact trivial | exact rfl | exact List.Perm.refl _ | (intro i hi; exact ⟨rfl, rfl⟩) | refine And.intro ?_ ?_)
      · exact ⟨.inl rfl, end_noid rfl rfl rfl (by repeat' (first | exact trivial | exact rfl | (intro i hi; exact ⟨rfl, rfl⟩) | refine And.intro ?_ ?_))⟩
end Go.X.Ps
end
