/- The walk of PassChain. -/
import Derived.Test.YtknjpbmkpjcgjaaOS

section
set_option linter.unusedVariables false
set_option linter.unusedSimpArgs false
set_option linter.unusedSectionVars false
/- Pass: PassChain answers true. -/
set_option linter.unusedVariables false
set_option linter.unusedSimpArgs false
set_option maxRecDepth 10000
set_option maxHeartbeats 4000000
namespace Go.X.Ps
open Go Go.Proofs Go.X

theorem bad_args {it ag : Int} {ps : List Pp} (hv : validV it ag ps = false) : (decide (boundE it ag ps 0 0 = 1) && decide (boundE it ag ps 0 0 = boundE it ag ps 0 0) && decide (renE it ag ps 0 0 = boundE it ag ps 0 0) && decide (boundR it ag ps 0 0 = 0) && decide (((chainL it ag ps 0 0).length : Int) = 0) && decide (renR it ag ps 0 0 = 0) && true) = true := by
  have e1 : boundE it ag ps 0 0 = 1 := by unfold boundE errO; rw [hv]; rfl
  have e2 : boundR it ag ps 0 0 = 0 := by unfold boundR errO; rw [hv]; rfl
  have e3 : chainL it ag ps 0 0 = [] := by unfold chainL errO; rw [hv]; rfl
  have e4 : renE it ag ps 0 0 = 1 := by unfold renE renE0 errO; rw [hv]; rfl
  have e5 : renR it ag ps 0 0 = 0 := by unfold renR; rw [e4]; rfl
  rw [e1, e2, e3, e4, e5]
  rfl
theorem fdiv_in {x : Int} {q : Nat} (h : 0 ≤ x ∧ x ≤ 63) : 0 ≤ x.fdiv (2 ^ q) ∧ InK .i64 (x.fdiv (2 ^ q)) := by
  have e : x.fdiv (2 ^ q) = x / ((2 ^ q : Nat) : Int) := by
    rw [show (2 : Int) ^ q = ((2 ^ q : Nat) : Int) by push_cast; rfl, Int.fdiv_eq_ediv_of_nonneg _ (Int.natCast_nonneg _)]
  rw [e]
  have h1 : 0 ≤ x / ((2 ^ q : Nat) : Int) := Int.ediv_nonneg (by omega) (Int.natCast_nonneg _)
  have h2 : x / ((2 ^ q : Nat) : Int) ≤ x := Int.ediv_le_self _ (by omega)
  exact ⟨h1, by omega, by omega⟩
theorem intL_natsI (L : List Nat) : intL L.length (intAt (getI (natsI L))) = natsI L := by
  have := intL_getI (natsI L)
  rwa [natsI_len] at this
def c6 : Ct := fun fr args H => match args with
  | [.agg l, .si .u8 a, .si .u8 b, .sl li] => (match sliceOf 1 H li with
    | some (m, g) => passK H l fun i1 it ag n get => some ⟨some (Pps n get ∧ U8s m g ∧ m ≤ maxLen ∧ (0 ≤ a ∧ a < 256) ∧ 0 ≤ b ∧ b < 256), none, .sb true, []⟩
    | none => none)
  | _ => none
theorem k6 {l : List (Nat × Ct)} (g0 : Good P T l) : COk P 6 c6 := by
  have g := g28 (g13 (g14 (g15 (g17 (g19 (g24 (g26 (g29 (g31 (g32 good0))))))))))
  refine cok (C := tabC _) g.ok Try.func6 (c := code Try.f6) rfl fun fr args H out h hp => ?_
  unfold c6 at h
  split at h
  case h_2 => cases h
  rename_i l a b li
  split at h
  case h_2 => cases h
  rename_i m gg e2
  obtain ⟨i1, it, ag, n, get, rfl, e1, h⟩ := passK_some h
  cases h
  obtain ⟨hs, hsi, hm, ha, hb⟩ : Pps n get ∧ U8s m gg ∧ m ≤ maxLen ∧ (0 ≤ a ∧ a < 256) ∧ 0 ≤ b ∧ b < 256 := hp
  have hgg : ∀ i, i < m → gg i = [.si .u8 (u8At gg i)] := fun i hi => (hsi i hi).1
  have hoo : ∀ i, i < m → 0 ≤ u8At gg i ∧ u8At gg i < 256 := fun i hi => (hsi i hi).2
  have hh : Hand H [(i1, .ro 5 n fun i => ppC (ppAt get i)), (li, .ro 1 m fun i => [.si .u8 (u8At gg i)])] := hand_mk ⟨sliceOf_piece e1 fun i hi => (hs i hi).symm, sliceOf_piece e2 fun i hi => (hgg i hi).symm, trivial⟩
    (by repeat' (first | exact trivial | (intro i hi; exact ⟨trivial, trivial⟩) | (intro i hi; exact ⟨trivial, trivial, trivial, trivial, trivial, trivial⟩) | refine And.intro ?_ ?_)) rfl
  refine ⟨[(i1, .ro 5 n fun i => ppC (ppAt get i)), (li, .ro 1 m fun i => [.si .u8 (u8At gg i)])], [.agg (paA 0 it ag), .si .u8 a, .si .u8 b, .sl 1], [(0, .ro 5 n fun i => ppC (ppAt get i)), (1, .ro 1 m fun i => [.si .u8 (u8At gg i)])], 2, [], rfl, rfl, Nat.le_of_ble_eq_true rfl, hh, rfl, rfl, fun G hG => ?_⟩
  generalize u8At gg = o at hoo ⊢
  generalize ppAt get = L
  obtain ⟨ps, hps⟩ : ∃ ps, papL n (fun i => ppC (L i)) = ps := ⟨_, rfl⟩
  refine Chk.mk (pps_i _ _) ?_
  refine Br.mk (fun h => ?_) (fun h => ?_)
  · exact ⟨.inl rfl, end_noid rfl rfl rfl (by repeat' (first | exact trivial | exact rfl | (intro i hi; exact ⟨rfl, rfl⟩) | refine And.intro ?_ ?_))⟩
  have h : decide ((40 : Int) < (n : Int)) = false := h
  have hn40 : n ≤ 40 := by simp at h; omega
  have hn : n ≤ 1000000 := by omega
  refine Chk.mk ⟨pps_i _ _, hn⟩ ?_
  refine Br.mk (fun h => ?_) (fun h => ?_)
  · have h : (!validV it ag (papL n fun i => ppC (L i))) = true := h
    rw [hps] at h
    have hv : validV it ag ps = false := by simpa using h
    refine Chk.mk ⟨pps_i _ _, hn⟩ (Chk.mk ⟨pps_i _ _, hn⟩ (Chk.mk ⟨pps_i _ _, hn⟩ ?_))
    refine ⟨.inl rfl, end_noid (show SVeq _ _ from bad_args (by rw [hps]; exact hv)) rfl rfl (by repeat' (first | exact trivial | exact rfl | (intro i hi; exact ⟨rfl, rfl⟩) | refine And.intro ?_ ?_))⟩
  have h : (!validV it ag (papL n fun i => ppC (L i))) = false := h
  rw [hps] at h
  have hv : validV it ag ps = true := by simpa using h
  obtain ⟨hr, hit, hn8⟩ := valid_ok (r := L) (n := n) (by rw [← hps] at hv; exact hv)
  refine Chk.mk (show InK .i64 a from ⟨by omega, by omega⟩) (Chk.mk (show it ≠ 0 by omega) (Chk.mk (show InK .i64 b from ⟨by omega, by omega⟩) (Chk.mk (show (21 : Int) ≠ 0 by decide) ?_)))
  have hq := tmod_b ha.1 (show (0 : Int) < it by omega)
  have hy := tmod_b hb.1 (show (0 : Int) < 21 by decide)
  generalize a.tmod it = q at hq ⊢
  generalize b.tmod 21 = y at hy ⊢
  refine Chk.mk ⟨pps_i _ _, hn⟩ (Chk.mk ⟨pps_i _ _, hn⟩ (Chk.mk ⟨pps_i _ _, hn⟩ (Chk.mk ⟨pps_i _ _, hn⟩ (Chk.mk ⟨pps_i _ _, hn⟩ ?_))))
  refine drawn_ok (g.ok _ _ _) fol [0,0,2,6,0,31,63,127,127,255,1023] [] 11 (by kernel_rfl) ?_
  obtain ⟨p1, p2, p3⟩ := pow_in hit
  refine Chk.mk p1 (Chk.mk ⟨pps_i _ _, hn⟩ ?_)
  refine Chk.mk ⟨pps_i _ _, hn⟩ ?_
  have hy : 0 ≤ y ∧ y ≤ 20 := by omega
  have hkn := known_in (it := it) hv hy
  have hKb : 0 ≤ knownR it ag ps y ∧ knownR it ag ps y ≤ 63 := by
    rw [hkn.2]
    have := setN_lt (fun i => decide (0 ≤ bnN ag ps y i)) 6
    omega
  have hfd : 0 ≤ (knownR it ag ps y).fdiv (2 ^ q.toNat) ∧ InK .i64 ((knownR it ag ps y).fdiv (2 ^ q.toNat)) := fdiv_in hKb
  refine Chk.mk (under_of ⟨(show 0 ≤ it by omega), (show it.toNat ≤ 64 by omega)⟩) (Chk.mk (under_of ⟨(show 0 ≤ q by omega), (show q.toNat ≤ 64 by omega)⟩) (Chk.mk (under_of ⟨by rw [hps]; exact hfd.1, by decide, by rw [hps]; exact hfd.2, by decide, by decide⟩) ?_))
  refine Br.mk (fun h => ?_) (fun _ => ?_)
  · exfalso
    exact absurd h (Bool.eq_false_iff.1 (by rw [hps]; exact chainCond hv (tolen hps) hit hq hy))
  have hby := valid_by hps hv
  refine Chk.mk ⟨pps_i _ _, fun i hi => ⟨rfl, hoo i hi⟩, hm, hr, hy⟩ ?_
  refine Br.mk (fun h => ?_) (fun h => ?_)
  · have h : (!decide (boundE it ag (papL n fun i => ppC (L i)) q y = 0)) = true := h
    rw [hps] at h
    exact ⟨.inl rfl, end_noid (show SVeq _ _ from by rw [hps]; exact none_other hps hv hit hq hy (by simpa using h)) rfl rfl (by repeat' (first | exact trivial | exact rfl | (intro i hi; exact ⟨rfl, rfl⟩) | refine And.intro ?_ ?_))⟩
  have h : (!decide (boundE it ag (papL n fun i => ppC (L i)) q y = 0)) = false := h
  rw [hps] at h
  have hE : boundE it ag ps q y = 0 := by simpa using h
  obtain ⟨e1, e2⟩ := bound_in hv hit hq hy
  have e3 := chain_in hv hit hq hy
  obtain ⟨b, hb⟩ : ∃ b, bnL ag ps q y = some b := by
    cases hb : bnL ag ps q y with
    | none => rw [e1, hb] at hE; cases hE
    | some b => exact ⟨b, rfl⟩
  have e2 : boundR it ag ps q y = b.w := by rw [e2, hb]; rfl
  have e3 : chainL it ag ps q y = b.ps := by rw [e3, hb]; rfl
  have hbs : bst ag n L q y = some b := by rw [← bnL_L, hps]; exact hb
  have hpb : PpB ag n L := fun j hj => ⟨(hr.2.2 j hj).1.1, (hr.2.2 j hj).2.2.1⟩
  have hbl : b.ps.length ≤ n := nodup_le (bst_nodup hpb hbs) (walkC_mem (bst_some hbs))
  have hbsum := bst_sum hpb hbs
  refine Chk.mk ⟨pps_i _ _, ints_getI _ _, by rw [hps, e3]; omega, hr, hy⟩ ?_
  refine Br.mk (fun h => ?_) (fun _ => ?_)
  · exfalso
    have h : (!(sumV ag n L (intL (chainL it ag (papL n fun i => ppC (L i)) q y).length (intAt (getI (chainL it ag (papL n fun i => ppC (L i)) q y)))) 0 q y 0).2 || !decide ((sumV ag n L (intL (chainL it ag (papL n fun i => ppC (L i)) q y).length (intAt (getI (chainL it ag (papL n fun i => ppC (L i)) q y)))) 0 q y 0).1 = boundR it ag (papL n fun i => ppC (L i)) q y)) = true := h
    rw [hps, e3, e2, intL_getI, hbsum] at h
    simp at h
  refine Br.mk (fun h => ?_) (fun h => ?_)
  · exact ⟨.inl rfl, end_noid rfl rfl rfl (by repeat' (first | exact trivial | exact rfl | (intro i hi; exact ⟨rfl, rfl⟩) | refine And.intro ?_ ?_))⟩
  have h : (!(walkedV ag n L m o (n + 1) 0 q y []).2) = false := h
  obtain ⟨ot, hot⟩ : ∃ ot, walkedV ag n L m o (n + 1) 0 q y [] = (ot, true) := ⟨_, Prod.ext rfl (by simpa using h)⟩
  obtain ⟨c, hc, hcp, hcs⟩ := walked_sum hby (by omega) hot
  have hotl : ot.length ≤ n := by
    have := nodup_le (l := natsI ot) (n := n) (natsI_nodup (walked_ok hby _ _ _ _ _ _ (wkI_0 n) (by omega) hot).1.1) (by rw [← hcp]; exact walkC_mem hc)
    rwa [natsI_len] at this
  have hle : lessV c b = false := by
    obtain ⟨b2, h1, h2⟩ := bst_le hpb hc
    rw [hbs] at h1
    cases h1
    exact h2
  refine Chk.mk ⟨pps_i _ _, ints_getI _ _, (show (walkedV ag n L m o (n + 1) 0 q y []).1.length ≤ 1000 by rw [hot]; show ot.length ≤ 1000; omega), hr, hy⟩ ?_
  have hno := other_no_less hle
  have hwk : ∀ x, (walkedV ag n L m o (n + 1) 0 q y []).1 = x → x = ot := by rintro x rfl; rw [hot]
  refine Br.mk (fun h => ?_) (fun _ => ?_)
  · exfalso
    have h : (!(sumV ag n L (intL (walkedV ag n L m o (n + 1) 0 q y []).1.length (intAt (getI (natsI (walkedV ag n L m o (n + 1) 0 q y []).1)))) 0 q y 0).2 || decide ((sumV ag n L (intL (walkedV ag n L m o (n + 1) 0 q y []).1.length (intAt (getI (natsI (walkedV ag n L m o (n + 1) 0 q y []).1)))) 0 q y 0).1 < boundR it ag (papL n fun i => ppC (L i)) q y) || (decide ((sumV ag n L (intL (walkedV ag n L m o (n + 1) 0 q y []).1.length (intAt (getI (natsI (walkedV ag n L m o (n + 1) 0 q y []).1)))) 0 q y 0).1 = boundR it ag (papL n fun i => ppC (L i)) q y) && decide (((walkedV ag n L m o (n + 1) 0 q y []).1.length : Int) < ((chainL it ag (papL n fun i => ppC (L i)) q y).length : Int)))) = true := h
    rw [hot] at h
    simp only [intL_natsI, hcs, hps, e2, e3] at h
    have hl2 : c.ps.length = ot.length := by rw [hcp, natsI_len]
    simp at h
    omega
  refine Br.mk (fun h => ?_) (fun h => ?_)
  · have h : (decide ((sumV ag n L (intL (walkedV ag n L m o (n + 1) 0 q y []).1.length (intAt (getI (natsI (walkedV ag n L m o (n + 1) 0 q y []).1)))) 0 q y 0).1 = boundR it ag (papL n fun i => ppC (L i)) q y) && decide (((walkedV ag n L m o (n + 1) 0 q y []).1.length : Int) = ((chainL it ag (papL n fun i => ppC (L i)) q y).length : Int))) = true := h
    rw [hot] at h
    simp only [intL_natsI, hcs, hps, e2, e3] at h
    have hl2 : c.ps.length = ot.length := by rw [hcp, natsI_len]
    rw [Bool.and_eq_true, decide_eq_true_eq, decide_eq_true_eq] at h
    obtain ⟨h5, h6⟩ := h
    have h6 : ot.length = b.ps.length := by omega
    have hncmp : ¬ cmpV (natsI ot) b.ps < 0 := by rw [← hcp]; exact hno.2.2 h5 (by omega)
    refine loop_okR (g.ok _ _ _) 2 (fun z : {i : Nat // i ≤ b.ps.length ∧ ∀ j, j < i → b.ps.getD j 0 = (natsI ot).getD j 0} => ⟨[(19, ⟨[], .sl 3⟩), (32, ⟨[], .sl 4⟩), (279, ⟨[], .si .i64 (b.ps.length : Int)⟩), (280, ⟨[], .si .i64 (z.1 : Int)⟩)], [], [(4, .vec 3 1 b.ps.length (getI (natsI ot))), (3, .vec 3 1 b.ps.length (getI b.ps)), (0, .ro 5 n fun i => ppC (L i)), (1, .ro 1 m fun i => [.si .u8 (o i)])], 5, []⟩)
      (fun z => b.ps.length - z.1) hG ⟨0, Nat.zero_le _, fun j hj => absurd hj (Nat.not_lt_zero j)⟩ (fun j => match j with | 4 => 55 | j => j) ?_ ?_
    · have hx1 : chainL it ag (papL n fun i => ppC (L i)) q y = b.ps := by rw [hps]; exact e3
      have hx2 : (walkedV ag n L m o (n + 1) 0 q y []).1 = ot := by rw [hot]
      have hx3 : ((chainL it ag (papL n fun i => ppC (L i)) q y).length : Int) = (b.ps.length : Int) := by rw [hx1]
      have hx4 : (chainL it ag (papL n fun i => ppC (L i)) q y).length = b.ps.length := by rw [hx1]
      have hx5 : (walkedV ag n L m o (n + 1) 0 q y []).1.length = b.ps.length := by rw [hx2, h6]
      have hx6 : ∀ j, getI (chainL it ag (papL n fun i => ppC (L i)) q y) j = getI b.ps j := fun j => by rw [hx1]
      have hx7 : ∀ j, getI (natsI (walkedV ag n L m o (n + 1) 0 q y []).1) j = getI (natsI ot) j := fun j => by rw [hx2]
      refine ⟨?_, ?_, rfl, rfl, rfl, rfl, trivial⟩ <;> repeat' (first | exact trivial | exact rfl | exact hx3 | exact hx4 | exact hx5 | (intro i hi; exact ⟨hx6 i, rfl⟩) | (intro i hi; exact ⟨hx7 i, rfl⟩) | (intro i hi; exact ⟨rfl, rfl⟩) | refine And.intro ?_ ?_)
    rintro ⟨i, hi, hpre⟩
    refine Br.mk (fun h => ?_) (fun h => ?_)
    · have h : (i : Int) < (b.ps.length : Int) := of_decide_eq_true h
      have hbi : (0 : Int) ≤ (i : Int) ∧ (i : Int) < (b.ps.length : Int) := ⟨by omega, h⟩
      refine drawn_ok (g.ok _ _ _) fol [0,0,3,7,0,0,48,112,255] [] 9 (by kernel_rfl) ?_
      refine Chk.mk hbi (Chk.mk hbi ?_)
      refine Br.mk (fun h2 => ?_) (fun h2 => ?_)
      · have h2 : (!decide (b.ps.getD i 0 = (natsI ot).getD i 0)) = true := h2
        have h2 : ¬ b.ps.getD i 0 = (natsI ot).getD i 0 := by simpa using h2
        have hlt := cmp_at (by rw [natsI_len]; exact h6.symm) hpre (by omega) hncmp h2
        refine drawn_ok (g.ok _ _ _) fol [0,0,3,7,0,0,48,112,255,511,1023,2047,4095] [] 13 (by kernel_rfl) ?_
        refine Chk.mk hbi (Chk.mk hbi ?_)
        refine ⟨.inl rfl, end_noid (show SVeq _ _ from (show (decide (b.ps.getD i 0 < (natsI ot).getD i 0) && true) = true by rw [decide_eq_true hlt]; rfl)) rfl rfl (by repeat' (first | exact trivial | exact rfl | (intro i hi; exact ⟨rfl, rfl⟩) | refine And.intro ?_ ?_))⟩
      · have h2 : (!decide (b.ps.getD i 0 = (natsI ot).getD i 0)) = false := h2
        have h2 : b.ps.getD i 0 = (natsI ot).getD i 0 := by simpa using h2
        refine Chk.mk (show InK .i64 ((i : Int) + 1) from ⟨by omega, by omega⟩) ⟨⟨i + 1, by omega, fun j hj => ?_⟩, (fun j => j), ?_, by show b.ps.length - (i + 1) < b.ps.length - i; omega⟩
        · rcases Nat.lt_succ_iff_lt_or_eq.1 hj with h | rfl
          · exact hpre j h
          · exact h2
        · refine ⟨?_, ?_, rfl, rfl, rfl, rfl, trivial⟩ <;> repeat' (first | exact trivial | exact rfl | (intro i hi; exact ⟨rfl, rfl⟩) | refine And.intro ?_ ?_)
    · exact ⟨.inl rfl, end_noid rfl rfl rfl (by repeat' (first | exact trivial | exact rfl | (intro i hi; exact ⟨rfl, rfl⟩) | refine And.intro ?_ ?_))⟩
  · exact ⟨.inl rfl, end_noid rfl rfl rfl (by repeat' (first | exact trivial | exact rfl | (intro i hi; exact ⟨rfl, rfl⟩) | refine And.intro ?_ ?_))⟩
end Go.X.Ps
end
