/- Together, Recall of the document. -/
import Derived.Test.YtknjpbmkpjcgjaaOX
import Derived.Test.YtknjpbmkpjcgjaaOL

section
set_option linter.unusedVariables false
set_option linter.unusedSimpArgs false
set_option linter.unusedSectionVars false
/- Pass: Together and Recall of the document (printed by gen-en.py). -/
set_option linter.unusedVariables false
set_option linter.unusedSimpArgs false
set_option maxRecDepth 10000
set_option maxHeartbeats 4000000
namespace Go.X.Ps
open Go Go.Proofs Go.X
theorem bO_in {it ag : Int} {n : Nat} {L : Nat → Pp} {q y : Int} {c : Ch} (hv : validV it ag (papL n fun i => ppC (L i)) = true) (h : some c = bst ag n L q y) : 0 ≤ c.w ∧ c.w ≤ 10000 := by
  have := wO_in (ag := ag) (ps := papL n fun i => ppC (L i)) (q := q) (y := y) (valid_ps hv)
  rw [bnL_L, ← h] at this
  exact this
theorem togI_eq (it ag : Int) (ps : List Pp) (S y : Int) : togI it ag ps S y = (inB S 0 (2 ^ it.toNat - 1) && inB y 0 20) := by
  unfold togI
  rw [Int.one_mul]
theorem tog_bad {it ag : Int} {ps : List Pp} {S y : Int} (h : ¬ errO (validV it ag ps) (inB S 0 (2 ^ it.toNat - 1) && inB y 0 20) = 0) : togR it ag ps S y = 0 ∧ togE it ag ps S y = errO (validV it ag ps) (inB S 0 (2 ^ it.toNat - 1) && inB y 0 20) := by
  unfold togR togE
  rw [togI_eq, if_neg h, if_neg h]
  exact ⟨rfl, rfl⟩
theorem tog_none {it ag : Int} {ps : List Pp} {S y : Int} (h : errO (validV it ag ps) (inB S 0 (2 ^ it.toNat - 1) && inB y 0 20) = 0) {i : Nat} (hi : i < 6) (h1 : hasB S i = true) (h2 : bnN ag ps y i = -1) : togR it ag ps S y = 0 ∧ togE it ag ps S y = 4 := by
  have ha : allS (bnN ag ps y) S 6 = false := by
    cases ha : allS (bnN ag ps y) S 6 with
    | false => rfl
    | true =>
      have := allS_iff.1 ha i hi h1
      rw [h2] at this
      omega
  unfold togR togE
  rw [togI_eq, if_pos h, if_pos h, togS_eq, ha]
  exact ⟨rfl, rfl⟩
theorem tog_all {it ag : Int} {ps : List Pp} {S y : Int} (h : errO (validV it ag ps) (inB S 0 (2 ^ it.toNat - 1) && inB y 0 20) = 0) (hit : 1 ≤ it ∧ it ≤ 6) (hS : 0 ≤ S ∧ S ≤ 2 ^ it.toNat - 1) (ha : allS (bnN ag ps y) S it.toNat = true) : togR it ag ps S y = sumS (bnN ag ps y) S it.toNat ∧ togE it ag ps S y = 0 := by
  have hb : ∀ j, it.toNat ≤ j → hasB S j = false := by
    intro j hj
    unfold hasB
    refine Nat.testBit_lt_two_pow (Nat.lt_of_lt_of_le ?_ (Nat.pow_le_pow_right (by decide) hj))
    have e : (2 : Int) ^ it.toNat = ((2 ^ it.toNat : Nat) : Int) := by push_cast; rfl
    rw [e] at hS
    omega
  have ha6 : allS (bnN ag ps y) S 6 = true := allS_iff.2 fun j hj hh => by
    by_cases e : j < it.toNat
    · exact allS_iff.1 ha j e hh
    · rw [hb j (by omega)] at hh; cases hh
  have hs6 : sumS (bnN ag ps y) S 6 = sumS (bnN ag ps y) S it.toNat := by
    have := sumS_stop (B := bnN ag ps y) hb (6 - it.toNat)
    rw [← this]
    congr 1
    omega
  unfold togR togE
  rw [togI_eq, if_pos h, if_pos h, togS_eq, ha6, if_pos rfl, hs6]
  exact ⟨rfl, rfl⟩
theorem sumS_in2 {B : Nat → Int} {S : Int} (hB : ∀ i, -1 ≤ B i ∧ B i ≤ 10000) : ∀ i : Nat, -(i : Int) ≤ sumS B S i ∧ sumS B S i ≤ 10000 * (i : Int)
  | 0 => by simp [sumS]
  | i + 1 => by
    have ih := sumS_in2 (S := S) hB i
    have := hB i
    rw [sumS]
    split <;> omega

theorem k25 {l : List (Nat × Ct)} (g0 : Good P T l) : COk P 25 c24 := by
  have g := g28 (g48 (g50 (g55 (g61 (g62 good0)))))
  refine cok (C := tabC _) g.ok Try.func25 (c := code Try.f25) rfl fun fr args H out h hp => ?_
  unfold c24 at h
  split at h
  case h_2 => cases h
  rename_i l S y
  obtain ⟨i1, it, ag, n, get, rfl, e1, h⟩ := passK_some h
  cases h
  obtain ⟨hs, hn⟩ : Pps n get ∧ n ≤ 1000000 := hp
  refine ⟨[(i1, .ro 5 n fun i => ppC (ppAt get i))], [.agg (paA 0 it ag), .si .i64 S, .si .i64 y], [(0, .ro 5 n fun i => ppC (ppAt get i))], 1, [], rfl, rfl, Nat.le_of_ble_eq_true rfl, pp_hand e1 hs, rfl, rfl, fun G hG => ?_⟩
  rw [show papL n get = papL n (fun i => ppC (ppAt get i)) from rfl]
  generalize ppAt get = L
  refine Chk.mk ⟨pps_i _ _, hn⟩ ?_
  refine Br.mk (fun h => ?_) (fun h => ?_)
  · have h : (!validV it ag (papL n fun i => ppC (L i))) = true := h
    have hv : validV it ag (papL n fun i => ppC (L i)) = false := by simpa using h
    have x1 : togR it ag (papL n fun i => ppC (L i)) S y = 0 := by unfold togR errO; rw [hv]; rfl
    have x2 : togE it ag (papL n fun i => ppC (L i)) S y = 1 := by unfold togE errO; rw [hv]; rfl
    exact ⟨.inl rfl, end_noid ⟨⟨rfl, x1.symm⟩, ⟨rfl, x2.symm⟩, trivial⟩ rfl rfl (by repeat' (first | exact trivial | exact rfl | (intro i hi; exact ⟨rfl, rfl⟩) | refine And.intro ?_ ?_))⟩
  have h : (!validV it ag (papL n fun i => ppC (L i))) = false := h
  have hv : validV it ag (papL n fun i => ppC (L i)) = true := by simpa using h
  obtain ⟨hr, hit, hn8⟩ := valid_ok (r := L) (n := n) hv
  have hby := valid_by rfl hv
  have hn9 := few_of (ag := ag) (r := L) (show n ≤ 9 by omega)
  refine drawn_ok (g.ok _ _ _) fol [0,0,0,6,14,30,62,126,255,511] [] 10 (by kernel_rfl) ?_
  refine Chk.mk ⟨pps_i _ _, hit⟩ (Chk.mk ⟨pps_i _ _, hn⟩ ?_)
  refine Br.mk (fun h => ?_) (fun h => ?_)
  · have h : (!decide (errO (validV it ag (papL n fun i => ppC (L i))) (inB S 0 (2 ^ it.toNat - 1) && inB y 0 20) = 0)) = true := h
    have h : ¬ (errO (validV it ag (papL n fun i => ppC (L i))) (inB S 0 (2 ^ it.toNat - 1) && inB y 0 20) = 0) := by simpa using h
    obtain ⟨x1, x2⟩ := tog_bad h
    exact ⟨.inl rfl, end_noid ⟨⟨rfl, x1.symm⟩, ⟨rfl, x2.symm⟩, trivial⟩ rfl rfl (by repeat' (first | exact trivial | exact rfl | (intro i hi; exact ⟨rfl, rfl⟩) | refine And.intro ?_ ?_))⟩
  have h : (!decide (errO (validV it ag (papL n fun i => ppC (L i))) (inB S 0 (2 ^ it.toNat - 1) && inB y 0 20) = 0)) = false := h
  have h : (errO (validV it ag (papL n fun i => ppC (L i))) (inB S 0 (2 ^ it.toNat - 1) && inB y 0 20) = 0) := by simpa using h
  obtain ⟨_, hI⟩ := errO_ok h
  rw [Bool.and_eq_true] at hI
  have hS := inB_ok hI.1
  have hy := inB_ok hI.2
  have hpw : (2 : Int) ^ it.toNat ≤ 64 := by
    have h1 : 2 ^ it.toNat ≤ 2 ^ 6 := Nat.pow_le_pow_right (by decide) (by omega)
    have e : (2 : Int) ^ it.toNat = ((2 ^ it.toNat : Nat) : Int) := by push_cast; rfl
    rw [e]; omega
  obtain ⟨B, hB⟩ : ∃ B : Nat → Int, B = bnN ag (papL n fun i => ppC (L i)) y := ⟨_, rfl⟩
  have hBv : ∀ i : Nat, B i = bO (bst ag n L (i : Int) y) := fun i => by rw [hB]; exact bnN_L ag n L y i
  have hBin : ∀ i : Nat, -1 ≤ B i ∧ B i ≤ 10000 := fun i => by
    rw [hBv]
    cases hb : bst ag n L (i : Int) y with
    | none => exact ⟨Int.le_refl _, by decide⟩
    | some c =>
      have := bO_in hv hb.symm
      exact ⟨by show -1 ≤ c.w; omega, this.2⟩
  refine loop_okR (g.ok _ _ _) 1 (fun z : {i : Nat // (i : Int) ≤ it ∧ allS B S i = true} => ⟨[(1, ⟨[], .si .i64 S⟩), (2, ⟨[], .si .i64 y⟩), (3, ⟨[], .sp 1 0⟩), (9, ⟨[], .si .i64 (sumS B S z.1)⟩), (10, ⟨[], .si .i64 (z.1 : Int)⟩)], [], [(1, .cells 24 (paA 0 it ag)), (0, .ro 5 n fun i => ppC (L i))], 2, []⟩) (fun z => it.toNat - z.1) hG ⟨0, by omega, rfl⟩ (fun j => j) ?_ ?_
  · refine ⟨?_, ?_, rfl, rfl, rfl, rfl, trivial⟩ <;> repeat' (first | exact trivial | exact rfl | exact List.Perm.refl _ | (intro i hi; exact ⟨rfl, rfl⟩) | refine And.intro ?_ ?_)
  rintro ⟨i, hi, hall⟩
  have hi : (i : Int) ≤ it := hi
  have hsin := sumS_in2 (S := S) hBin i
  have hBi := hBin i
  have hce : (show Prop from (((i : Nat) : Int) ≤ 62 ∧ 0 ≤ S ∧ S < 4611686018427387904)) := ⟨by omega, by omega, by omega⟩
  have hhas := has_eq hS.1 i
  refine Br.mk (fun h2 => ?_) (fun h2 => ?_)
  · have h2 : (i : Int) < it := of_decide_eq_true h2
    refine fb_call (g.ok _ _ _) cont_std rfl rfl rfl rfl ⟨b51, ?_⟩
    refine callS_at [.agg (paA 0 it ag), .si .i64 (i : Int), .si .i64 y] [(0, .ro 5 n fun i => ppC (L i))] 1 (fun j => j) (by repeat' (first | exact trivial | exact rfl | refine And.intro ?_ ?_)) rfl (by repeat' (first | exact trivial | exact rfl | (intro i hi; exact ⟨rfl, rfl⟩) | refine And.intro ?_ ?_)) rfl rfl ?_
    refine s51 hr hby hn9 (by omega) hy (fun o LB e ho hLe => ?_)
    cases o with
    | none =>
      refine ⟨rfl, (by repeat' (first | exact trivial | exact rfl | refine And.intro ?_ ?_)), (by repeat' (first | exact trivial | exact rfl | (intro i hi; exact rfl) | refine And.intro ?_ ?_)), ?_⟩
      have hBi1 : B i = -1 := by rw [hBv, ← ho]; rfl
      refine Chk.mk hce ?_
      refine Br.mk (fun h3 => ?_) (fun h3 => ?_)
      · have h3 : (decide ((S.tdiv (2 ^ ((i : Nat) : Int).toNat)).tmod 2 = 1) && decide ((-1 : Int) < 0)) = true := h3
        rw [hhas] at h3
        have h3 : hasB S i = true := by simpa using h3
        obtain ⟨x1, x2⟩ := tog_none (i := i) h (by omega) h3 (by rw [← hB]; exact hBi1)
        exact ⟨.inl rfl, end_noid ⟨⟨rfl, x1.symm⟩, ⟨rfl, x2.symm⟩, trivial⟩ rfl rfl (by repeat' (first | exact trivial | exact rfl | (intro i hi; exact ⟨rfl, rfl⟩) | refine And.intro ?_ ?_))⟩
      · have h3 : (decide ((S.tdiv (2 ^ ((i : Nat) : Int).toNat)).tmod 2 = 1) && decide ((-1 : Int) < 0)) = false := h3
        rw [hhas] at h3
        have h3 : hasB S i = false := by simpa using h3
        have hsm : sumS B S i = sumS B S (i + 1) := by rw [sumS, h3]; rfl
        refine Chk.mk hce ?_
        refine Br.mk (fun h4 => ?_) (fun _ => ?_)
        · have h4 : decide ((S.tdiv (2 ^ ((i : Nat) : Int).toNat)).tmod 2 = 1) = true := h4
          rw [hhas, h3] at h4
          cases h4
        · refine Chk.mk (show InK .i64 ((i : Int) + 1) from ⟨by omega, by omega⟩) ⟨⟨i + 1, by omega, by rw [allS, hall, h3]; rfl⟩, (fun j => j), ?_, by show it.toNat - (i + 1) < it.toNat - i; omega⟩
          refine ⟨?_, ?_, rfl, rfl, rfl, rfl, trivial⟩ <;> repeat' (first | exact trivial | exact rfl | exact hsm | exact List.Perm.refl _ | (intro i hi; exact ⟨rfl, rfl⟩) | refine And.intro ?_ ?_)
    | some c =>
      refine ⟨rfl, (by repeat' (first | exact trivial | exact rfl | refine And.intro ?_ ?_)), (by repeat' (first | exact trivial | exact rfl | (intro i hi; exact rfl) | refine And.intro ?_ ?_)), ?_⟩
      have hw := bO_in hv ho
      have hBi1 : B i = c.w := by rw [hBv, ← ho]; rfl
      refine Chk.mk hce ?_
      refine Br.mk (fun h3 => ?_) (fun _ => ?_)
      · have h3 : (decide ((S.tdiv (2 ^ ((i : Nat) : Int).toNat)).tmod 2 = 1) && decide (c.w < 0)) = true := h3
        have h3 := of_decide_eq_true ((Bool.and_eq_true _ _).mp h3).2
        omega
      have hal : allS B S (i + 1) = true := by rw [allS, hall, hBi1, decide_eq_true hw.1]; simp
      refine Chk.mk hce ?_
      refine Br.mk (fun h4 => ?_) (fun h4 => ?_)
      · have h4 : decide ((S.tdiv (2 ^ ((i : Nat) : Int).toNat)).tmod 2 = 1) = true := h4
        rw [hhas] at h4
        have hsm : sumS B S i + c.w = sumS B S (i + 1) := by rw [sumS, h4, if_pos rfl, hBi1]
        refine Chk.mk (show InK .i64 (sumS B S i + c.w) from ⟨by omega, by omega⟩) ?_
        refine Chk.mk (show InK .i64 ((i : Int) + 1) from ⟨by omega, by omega⟩) ⟨⟨i + 1, by omega, hal⟩, (fun j => j), ?_, by show it.toNat - (i + 1) < it.toNat - i; omega⟩
        refine ⟨?_, ?_, rfl, rfl, rfl, rfl, trivial⟩ <;> repeat' (first | exact trivial | exact rfl | exact hsm | exact List.Perm.refl _ | (intro i hi; exact ⟨rfl, rfl⟩) | refine And.intro ?_ ?_)
      · have h4 : decide ((S.tdiv (2 ^ ((i : Nat) : Int).toNat)).tmod 2 = 1) = false := h4
        rw [hhas] at h4
        have hsm : sumS B S i = sumS B S (i + 1) := by rw [sumS, h4]; rfl
        refine Chk.mk (show InK .i64 ((i : Int) + 1) from ⟨by omega, by omega⟩) ⟨⟨i + 1, by omega, hal⟩, (fun j => j), ?_, by show it.toNat - (i + 1) < it.toNat - i; omega⟩
        refine ⟨?_, ?_, rfl, rfl, rfl, rfl, trivial⟩ <;> repeat' (first | exact trivial | exact rfl | exact hsm | exact List.Perm.refl _ | (intro i hi; exact ⟨rfl, rfl⟩) | refine And.intro ?_ ?_)
  · have h2 : ¬ (i : Int) < it := of_decide_eq_false h2
    have e : it.toNat = i := by omega
    obtain ⟨x1, x2⟩ := tog_all h hit hS (by rw [← hB, e]; exact hall)
    rw [← hB, e] at x1
    exact ⟨.inl rfl, end_noid ⟨⟨rfl, x1.symm⟩, ⟨rfl, x2.symm⟩, trivial⟩ rfl rfl (by repeat' (first | exact trivial | exact rfl | (intro i hi; exact ⟨rfl, rfl⟩) | refine And.intro ?_ ?_))⟩
theorem gd25 {l : List (Nat × Ct)} (g : Good P T l) : Good P T ((25, c24) :: l) := g.add (k25 g) c24_mono (body_of Try.func25 (c := code Try.f25) rfl (by decide))
theorem rec_bad {it ag : Int} {ps : List Pp} {q y : Int} {n : Nat} (hn : ps.length = n) (h : ¬ errO (validV it ag ps) (inB q 0 ((n : Int) - 1) && inB y 0 20) = 0) : recW it ag ps q y = 0 ∧ recG it ag ps q y = 0 ∧ recE it ag ps q y = errO (validV it ag ps) (inB q 0 ((n : Int) - 1) && inB y 0 20) := by
  have e : recE it ag ps q y = errO (validV it ag ps) (inB q 0 ((n : Int) - 1) && inB y 0 20) := by unfold recE; rw [hn]
  unfold recW recG
  rw [e, if_neg h, if_neg h]
  exact ⟨rfl, rfl, rfl⟩
theorem rec_val {it ag : Int} {n k : Nat} {L : Nat → Pp} {y : Int} (hv : validV it ag (papL n fun i => ppC (L i)) = true) (hit : 1 ≤ it ∧ it ≤ 6) (hk : k < n) (hy : 0 ≤ y ∧ y ≤ 20) {W V : Nat → Bool} (hW : ∀ i : Nat, W i = (decide (0 ≤ bO (bst ag n L (i : Int) y)) && !decide (bO (bst ag (n - 1) (woP L k) (i : Int) y) = bO (bst ag n L (i : Int) y)))) (hV : ∀ i : Nat, V i = (decide (0 ≤ bO (bst ag n L (i : Int) y)) && decide (bO (bst ag (n - 1) (woP L k) (i : Int) y) < 0))) :
    recW it ag (papL n fun i => ppC (L i)) (k : Int) y = ((setN W it.toNat : Nat) : Int) ∧ recG it ag (papL n fun i => ppC (L i)) (k : Int) y = ((setN V it.toNat : Nat) : Int) ∧ recE it ag (papL n fun i => ppC (L i)) (k : Int) y = 0 := by
  have hl : (papL n fun i => ppC (L i)).length = n := papL_len _ _
  have e : recE it ag (papL n fun i => ppC (L i)) (k : Int) y = 0 := by
    unfold recE
    rw [hv, hl, inB_in hy, inB_in (show (0 : Int) ≤ (k : Int) ∧ (k : Int) ≤ (n : Int) - 1 from ⟨by omega, by omega⟩)]
    rfl
  have hE : (papL n fun i => ppC (L i)).eraseIdx k = papL (n - 1) (fun j => ppC (woP L k j)) := (erase_pap rfl hk).symm
  have f1 : wrsB (bnN ag (papL n fun i => ppC (L i)) y) (bnN ag (papL (n - 1) fun j => ppC (woP L k j)) y) = W := by
    funext i
    rw [hW]
    unfold wrsB
    rw [bnN_L, bnN_L]
  have f2 : gonB (bnN ag (papL n fun i => ppC (L i)) y) (bnN ag (papL (n - 1) fun j => ppC (woP L k j)) y) = V := by
    funext i
    rw [hV]
    unfold gonB
    rw [bnN_L, bnN_L]
  have z1 : ∀ j, bnN ag (papL n fun i => ppC (L i)) y j = -1 → W j = false := fun j hj => by
    rw [bnN_L] at hj
    rw [hW, hj]; rfl
  have z2 : ∀ j, bnN ag (papL n fun i => ppC (L i)) y j = -1 → V j = false := fun j hj => by
    rw [bnN_L] at hj
    rw [hV, hj]; rfl
  refine ⟨?_, ?_, e⟩
  · unfold recW
    rw [e, if_pos rfl, Int.toNat_natCast, hE, f1, setN_6 hv hit z1]
  · unfold recG
    rw [e, if_pos rfl, Int.toNat_natCast, hE, f2, setN_6 hv hit z2]
theorem den_ro3 {ρ : Env} {a b : Nat} {x y z w : SV} (h : den ρ (.sl a) = den ρ (.sl b)) : ∀ vals, denL ρ [.agg [x, y, .sl b], z, w] = some vals → denL ρ [.agg [x, y, .sl a], z, w] = some vals := by
  have e1 : denL ρ [x, y, .sl a] = denL ρ [x, y, .sl b] := by simp only [denL, h]
  have e2 : den ρ (.agg [x, y, .sl a]) = den ρ (.agg [x, y, .sl b]) := by unfold den; rw [e1]
  intro vals hv
  simp only [denL, e2] at hv ⊢
  exact hv

theorem k27 {l : List (Nat × Ct)} (g0 : Good P T l) : COk P 27 c26 := by
  have g := g35 (g48 (g50 (g55 (g64 good0))))
  refine cok (C := tabC _) g.ok Try.func27 (c := code Try.f27) rfl fun fr args H out h hp => ?_
  unfold c26 at h
  split at h
  case h_2 => cases h
  rename_i l q y
  obtain ⟨i1, it, ag, n, get, rfl, e1, h⟩ := passK_some h
  cases h
  obtain ⟨hs, hn⟩ : Pps n get ∧ n ≤ 1000000 := hp
  refine ⟨[(i1, .ro 5 n fun i => ppC (ppAt get i))], [.agg (paA 0 it ag), .si .i64 q, .si .i64 y], [(0, .ro 5 n fun i => ppC (ppAt get i))], 1, [], rfl, rfl, Nat.le_of_ble_eq_true rfl, pp_hand e1 hs, rfl, rfl, fun G hG => ?_⟩
  rw [show papL n get = papL n (fun i => ppC (ppAt get i)) from rfl]
  generalize ppAt get = L
  refine drawn_ok (g.ok _ _ _) fol [0,0,0,6,14,30,62,126,255,511] [] 10 (by kernel_rfl) ?_
  refine Chk.mk ⟨pps_i _ _, hn⟩ (Chk.mk ⟨pps_i _ _, hn⟩ ?_)
  have hln : (papL n fun i => ppC (L i)).length = n := papL_len _ _
  refine Br.mk (fun h => ?_) (fun h => ?_)
  · have h : (!decide (errO (validV it ag (papL n fun i => ppC (L i))) (inB q 0 ((n : Int) - 1) && inB y 0 20) = 0)) = true := h
    have h : ¬ (errO (validV it ag (papL n fun i => ppC (L i))) (inB q 0 ((n : Int) - 1) && inB y 0 20) = 0) := by simpa using h
    obtain ⟨x1, x2, x3⟩ := rec_bad hln h
    exact ⟨.inl rfl, end_noid ⟨⟨rfl, x1.symm⟩, ⟨rfl, x2.symm⟩, ⟨rfl, x3.symm⟩, trivial⟩ rfl rfl (by repeat' (first | exact trivial | exact rfl | (intro i hi; exact ⟨rfl, rfl⟩) | refine And.intro ?_ ?_))⟩
  have h : (!decide (errO (validV it ag (papL n fun i => ppC (L i))) (inB q 0 ((n : Int) - 1) && inB y 0 20) = 0)) = false := h
  have h : (errO (validV it ag (papL n fun i => ppC (L i))) (inB q 0 ((n : Int) - 1) && inB y 0 20) = 0) := by simpa using h
  obtain ⟨hv, hI⟩ := errO_ok h
  rw [Bool.and_eq_true] at hI
  obtain ⟨hr, hit, hn8⟩ := valid_ok (r := L) (n := n) hv
  have hq := inB_ok hI.1
  have hy := inB_ok hI.2
  have hby := valid_by rfl hv
  have hn9 := few_of (ag := ag) (r := L) (show n ≤ 9 by omega)
  obtain ⟨k, rfl⟩ : ∃ k : Nat, q = (k : Int) := ⟨q.toNat, by omega⟩
  have hk : k < n := by omega
  have hv2 : validV it ag (papL (n - 1) fun j => ppC (woP L k j)) = true := by
    rw [erase_pap rfl hk]
    exact erase_valid hv (by rw [hln]; exact hk)
  have hr2 := (valid_ok (r := woP L k) (n := n - 1) hv2).1
  have hby2 := valid_by (L := woP L k) (n := n - 1) rfl hv2
  obtain ⟨W, hW⟩ : ∃ W : Nat → Bool, ∀ i : Nat, W i = (decide (0 ≤ bO (bst ag n L (i : Int) y)) && !decide (bO (bst ag (n - 1) (woP L k) (i : Int) y) = bO (bst ag n L (i : Int) y))) := ⟨fun i => (decide (0 ≤ bO (bst ag n L (i : Int) y)) && !decide (bO (bst ag (n - 1) (woP L k) (i : Int) y) = bO (bst ag n L (i : Int) y))), fun _ => rfl⟩
  obtain ⟨V, hV⟩ : ∃ V : Nat → Bool, ∀ i : Nat, V i = (decide (0 ≤ bO (bst ag n L (i : Int) y)) && decide (bO (bst ag (n - 1) (woP L k) (i : Int) y) < 0)) := ⟨fun i => (decide (0 ≤ bO (bst ag n L (i : Int) y)) && decide (bO (bst ag (n - 1) (woP L k) (i : Int) y) < 0)), fun _ => rfl⟩
  obtain ⟨x1, x2, x3⟩ := rec_val hv hit hk hy hW hV
  refine loop_okR (g.ok _ _ _) 1 (fun z : {i : Nat // (i : Int) ≤ it} => ⟨[(1, ⟨[], .si .i64 (k : Int)⟩), (2, ⟨[], .si .i64 y⟩), (3, ⟨[], .sp 1 0⟩), (10, ⟨[], .si .i64 ((setN W z.1 : Nat) : Int)⟩), (11, ⟨[], .si .i64 ((setN V z.1 : Nat) : Int)⟩), (12, ⟨[], .si .i64 (z.1 : Int)⟩)], [], [(1, .cells 24 (paA 0 it ag)), (0, .ro 5 n fun i => ppC (L i))], 2, []⟩) (fun z => it.toNat - z.1) hG ⟨0, by omega⟩ (fun j => j) ?_ ?_
  · refine ⟨?_, ?_, rfl, rfl, rfl, rfl, trivial⟩ <;> repeat' (first | exact trivial | exact rfl | exact List.Perm.refl _ | (intro i hi; exact ⟨rfl, rfl⟩) | refine And.intro ?_ ?_)
  rintro ⟨i, hi⟩
  have hi : (i : Int) ≤ it := hi
  have hs1 := setN_lt W i
  have hs2 := setN_lt V i
  have hpw : 2 ^ i ≤ 2 ^ 6 := Nat.pow_le_pow_right (by decide) (by omega)
  have hp2 : (2 : Int) ^ ((i : Nat) : Int).toNat = ((2 ^ i : Nat) : Int) := by rw [Int.toNat_natCast]; push_cast; rfl
  refine Br.mk (fun h2 => ?_) (fun h2 => ?_)
  · have h2 : (i : Int) < it := of_decide_eq_true h2
    refine fb_call (g.ok _ _ _) cont_std rfl rfl rfl rfl ⟨b51, ?_⟩
    refine callS_at [.agg (paA 0 it ag), .si .i64 (i : Int), .si .i64 y] [(0, .ro 5 n fun i => ppC (L i))] 1 (fun j => j) (by repeat' (first | exact trivial | exact rfl | refine And.intro ?_ ?_)) rfl (by repeat' (first | exact trivial | exact rfl | (intro i hi; exact ⟨rfl, rfl⟩) | refine And.intro ?_ ?_)) rfl rfl ?_
    refine s51 hr hby hn9 (by omega) hy (fun o LB e ho hLe => ?_)
    cases o with
    | none =>
      refine ⟨rfl, (by repeat' (first | exact trivial | exact rfl | refine And.intro ?_ ?_)), (by repeat' (first | exact trivial | exact rfl | (intro i hi; exact rfl) | refine And.intro ?_ ?_)), ?_⟩
      refine Chk.mk ⟨pps_i _ _, by omega, by omega, by omega⟩ ?_
      refine fb_call (g.ok _ _ _) cont_std rfl rfl rfl rfl ⟨b51, ?_⟩
      refine callS_ro 2 49 (n - 1) 5 (fun j => ppC (woP L k j)) rfl (l' := [.agg [.si .i64 it, .si .i64 ag, .sl 6], .si .i64 (i : Int), .si .i64 y]) (fun ρ h => den_ro3 h) ?_
      refine callS_at [.agg (paA 0 it ag), .si .i64 (i : Int), .si .i64 y] [(0, .ro 5 (n - 1) fun i => ppC (woP L k i))] 1 (fun j => match j with | 0 => 6 | j => j) (by repeat' (first | exact trivial | exact rfl | refine And.intro ?_ ?_)) rfl (by repeat' (first | exact trivial | exact rfl | (intro i hi; exact ⟨rfl, rfl⟩) | refine And.intro ?_ ?_)) rfl rfl ?_
      refine s51 hr2 hby2 (few_of (by omega)) (by omega) hy (fun o2 LB2 e2 ho2 hLe2 => ?_)
      cases o2 with
      | none =>
        refine ⟨rfl, (by repeat' (first | exact trivial | exact rfl | refine And.intro ?_ ?_)), (by repeat' (first | exact trivial | exact rfl | (intro i hi; exact rfl) | refine And.intro ?_ ?_)), ?_⟩
        have hWi : W i = false := by rw [hW, ← ho]; rfl
        have hVi : V i = false := by rw [hV, ← ho]; rfl
        refine Br.mk (fun h3 => by exfalso; first | (simp at h3; done) | (simp at h3; omega)) (fun _ => ?_)
        refine Br.mk (fun h3 => by exfalso; first | (simp at h3; done) | (simp at h3; omega)) (fun _ => ?_)
        have hsW : ((setN W i : Nat) : Int) = ((setN W (i + 1) : Nat) : Int) := by rw [setN_sum, hWi]; rfl
        have hsV : ((setN V i : Nat) : Int) = ((setN V (i + 1) : Nat) : Int) := by rw [setN_sum, hVi]; rfl
        refine Chk.mk (show InK .i64 ((i : Int) + 1) from ⟨by omega, by omega⟩) ⟨⟨i + 1, by omega⟩, (fun j => j), ?_, by show it.toNat - (i + 1) < it.toNat - i; omega⟩
        refine ⟨?_, ?_, rfl, rfl, rfl, rfl, trivial⟩ <;> repeat' (first | exact trivial | exact rfl | exact hsW | exact hsV | exact List.Perm.refl _ | (intro i hi; exact ⟨rfl, rfl⟩) | refine And.intro ?_ ?_)
      | some d =>
        refine ⟨rfl, (by repeat' (first | exact trivial | exact rfl | refine And.intro ?_ ?_)), (by repeat' (first | exact trivial | exact rfl | (intro i hi; exact rfl) | refine And.intro ?_ ?_)), ?_⟩
        have hWi : W i = false := by rw [hW, ← ho]; rfl
        have hVi : V i = false := by rw [hV, ← ho]; rfl
        refine Br.mk (fun h3 => by exfalso; first | (simp at h3; done) | (simp at h3; omega)) (fun _ => ?_)
        refine Br.mk (fun h3 => by exfalso; first | (simp at h3; done) | (simp at h3; omega)) (fun _ => ?_)
        have hsW : ((setN W i : Nat) : Int) = ((setN W (i + 1) : Nat) : Int) := by rw [setN_sum, hWi]; rfl
        have hsV : ((setN V i : Nat) : Int) = ((setN V (i + 1) : Nat) : Int) := by rw [setN_sum, hVi]; rfl
        refine Chk.mk (show InK .i64 ((i : Int) + 1) from ⟨by omega, by omega⟩) ⟨⟨i + 1, by omega⟩, (fun j => j), ?_, by show it.toNat - (i + 1) < it.toNat - i; omega⟩
        refine ⟨?_, ?_, rfl, rfl, rfl, rfl, trivial⟩ <;> repeat' (first | exact trivial | exact rfl | exact hsW | exact hsV | exact List.Perm.refl _ | (intro i hi; exact ⟨rfl, rfl⟩) | refine And.intro ?_ ?_)
    | some c =>
      refine ⟨rfl, (by repeat' (first | exact trivial | exact rfl | refine And.intro ?_ ?_)), (by repeat' (first | exact trivial | exact rfl | (intro i hi; exact rfl) | refine And.intro ?_ ?_)), ?_⟩
      have hw := bst_pos hr ho
      refine Chk.mk ⟨pps_i _ _, by omega, by omega, by omega⟩ ?_
      refine fb_call (g.ok _ _ _) cont_std rfl rfl rfl rfl ⟨b51, ?_⟩
      refine callS_ro 3 49 (n - 1) 5 (fun j => ppC (woP L k j)) rfl (l' := [.agg [.si .i64 it, .si .i64 ag, .sl 7], .si .i64 (i : Int), .si .i64 y]) (fun ρ h => den_ro3 h) ?_
      refine callS_at [.agg (paA 0 it ag), .si .i64 (i : Int), .si .i64 y] [(0, .ro 5 (n - 1) fun i => ppC (woP L k i))] 1 (fun j => match j with | 0 => 7 | j => j) (by repeat' (first | exact trivial | exact rfl | refine And.intro ?_ ?_)) rfl (by repeat' (first | exact trivial | exact rfl | (intro i hi; exact ⟨rfl, rfl⟩) | refine And.intro ?_ ?_)) rfl rfl ?_
      refine s51 hr2 hby2 (few_of (by omega)) (by omega) hy (fun o2 LB2 e2 ho2 hLe2 => ?_)
      cases o2 with
      | none =>
        refine ⟨rfl, (by repeat' (first | exact trivial | exact rfl | refine And.intro ?_ ?_)), (by repeat' (first | exact trivial | exact rfl | (intro i hi; exact rfl) | refine And.intro ?_ ?_)), ?_⟩
        have hWi : W i = true := by rw [hW, ← ho, ← ho2]; show (decide (0 ≤ c.w) && !decide ((-1 : Int) = c.w)) = true; simp; omega
        have hVi : V i = true := by rw [hV, ← ho, ← ho2]; show (decide (0 ≤ c.w) && decide ((-1 : Int) < 0)) = true; simp; omega
        refine Br.mk (fun _ => ?_) (fun h3 => by exfalso; first | (simp at h3; done) | (simp at h3; omega))
        refine Chk.mk (show ((i : Nat) : Int) ≤ 62 by omega) (Chk.mk (show InK .i64 (((setN W i : Nat) : Int) + 2 ^ ((i : Nat) : Int).toNat) by rw [hp2]; exact ⟨by omega, by omega⟩) ?_)
        refine Br.mk (fun _ => ?_) (fun h3 => by exfalso; first | (simp at h3; done) | (simp at h3; omega))
        refine Chk.mk (show ((i : Nat) : Int) ≤ 62 by omega) (Chk.mk (show InK .i64 (((setN V i : Nat) : Int) + 2 ^ ((i : Nat) : Int).toNat) by rw [hp2]; exact ⟨by omega, by omega⟩) ?_)
        have hsW : ((setN W i : Nat) : Int) + 2 ^ ((i : Nat) : Int).toNat = ((setN W (i + 1) : Nat) : Int) := by rw [hp2, setN_sum, hWi, if_pos rfl]; push_cast; rfl
        have hsV : ((setN V i : Nat) : Int) + 2 ^ ((i : Nat) : Int).toNat = ((setN V (i + 1) : Nat) : Int) := by rw [hp2, setN_sum, hVi, if_pos rfl]; push_cast; rfl
        refine Chk.mk (show InK .i64 ((i : Int) + 1) from ⟨by omega, by omega⟩) ⟨⟨i + 1, by omega⟩, (fun j => j), ?_, by show it.toNat - (i + 1) < it.toNat - i; omega⟩
        refine ⟨?_, ?_, rfl, rfl, rfl, rfl, trivial⟩ <;> repeat' (first | exact trivial | exact rfl | exact hsW | exact hsV | exact List.Perm.refl _ | (intro i hi; exact ⟨rfl, rfl⟩) | refine And.intro ?_ ?_)
      | some d =>
        refine ⟨rfl, (by repeat' (first | exact trivial | exact rfl | refine And.intro ?_ ?_)), (by repeat' (first | exact trivial | exact rfl | (intro i hi; exact rfl) | refine And.intro ?_ ?_)), ?_⟩
        have hd := bst_pos hr2 ho2
        have hVi : V i = false := by rw [hV, ← ho, ← ho2]; show (decide (0 ≤ c.w) && decide (d.w < 0)) = false; simp; omega
        by_cases hdc : d.w = c.w
        · have hWi : W i = false := by rw [hW, ← ho, ← ho2]; show (decide (0 ≤ c.w) && !decide (d.w = c.w)) = false; simp [hdc]
          refine Br.mk (fun h3 => by exfalso; first | (simp at h3; done) | (simp at h3; omega)) (fun _ => ?_)
          refine Br.mk (fun h3 => by exfalso; first | (simp at h3; done) | (simp at h3; omega)) (fun _ => ?_)
          have hsW : ((setN W i : Nat) : Int) = ((setN W (i + 1) : Nat) : Int) := by rw [setN_sum, hWi]; rfl
          have hsV : ((setN V i : Nat) : Int) = ((setN V (i + 1) : Nat) : Int) := by rw [setN_sum, hVi]; rfl
          refine Chk.mk (show InK .i64 ((i : Int) + 1) from ⟨by omega, by omega⟩) ⟨⟨i + 1, by omega⟩, (fun j => j), ?_, by show it.toNat - (i + 1) < it.toNat - i; omega⟩
          refine ⟨?_, ?_, rfl, rfl, rfl, rfl, trivial⟩ <;> repeat' (first | exact trivial | exact rfl | exact hsW | exact hsV | exact List.Perm.refl _ | (intro i hi; exact ⟨rfl, rfl⟩) | refine And.intro ?_ ?_)
        · have hWi : W i = true := by rw [hW, ← ho, ← ho2]; show (decide (0 ≤ c.w) && !decide (d.w = c.w)) = true; simp [hdc]; omega
          refine Br.mk (fun _ => ?_) (fun h3 => by exfalso; first | (simp at h3; done) | (simp at h3; omega))
          refine Chk.mk (show ((i : Nat) : Int) ≤ 62 by omega) (Chk.mk (show InK .i64 (((setN W i : Nat) : Int) + 2 ^ ((i : Nat) : Int).toNat) by rw [hp2]; exact ⟨by omega, by omega⟩) ?_)
          refine Br.mk (fun h3 => by exfalso; first | (simp at h3; done) | (simp at h3; omega)) (fun _ => ?_)
          have hsW : ((setN W i : Nat) : Int) + 2 ^ ((i : Nat) : Int).toNat = ((setN W (i + 1) : Nat) : Int) := by rw [hp2, setN_sum, hWi, if_pos rfl]; push_cast; rfl
          have hsV : ((setN V i : Nat) : Int) = ((setN V (i + 1) : Nat) : Int) := by rw [setN_sum, hVi]; rfl
          refine Chk.mk (show InK .i64 ((i : Int) + 1) from ⟨by omega, by omega⟩) ⟨⟨i + 1, by omega⟩, (fun j => j), ?_, by show it.toNat - (i + 1) < it.toNat - i; omega⟩
          refine ⟨?_, ?_, rfl, rfl, rfl, rfl, trivial⟩ <;> repeat' (first | exact trivial | exact rfl | exact hsW | exact hsV | exact List.Perm.refl _ | (intro i hi; exact ⟨rfl, rfl⟩) | refine And.intro ?_ ?_)
  · have h2 : ¬ (i : Int) < it := of_decide_eq_false h2
    have e : it.toNat = i := by omega
    rw [e] at x1 x2
    exact ⟨.inl rfl, end_noid ⟨⟨rfl, x1.symm⟩, ⟨rfl, x2.symm⟩, ⟨rfl, x3.symm⟩, trivial⟩ rfl rfl (by repeat' (first | exact trivial | exact rfl | (intro i hi; exact ⟨rfl, rfl⟩) | refine And.intro ?_ ?_))⟩
theorem g27 {l : List (Nat × Ct)} (g : Good P T l) : Good P T ((27, c26) :: l) := g.add (k27 g) c26_mono (body_of Try.func27 (c := code Try.f27) rfl (by decide))
end Go.X.Ps
end
