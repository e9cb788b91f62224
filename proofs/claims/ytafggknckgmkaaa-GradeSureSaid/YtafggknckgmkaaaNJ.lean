/- The walk of GradeSure. -/
import Derived.Test.YtafggknckgmkaaaNH
import Derived.Test.YtafggknckgmkaaaNI
import Derived.Test.YtafggknckgmkaaaNE

section
set_option linter.unusedVariables false
set_option linter.unusedSimpArgs false
set_option linter.unusedSectionVars false
/- Grade: the walk of GradeSure. -/
set_option linter.unusedVariables false
set_option linter.unusedSimpArgs false
set_option maxRecDepth 10000
set_option maxHeartbeats 4000000
namespace Go.X.Gr
open Go Go.Proofs Go.X

theorem up_cast (q : Nat) : (2 * 2 ^ (q : Int).toNat - 1 : Int).toNat = upTo (q : Int) := by
  unfold upTo
  rw [Int.toNat_natCast]
  have hp : 0 < (2 : Nat) ^ q := Nat.pow_pos (by decide)
  have : (2 * 2 ^ q - 1 : Int) = ((2 * 2 ^ q - 1 : Nat) : Int) := by
    rw [Int.natCast_sub (by omega)]
    push_cast
    rfl
  rw [this, Int.toNat_natCast]
theorem fdiv_zero {S n : Nat} (h : S < 2 ^ (n + 1)) : ((S : Nat) : Int).fdiv (2 ^ ((n : Int) + 1).toNat) = 0 := by
  have e : ((n : Int) + 1).toNat = n + 1 := by omega
  have e2 : (2 : Int) ^ (n + 1) = ((2 ^ (n + 1) : Nat) : Int) := by push_cast; rfl
  rw [e, e2, Int.fdiv_eq_ediv_of_nonneg _ (by omega)]
  exact Int.ediv_eq_zero_of_lt (by omega) (by omega)
theorem sure_cond {S n q : Nat} {U : Int} (h1 : 1 ≤ S) (h2 : S < 2 ^ (n + 1)) (hU : U = sureV S (upTo q)) (hx : ¬ (S - (S &&& upTo q) = 0 ∧ S &&& upTo q = 0)) :
    (((((decide (((S : Nat) : Int) < 1) || !decide (((S : Nat) : Int).fdiv (2 ^ ((n : Int) + 1).toNat) = 0)) || !(decide (U = 2) == decide (((((S : Nat) : Int).toNat - (((S : Nat) : Int).toNat &&& (2 * 2 ^ (q : Int).toNat - 1 : Int).toNat) : Nat) : Int) = 0))) ||
      !(decide (U = 0) == decide (((((S : Nat) : Int).toNat &&& (2 * 2 ^ (q : Int).toNat - 1 : Int).toNat : Nat) : Int) = 0))) || decide (U < 0)) || decide (2 < U)) = false := by
  rw [up_cast, Int.toNat_natCast, fdiv_zero h2]
  have a1 : ¬ ((S : Nat) : Int) < 1 := by omega
  subst hU
  unfold sureV
  by_cases k1 : S - (S &&& upTo q) = 0
  · have k2 : S &&& upTo q ≠ 0 := fun h => hx ⟨k1, h⟩
    simp [a1, k1, k2]
  · by_cases k2 : S &&& upTo q = 0
    · have k3 : ¬ S - 0 = 0 := by omega
      simp [a1, k2]
      omega
    · simp [a1, k1, k2]
def c8 : Ct := fun fr args H => match args with
  | [.agg l, .si .u8 x] => gradeK H l fun i1 g n get => some ⟨some (Lims n get ∧ 0 ≤ x ∧ x < 256), none, .sb true, []⟩
  | _ => none
theorem k8 {l : List (Nat × Ct)} (g0 : Good P T l) : COk P 8 c8 := by
  have g := g14 (g39 (g40 (g17 (g19 (g21 (g23 good0))))))
  refine cok (C := tabC _) g.ok Try.func8 (c := code Try.f8) rfl fun fr args H out h hp => ?_
  unfold c8 at h
  split at h
  case h_2 => cases h
  rename_i l x
  obtain ⟨i1, p, n, get, rfl, e1, h⟩ := gradeK_some h
  cases h
  obtain ⟨hs, hx0, hx1⟩ : Lims n get ∧ 0 ≤ x ∧ x < 256 := hp
  have hh : Hand H [(i1, .ro 2 n fun i => liC (liAt get i))] := hand_one e1 (fun i => rfl) (fun i hi => (hs i hi).symm)
  refine ⟨[(i1, .ro 2 n fun i => liC (liAt get i))], [.agg (grA 0 p), .si .u8 x], [(0, .ro 2 n fun i => liC (liAt get i))], 1, [], rfl, rfl, Nat.le_of_ble_eq_true rfl, hh, rfl, rfl, fun G hG => ?_⟩
  generalize liAt get = L
  refine Chk.mk (lims_i _ _) ?_
  refine Chk.mk (fun h => ⟨lims_i _ _, by have h : decide ((n : Int) > 40) = false := h; have := of_decide_eq_false h; omega⟩) ?_
  refine Br.mk (fun h => ?_) (fun h => ?_)
  · exact ⟨.inl rfl, end_noid rfl rfl rfl (by repeat' (first | exact trivial | exact rfl | (intro i hi; exact ⟨rfl, rfl⟩) | refine And.intro ?_ ?_))⟩
  have h : (decide ((n : Int) > 40) || !gradeOk p ((List.range n).map L)) = false := h
  obtain ⟨hn40, hok⟩ : n ≤ 40 ∧ gradeOk p ((List.range n).map L) = true := by
    rw [Bool.or_eq_false_iff, decide_eq_false_iff_not, Bool.not_eq_false'] at h
    exact ⟨by omega, h.2⟩
  obtain ⟨hb, hl1, hl2⟩ := gradeOk_b hok
  have hn1 : 1 ≤ n := by simpa using hl1
  have hn4 : n ≤ 4 := by simpa using hl2
  refine Chk.mk (show InK .i64 x from ⟨by show (-9223372036854775808 : Int) ≤ _; omega, by show _ ≤ (9223372036854775807 : Int); omega⟩) ?_
  have hne : (n : Int) ≠ 0 := by omega
  refine Chk.mk hne ?_
  obtain ⟨q, hq⟩ : ∃ q : Nat, x.tmod (n : Int) = (q : Int) := ⟨(x.tmod n).toNat, (Int.toNat_of_nonneg (Int.tmod_nonneg _ hx0)).symm⟩
  have hqn : q < n := by
    have := Int.tmod_lt_of_pos x (show (0 : Int) < n by omega)
    omega
  rw [hq]
  have hlim : Lims n (fun i => liC (L i)) ∧ n ≤ 1000000 := ⟨lims_i _ _, by omega⟩
  refine Chk.mk hlim ?_
  refine Chk.mk hlim ?_
  refine Chk.mk hlim ?_
  refine Chk.mk hlim ?_
  obtain ⟨LL, hLL⟩ : ∃ LL, (List.range n).map L = LL := ⟨_, rfl⟩
  rw [hLL] at hok
  have hlen : LL.length = n := by rw [← hLL]; simp
  have hqL : q < LL.length := by omega
  have hi : isG LL (q : Int) = true := isG_ok hqL
  have hT := errT_ok hok
  have hV := errS_ok (F := varV) hok
  have hO := errS_ok (F := offV) hok
  refine Br.mk (fun h2 => ?_) (fun h2 => ?_)
  · have h2 : ((!decide (errT p ((List.range n).map L) true = errT p ((List.range n).map L) (isG ((List.range n).map L) (q : Int))) || !decide (errS varV p ((List.range n).map L) true = errT p ((List.range n).map L) (isG ((List.range n).map L) (q : Int)))) || !decide (errS offV p ((List.range n).map L) true = errT p ((List.range n).map L) (isG ((List.range n).map L) (q : Int)))) = true := h2
    rw [hLL, hi, hT, hV, hO] at h2
    simp at h2
  clear h2
  cases hh : hasB p with
  | false =>
    rw [hh] at hT
    have hT : errT p LL true = 10 := hT
    obtain ⟨hU, _⟩ := none_ok hok hh hqL
    refine Br.mk (fun _ => ?_) (fun h2 => ?_)
    · exact ⟨.inl rfl, end_noid (by
        show (decide (errT p ((List.range n).map L) (isG ((List.range n).map L) (q : Int)) = 10) && decide (resU p ((List.range n).map L) q = 0) && true) = true
        rw [hLL, hi, hT, hU]
        rfl) rfl rfl (by repeat' (first | exact trivial | exact rfl | (intro i hi; exact ⟨rfl, rfl⟩) | refine And.intro ?_ ?_))⟩
    · have h2 : (!decide (errT p ((List.range n).map L) (isG ((List.range n).map L) (q : Int)) = 0)) = false := h2
      rw [hLL, hi, hT] at h2
      cases h2
  | true =>
    rw [hh] at hT
    have hT : errT p LL true = 0 := hT
    refine Br.mk (fun h2 => ?_) (fun _ => ?_)
    · have h2 : (!decide (errT p ((List.range n).map L) (isG ((List.range n).map L) (q : Int)) = 0)) = true := h2
      rw [hLL, hi, hT] at h2
      cases h2
    have hq4 : q = 0 ∨ q = 1 ∨ q = 2 ∨ q = 3 := by omega
    refine Chk.mk (show (0 : Int) ≤ (q : Int) ∧ (q : Int).toNat ≤ 64 ∧ InK .i64 (2 * 2 ^ (q : Int).toNat) from by rcases hq4 with rfl | rfl | rfl | rfl <;> exact ⟨by decide, by decide, by decide, by decide⟩) ?_
    refine Chk.mk (show InK .i64 (2 * 2 ^ (q : Int).toNat - 1) from by rcases hq4 with rfl | rfl | rfl | rfl <;> exact ⟨by decide, by decide⟩) ?_
    refine Chk.mk (fun _ => show InK .i64 ((n : Int) + 1) from ⟨by show (-9223372036854775808 : Int) ≤ _; omega, by show _ ≤ (9223372036854775807 : Int); omega⟩) ?_
    refine Chk.mk (fun _ => show (0 : Int) ≤ (n : Int) + 1 ∧ ((n : Int) + 1).toNat ≤ 64 from by omega) ?_
    have hS : resG p LL true = setV (lims3 LL) p := resG_ok hok hh
    have hS32 : setV (lims3 LL) p < 32 := setV_lt hb (by omega)
    have hin : InK .i64 ((resG p ((List.range n).map L) true : Nat) : Int) := by
      rw [hLL, hS]
      exact ⟨by show (-9223372036854775808 : Int) ≤ _; omega, by show _ ≤ (9223372036854775807 : Int); omega⟩
    have hup : (0 : Int) ≤ 2 * 2 ^ (q : Int).toNat - 1 ∧ InK .i64 (2 * 2 ^ (q : Int).toNat - 1) := by rcases hq4 with rfl | rfl | rfl | rfl <;> exact ⟨by decide, by decide, by decide⟩
    refine Chk.mk (fun _ => show (0 : Int) ≤ ((resG p ((List.range n).map L) true : Nat) : Int) ∧ (0 : Int) ≤ 2 * 2 ^ (q : Int).toNat - 1 ∧ InK .i64 ((resG p ((List.range n).map L) true : Nat) : Int) ∧ InK .i64 (2 * 2 ^ (q : Int).toNat - 1) from ⟨by omega, hup.1, hin, hup.2⟩) ?_
    refine Chk.mk (fun _ => show (0 : Int) ≤ ((resG p ((List.range n).map L) true : Nat) : Int) ∧ (0 : Int) ≤ 2 * 2 ^ (q : Int).toNat - 1 ∧ InK .i64 ((resG p ((List.range n).map L) true : Nat) : Int) ∧ InK .i64 (2 * 2 ^ (q : Int).toNat - 1) from ⟨by omega, hup.1, hin, hup.2⟩) ?_
    have hU : resU p LL (q : Int) = sureV (setV (lims3 LL) p) (upTo (q : Int)) := resU_ok hok hh hqL
    have hS1 : 1 ≤ setV (lims3 LL) p ∧ ¬ (setV (lims3 LL) p - (setV (lims3 LL) p &&& upTo (q : Int)) = 0 ∧ setV (lims3 LL) p &&& upTo (q : Int) = 0) := by
      obtain ⟨b, hb'⟩ := hasB_iff.1 hh
      refine ⟨Nat.pos_of_ne_zero fun h0 => ?_, fun h => ?_⟩
      · have : (setV (lims3 LL) p).testBit (ofL (lims3 LL) (lk5 lkP b)) = true := setV_bit.2 ⟨b, hb', rfl⟩
        rw [h0] at this
        simp at this
      · have := set_all.1 h.1 b hb'
        have := set_none.1 h.2 b hb'
        omega
    have hSn : setV (lims3 LL) p < 2 ^ (n + 1) := by
      rw [← hlen]
      exact gradesN_lt fun f hf => by
        obtain ⟨z, hz, rfl⟩ := List.mem_map.1 hf
        exact ofL_lt (face_b hb z hz)
    refine Br.mk (fun h2 => ?_) (fun _ => ?_)
    · have h3 := sure_cond (n := n) (q := q) (U := resU p LL (q : Int)) hS1.1 hSn hU hS1.2
      rw [← hS, ← hLL] at h3
      have h4 := h3.symm.trans h2
      cases h4
    refine Chk.mk ⟨by show (0 : Int) ≤ (q : Int); omega, by show (q : Int) < (n : Int); omega⟩ ?_
    have hiq : InK .i64 ((q : Int) + 1) := ⟨by show (-9223372036854775808 : Int) ≤ _; omega, by show _ ≤ (9223372036854775807 : Int); omega⟩
    have hLq : LL.getD q (0, 0) = L q := by
      rw [← hLL]
      simp [List.getD, hqn]
    obtain ⟨hk1, hk2⟩ := sure_keeps hok hh hqL
    rw [hLq] at hk1 hk2
    have rO : resS offV p LL true = vSpan (spanG offV p) := resS_ok hok
    have rV : resS varV p LL true = vSpan (spanG varV p) := resS_ok hok
    have hfin : (((decide (resU p ((List.range n).map L) (q : Int) = 2) == (decide ((resS offV p ((List.range n).map L) true).2 ≤ (L (q : Int).toNat).1) && decide ((resS varV p ((List.range n).map L) true).2 ≤ (L (q : Int).toNat).2))) &&
        (decide (resU p ((List.range n).map L) (q : Int) = 0) || (decide ((resS offV p ((List.range n).map L) true).1 ≤ (L (q : Int).toNat).1) && decide ((resS varV p ((List.range n).map L) true).1 ≤ (L (q : Int).toNat).2)))) && true) = true := by
      rw [hLL, hU, rO, rV, Int.toNat_natCast, Bool.and_true, Bool.and_eq_true, beq_iff_eq]
      constructor
      · rw [Bool.eq_iff_iff, Bool.and_eq_true, decide_eq_true_eq, decide_eq_true_eq, decide_eq_true_eq]
        exact hk1
      · by_cases h0 : sureV (setV (lims3 LL) p) (upTo (q : Int)) = 0
        · rw [decide_eq_true h0]; rfl
        · have := hk2 h0
          rw [decide_eq_true this.1, decide_eq_true this.2, Bool.and_true, Bool.or_true]
    refine Chk.mk hiq ?_
    refine Br.mk (fun h2 => ?_) (fun _ => ?_)
    · have h2 : decide ((q : Int) + 1 < (n : Int)) = true := h2
      have h2 := of_decide_eq_true h2
      refine Chk.mk hiq ?_
      refine Chk.mk hlim ?_
      refine Br.mk (fun h3 => ?_) (fun _ => ?_)
      · have h3 : (!decide (errT p ((List.range n).map L) (isG ((List.range n).map L) ((q : Int) + 1)) = 0) || decide (resU p ((List.range n).map L) ((q : Int) + 1) < resU p ((List.range n).map L) (q : Int))) = true := h3
        rw [hLL, show (q : Int) + 1 = ((q + 1 : Nat) : Int) by omega, isG_ok (L := LL) (q := q + 1) (by omega), hT, resU_ok hok hh (q := q + 1) (by omega), hU] at h3
        have := sure_more (L := lims3 LL) hh q
        rw [Bool.or_eq_true] at h3
        rcases h3 with h3 | h3
        · cases h3
        · exact absurd (of_decide_eq_true h3) (by omega)
      exact ⟨.inl rfl, end_noid hfin rfl rfl (by repeat' (first | exact trivial | exact rfl | (intro i hi; exact ⟨rfl, rfl⟩) | refine And.intro ?_ ?_))⟩
    · exact ⟨.inl rfl, end_noid hfin rfl rfl (by repeat' (first | exact trivial | exact rfl | (intro i hi; exact ⟨rfl, rfl⟩) | refine And.intro ?_ ?_))⟩
theorem c8_mono : CtMono c8 := by
  intro fr args H H' out hH h
  unfold c8 at h ⊢
  split at h
  · exact gradeK_mono hH h
  · cases h
end Go.X.Gr
end
