/- The walk of GradeEnds. -/
import Derived.Test.YtafggknckgmkaaaNM
import Derived.Test.YtafggknckgmkaaaNE

section
set_option linter.unusedVariables false
set_option linter.unusedSimpArgs false
set_option linter.unusedSectionVars false
/- Grade: the walk of GradeEnds. -/
set_option linter.unusedVariables false
set_option linter.unusedSimpArgs false
set_option maxRecDepth 10000
set_option maxHeartbeats 4000000
namespace Go.X.Gr
open Go Go.Proofs Go.X

def c7 : Ct := fun fr args H => match args with
  | [.agg l, .si .u8 x] => gradeK H l fun i1 g n get => some ⟨some (Lims n get ∧ 0 ≤ x ∧ x < 256), none, .sb true, []⟩
  | _ => none
theorem k7 {l : List (Nat × Ct)} (g0 : Good P T l) : COk P 7 c7 := by
  have g := g14 (g39 (g40 (g37 (g36 (g32 (g15 (g17 (g19 (g21 (g23 (g25 (g29 good0))))))))))))
  refine cok (C := tabC _) g.ok Try.func7 (c := code Try.f7) rfl fun fr args H out h hp => ?_
  unfold c7 at h
  split at h
  case h_2 => cases h
  rename_i l x
  obtain ⟨i1, p, n, get, rfl, e1, h⟩ := gradeK_some h
  cases h
  obtain ⟨hs, hx0, hx1⟩ : Lims n get ∧ 0 ≤ x ∧ x < 256 := hp
  have hh : Hand H [(i1, .ro 2 n fun i => liC (liAt get i))] := hand_one e1 (fun i => rfl) (fun i hi => (hs i hi).symm)
  refine ⟨[(i1, .ro 2 n fun i => liC (liAt get i))], [.agg (grA 0 p), .si .u8 x], [(0, .ro 2 n fun i => liC (liAt get i))], 1, [], rfl, rfl, Nat.le_of_ble_eq_true rfl, hh, rfl, rfl, fun G hG => ?_⟩
  generalize liAt get = L
  refine Chk.mk (lims_i _ _) ?_
  refine Br.mk (fun h => ?_) (fun h => ?_)
  · exact ⟨.inl rfl, end_noid rfl rfl rfl (by repeat' (first | exact trivial | exact rfl | (intro i hi; exact ⟨rfl, rfl⟩) | refine And.intro ?_ ?_))⟩
  have hn40 : n ≤ 40 := by
    have h : decide ((n : Int) > 40) = false := h
    have := of_decide_eq_false h
    omega
  refine Chk.mk (show InK .i64 x from ⟨by show (-9223372036854775808 : Int) ≤ _; omega, by show _ ≤ (9223372036854775807 : Int); omega⟩) ?_
  refine Chk.mk (show (5 : Int) ≠ 0 by decide) ?_
  obtain ⟨q, hq⟩ : ∃ q : Int, x.tmod 5 = q := ⟨_, rfl⟩
  have hq5 : 0 ≤ q ∧ q < 5 := ⟨hq ▸ Int.tmod_nonneg _ hx0, hq ▸ Int.tmod_lt_of_pos _ (by decide)⟩
  rw [hq]
  have hlim : Lims n (fun i => liC (L i)) ∧ n ≤ 1000000 := ⟨lims_i _ _, by omega⟩
  refine Chk.mk hlim (Chk.mk hlim (Chk.mk hlim (Chk.mk hlim ?_)))
  obtain ⟨LL, hLL⟩ : ∃ LL, (List.range n).map L = LL := ⟨_, rfl⟩
  have hlen : LL.length = n := by rw [← hLL]; simp
  obtain ⟨E, hE⟩ : ∃ E, errT p LL true = E := ⟨_, rfl⟩
  have hiq : inB q 0 4 = true := inB_true (by omega)
  have e1 : errS (ptV q) p LL (inB q 0 4) = E := by rw [errS_all, hiq, hE]
  have e2 : errS varV p LL true = E := by rw [errS_all, hE]
  have e3 : errS offV p LL true = E := by rw [errS_all, hE]
  refine Br.mk (fun h2 => ?_) (fun _ => ?_)
  · have h2 : ((!decide (errS varV p ((List.range n).map L) true = errS (ptV q) p ((List.range n).map L) (inB q 0 4)) || !decide (errS offV p ((List.range n).map L) true = errS (ptV q) p ((List.range n).map L) (inB q 0 4))) || !decide (errT p ((List.range n).map L) true = errS (ptV q) p ((List.range n).map L) (inB q 0 4))) = true := h2
    rw [hLL, e1, e2, e3, hE] at h2
    simp at h2
  refine Chk.mk hlim ?_
  refine Br.mk (fun h2 => ?_) (fun h2 => ?_)
  · have h2 : (!gradeOk p ((List.range n).map L)) = true := h2
    rw [hLL, Bool.not_eq_true'] at h2
    have hE1 : E = 1 := hE ▸ errT_bad h2
    exact ⟨.inl rfl, end_noid (by
      show ((((decide (errS (ptV q) p ((List.range n).map L) (inB q 0 4) = 1) && (decide ((resS (ptV q) p ((List.range n).map L) (inB q 0 4)).1 = 0) && (decide ((resS (ptV q) p ((List.range n).map L) (inB q 0 4)).2 = 0) && true))) && (decide ((resS varV p ((List.range n).map L) true).1 = 0) && (decide ((resS varV p ((List.range n).map L) true).2 = 0) && true))) && decide (((resG p ((List.range n).map L) true : Nat) : Int) = 0)) && true) = true
      rw [hLL, e1, hE1, resS_bad h2, resS_bad h2, resG_bad h2]
      rfl) rfl rfl (by repeat' (first | exact trivial | exact rfl | (intro i hi; exact ⟨rfl, rfl⟩) | refine And.intro ?_ ?_))⟩
  have hok : gradeOk p LL = true := by
    have h2 : (!gradeOk p ((List.range n).map L)) = false := h2
    rw [hLL] at h2
    simpa using h2
  clear h2
  have hb := (gradeOk_b hok).1
  refine Chk.mk hlim (Chk.mk hlim (Chk.mk hlim (Chk.mk hlim ?_)))
  have k1 : errS (ptV 5) p LL (inB 5 0 4) = 2 := by rw [errS_all, inB_false (by decide)]; exact errT_no hok
  have k2 : errT p LL (isG LL (n : Int)) = 2 := by rw [isG, inB_false (by omega)]; exact errT_no hok
  have k3 : (resL p LL (-1)).2 = 2 := by rw [resL, isG, inB_false (by omega), errT_no hok]; rfl
  have hEb : E = if hasB p = true then 0 else 10 := hE ▸ errT_ok hok
  have k4 : decide ((resC p LL).2.2 = 4) = decide (E = 0) := by
    rw [resC_ok hok, hEb]
    cases hc : clashV p with
    | none =>
      rw [(clashV_none (gradeOk_o hok)).1 hc]
      rfl
    | some z =>
      have : hasB p = false := by
        cases hb : hasB p with
        | false => rfl
        | true => rw [(clashV_none (gradeOk_o hok)).2 hb] at hc; cases hc
      rw [this]
      rfl
  refine Br.mk (fun h2 => ?_) (fun _ => ?_)
  · have h2 : (((!decide (errS (ptV 5) p ((List.range n).map L) (inB 5 0 4) = 2) || !decide (errT p ((List.range n).map L) (isG ((List.range n).map L) (n : Int)) = errS (ptV 5) p ((List.range n).map L) (inB 5 0 4))) || !decide ((resL p ((List.range n).map L) (-1)).2 = errS (ptV 5) p ((List.range n).map L) (inB 5 0 4))) || !(decide ((resC p ((List.range n).map L)).2.2 = 4) == decide (errS (ptV q) p ((List.range n).map L) (inB q 0 4) = 0))) = true := h2
    rw [hLL, e1, k1, k2, k3, k4] at h2
    simp at h2
  rcases (show q = 0 ∨ q = 1 ∨ q = 2 ∨ q = 3 ∨ q = 4 by omega) with rfl | rfl | rfl | rfl | rfl
  · refine Chk.mk ⟨by decide, by decide⟩ ?_
    refine loop_okR (g.ok _ _ _) 1 (fun x : {m : Int × (Int × Int) × (Int × Int) × Nat // (loP p 0 ≤ m.1 ∧ m.1 ≤ hiP p 0 + 1) ∧ Hull varV p 0 m.1 m.2.1 ∧ Hull offV p 0 m.1 m.2.2.1 ∧ GrS (lims3 LL) p 0 m.1 m.2.2.2 ∧ m.2.2.2 < 32} =>
      ⟨[(2, ⟨[], .sp 1 0⟩), (5, ⟨[], .si .i64 0⟩), (6, ⟨[], .sp 2 0⟩), (7, ⟨[], .si .i64 E⟩), (8, ⟨[], .sp 3 0⟩), (10, ⟨[], .sp 4 0⟩), (12, ⟨[], .si .i64 ((resG p LL true : Nat) : Int)⟩), (23, ⟨[], .sp 6 0⟩), (24, ⟨[], .sp 7 0⟩), (25, ⟨[], .si .i64 ((x.1.2.2.2 : Nat) : Int)⟩), (26, ⟨[], .si .i64 x.1.1⟩)], [],
        [(1, .cells 27 (grA 0 p)), (0, .ro 2 n fun i => liC (L i)), (2, .cells 24 [.si .i64 (resS (ptV 0) p LL true).1, .si .i64 (resS (ptV 0) p LL true).2]), (3, .cells 24 [.si .i64 (resS varV p LL true).1, .si .i64 (resS varV p LL true).2]), (4, .cells 24 [.si .i64 (resS offV p LL true).1, .si .i64 (resS offV p LL true).2]),
          (6, .cells 24 [.si .i64 x.1.2.1.1, .si .i64 x.1.2.1.2]), (7, .cells 24 [.si .i64 x.1.2.2.1.1, .si .i64 x.1.2.2.1.2])], 8, []⟩) (fun x => (hiP p 0 + 1 - x.1.1).toNat) hG ⟨(loP p 0, (99, -99), (99, -99), 0), ⟨Int.le_refl _, by have := gradeOk_span hok (q := 0) (by decide); simp only; omega⟩, hull_zero (by decide), hull_zero (by decide), grS_zero (by decide), by show 0 < 32; decide⟩ (fun j => j) ?_ ?_
    · refine ⟨?_, ?_, rfl, rfl, rfl, rfl, trivial⟩ <;> repeat' (first | exact trivial | exact rfl | (rw [← hLL]; rfl) | (rw [← e1, ← hLL]; rfl) | (intro i hi; exact ⟨rfl, rfl⟩) | refine And.intro ?_ ?_)
    rintro ⟨⟨m, V, O, A⟩, ⟨hm1, hm2⟩, hV, hO, hA, hA32⟩
    simp only at hm1 hm2 hV hO hA hA32
    have hsp := gradeOk_span hok (q := 0) (by decide)
    show exec _ _ ⟨[(2, ⟨[], .sp 1 0⟩), (5, ⟨[], .si .i64 0⟩), (6, ⟨[], .sp 2 0⟩), (7, ⟨[], .si .i64 E⟩), (8, ⟨[], .sp 3 0⟩), (10, ⟨[], .sp 4 0⟩), (12, ⟨[], .si .i64 ((resG p LL true : Nat) : Int)⟩), (23, ⟨[], .sp 6 0⟩), (24, ⟨[], .sp 7 0⟩), (25, ⟨[], .si .i64 (A : Int)⟩), (26, ⟨[], .si .i64 m⟩)], [],
        [(1, .cells 27 (grA 0 p)), (0, .ro 2 n fun i => liC (L i)), (2, .cells 24 [.si .i64 (resS (ptV 0) p LL true).1, .si .i64 (resS (ptV 0) p LL true).2]), (3, .cells 24 [.si .i64 (resS varV p LL true).1, .si .i64 (resS varV p LL true).2]), (4, .cells 24 [.si .i64 (resS offV p LL true).1, .si .i64 (resS offV p LL true).2]),
          (6, .cells 24 [.si .i64 V.1, .si .i64 V.2]), (7, .cells 24 [.si .i64 O.1, .si .i64 O.2])], 8, []⟩ _
    refine Chk.mk ⟨by decide, by decide⟩ ?_
    refine Br.mk (fun h => ?_) (fun h => ?_)
    · have hmh : m ≤ hiP p 0 := of_decide_eq_true h
      have hmq : loP p 0 ≤ m ∧ m ≤ hiP p 0 := ⟨hm1, hmh⟩
      refine Chk.mk ⟨lims_i _ _, by decide, by decide⟩ (Chk.mk hlim (Chk.mk hlim (Chk.mk hlim ?_)))
      have hok' : gradeOk (atP p 0 m) LL = true := gradeOk_at hok (by decide) hmq
      have hb' : ptsB (atP p 0 m) := (gradeOk_b hok').1
      have hh : hasB (atP p 0 m) = (hasB p && inB m (vSpan (spanG (ptV 0) p)).1 (vSpan (spanG (ptV 0) p)).2) := hasB_at (by decide) hmq
      have f1 : errS varV (atP p 0 m) LL true = if hasB (atP p 0 m) = true then 0 else 10 := errS_ok hok'
      have f2 : errS offV (atP p 0 m) LL true = if hasB (atP p 0 m) = true then 0 else 10 := errS_ok hok'
      have f3 : errT (atP p 0 m) LL true = if hasB (atP p 0 m) = true then 0 else 10 := errT_ok hok'
      have r0 : resS (ptV 0) p LL true = vSpan (spanG (ptV 0) p) := resS_ok hok
      refine Br.mk (fun h2 => ?_) (fun _ => ?_)
      · have h2 : ((!decide (errS offV (atP p 0 m) ((List.range n).map L) true = errS varV (atP p 0 m) ((List.range n).map L) true) || !decide (errT (atP p 0 m) ((List.range n).map L) true = errS varV (atP p 0 m) ((List.range n).map L) true)) || !(decide (errS varV (atP p 0 m) ((List.range n).map L) true = 0) == (decide (E = 0) && inB m (resS (ptV 0) p LL true).1 (resS (ptV 0) p LL true).2))) = true := h2
        rw [hLL, f1, f2, f3, r0, hEb, hh] at h2
        clear hh hEb
        generalize hasB p = u at h2
        generalize inB m (vSpan (spanG (ptV 0) p)).1 (vSpan (spanG (ptV 0) p)).2 = v at h2
        cases u <;> cases v <;> cases h2
      refine Br.mk (fun h2 => ?_) (fun h2 => ?_)
      · have h2 : decide (errS varV (atP p 0 m) ((List.range n).map L) true = 0) = true := h2
        rw [hLL, f1] at h2
        have hh2 : hasB (atP p 0 m) = true := by
          cases hx : hasB (atP p 0 m) with
          | true => rfl
          | false => rw [hx] at h2; cases h2
        have g1 : resS varV (atP p 0 m) ((List.range n).map L) true = vSpan (spanG varV (atP p 0 m)) := by rw [hLL]; exact resS_ok hok'
        have g2 : resS offV (atP p 0 m) ((List.range n).map L) true = vSpan (spanG offV (atP p 0 m)) := by rw [hLL]; exact resS_ok hok'
        have g3 : resG (atP p 0 m) ((List.range n).map L) true = setV (lims3 LL) (atP p 0 m) := by rw [hLL]; exact resG_ok hok' hh2
        have hS32 : setV (lims3 LL) (atP p 0 m) < 32 := setV_lt hb' (by have := (gradeOk_b hok).2; omega)
        refine drawn_ok (g.ok _ _ _) fol [0,1,0,4,15,0,32,0,128,480,1023,0,2048,0,8192,30720,0,65536,0,262144,983040,2097151,0,0,12582912,4194303,37748735,134217727] [(25, 6), (26, 7)] 28 (by kernel_rfl) ?_
        have hA1 : InK .i64 (A : Int) := ⟨by show (-9223372036854775808 : Int) ≤ _; omega, by show _ ≤ (9223372036854775807 : Int); omega⟩
        have hA2 : InK .i64 ((resG (atP p 0 m) ((List.range n).map L) true : Nat) : Int) := by
          rw [g3]
          exact ⟨by show (-9223372036854775808 : Int) ≤ _; omega, by show _ ≤ (9223372036854775807 : Int); omega⟩
        refine Chk.mk ⟨by omega, by omega, hA1, hA2⟩ ?_
        refine Chk.mk (show InK .i64 (m + 1) from ⟨by show (-9223372036854775808 : Int) ≤ _; omega, by show _ ≤ (9223372036854775807 : Int); omega⟩) ?_
        refine ⟨⟨(m + 1, (min V.1 (resS varV (atP p 0 m) ((List.range n).map L) true).1, max V.2 (resS varV (atP p 0 m) ((List.range n).map L) true).2), (min O.1 (resS offV (atP p 0 m) ((List.range n).map L) true).1, max O.2 (resS offV (atP p 0 m) ((List.range n).map L) true).2), A ||| resG (atP p 0 m) ((List.range n).map L) true), ⟨by simp only; omega, by simp only; omega⟩, by rw [g1]; exact hull_step fb_var hb (by decide) hmq hV hh2, by rw [g2]; exact hull_step fb_off hb (by decide) hmq hO hh2, by rw [g3]; exact grS_step (by decide) hmq hA, by rw [g3]; exact Nat.or_lt_two_pow (n := 5) hA32 hS32⟩, (fun j => j), ?_, by show (hiP p 0 + 1 - (m + 1)).toNat < (hiP p 0 + 1 - m).toNat; omega⟩
        refine ⟨?_, ?_, rfl, rfl, rfl, rfl, trivial⟩ <;> repeat' (first | exact trivial | exact rfl | (intro i hi; exact ⟨rfl, rfl⟩) | refine And.intro ?_ ?_)
      · have h2 : decide (errS varV (atP p 0 m) ((List.range n).map L) true = 0) = false := h2
        rw [hLL, f1] at h2
        have hh2 : hasB (atP p 0 m) = false := by
          cases hx : hasB (atP p 0 m) with
          | false => rfl
          | true => rw [hx] at h2; cases h2
        refine Chk.mk (show InK .i64 (m + 1) from ⟨by show (-9223372036854775808 : Int) ≤ _; omega, by show _ ≤ (9223372036854775807 : Int); omega⟩) ?_
        refine ⟨⟨(m + 1, V, O, A), ⟨by simp only; omega, by simp only; omega⟩, hull_skip (by decide) hmq hV hh2, hull_skip (by decide) hmq hO hh2, grS_skip (by decide) hmq hA hh2, hA32⟩, (fun j => j), ?_, by show (hiP p 0 + 1 - (m + 1)).toNat < (hiP p 0 + 1 - m).toNat; omega⟩
        refine ⟨?_, ?_, rfl, rfl, rfl, rfl, trivial⟩ <;> repeat' (first | exact trivial | exact rfl | (intro i hi; exact ⟨rfl, rfl⟩) | refine And.intro ?_ ?_)
    · have hmh : hiP p 0 < m := by
        have h : decide (m ≤ hiP p 0) = false := h
        have := of_decide_eq_false h
        omega
      have r0 : resS (ptV 0) p LL true = vSpan (spanG (ptV 0) p) := resS_ok hok
      have r1 : resS varV p LL true = vSpan (spanG varV p) := resS_ok hok
      have r2 : resS offV p LL true = vSpan (spanG offV p) := resS_ok hok
      refine Br.mk (fun h2 => ?_) (fun h2 => ?_)
      · have h2 : (!decide (E = 0)) = true := h2
        have hhb : hasB p = false := by
          cases hx : hasB p with
          | false => rfl
          | true => rw [hEb, hx] at h2; cases h2
        have hs : ∀ F, spanG F p = none := fun F => by
          have := bSpan_iff (F := F) (g := p)
          rw [hhb] at this
          cases hx : spanG F p with
          | none => rfl
          | some z => rw [hx] at this; cases this
        have r3 : resG p LL true = 0 := by rw [resG, errT_ok hok, hhb]; rfl
        exact ⟨.inl rfl, end_noid (by
          show (((((decide (E = 10) && (decide ((resS (ptV 0) p LL true).1 = 0) && (decide ((resS (ptV 0) p LL true).2 = 0) && true))) && (decide ((resS varV p LL true).1 = 0) && (decide ((resS varV p LL true).2 = 0) && true))) && (decide ((resS offV p LL true).1 = 0) && (decide ((resS offV p LL true).2 = 0) && true))) && decide (((resG p LL true : Nat) : Int) = 0)) && true) = true
          rw [r0, r1, r2, r3, hs, hs, hs, hEb, hhb]
          rfl) rfl rfl (by repeat' (first | exact trivial | exact rfl | (intro i hi; exact ⟨rfl, rfl⟩) | refine And.intro ?_ ?_))⟩
      · have h2 : (!decide (E = 0)) = false := h2
        have hhb : hasB p = true := by
          cases hx : hasB p with
          | true => rfl
          | false => rw [hEb, hx] at h2; cases h2
        have r3 : resG p LL true = setV (lims3 LL) p := resG_ok hok hhb
        have v1 := hull_end (by decide) hmh hV hhb
        have v2 := hull_end (by decide) hmh hO hhb
        have v3 := grS_end (by decide) hmh hA
        exact ⟨.inl rfl, end_noid (by
          show ((((decide (V.1 = (resS varV p LL true).1) && (decide (V.2 = (resS varV p LL true).2) && true)) && (decide (O.1 = (resS offV p LL true).1) && (decide (O.2 = (resS offV p LL true).2) && true))) && decide (((A : Nat) : Int) = ((resG p LL true : Nat) : Int))) && true) = true
          rw [r1, r2, r3, v1, v2, v3]
          simp) rfl rfl (by repeat' (first | exact trivial | exact rfl | (intro i hi; exact ⟨rfl, rfl⟩) | refine And.intro ?_ ?_))⟩
  · refine Chk.mk ⟨by decide, by decide⟩ ?_
    refine loop_okR (g.ok _ _ _) 1 (fun x : {m : Int × (Int × Int) × (Int × Int) × Nat // (loP p 1 ≤ m.1 ∧ m.1 ≤ hiP p 1 + 1) ∧ Hull varV p 1 m.1 m.2.1 ∧ Hull offV p 1 m.1 m.2.2.1 ∧ GrS (lims3 LL) p 1 m.1 m.2.2.2 ∧ m.2.2.2 < 32} =>
      ⟨[(2, ⟨[], .sp 1 0⟩), (5, ⟨[], .si .i64 1⟩), (6, ⟨[], .sp 2 0⟩), (7, ⟨[], .si .i64 E⟩), (8, ⟨[], .sp 3 0⟩), (10, ⟨[], .sp 4 0⟩), (12, ⟨[], .si .i64 ((resG p LL true : Nat) : Int)⟩), (23, ⟨[], .sp 6 0⟩), (24, ⟨[], .sp 7 0⟩), (25, ⟨[], .si .i64 ((x.1.2.2.2 : Nat) : Int)⟩), (26, ⟨[], .si .i64 x.1.1⟩)], [],
        [(1, .cells 27 (grA 0 p)), (0, .ro 2 n fun i => liC (L i)), (2, .cells 24 [.si .i64 (resS (ptV 1) p LL true).1, .si .i64 (resS (ptV 1) p LL true).2]), (3, .cells 24 [.si .i64 (resS varV p LL true).1, .si .i64 (resS varV p LL true).2]), (4, .cells 24 [.si .i64 (resS offV p LL true).1, .si .i64 (resS offV p LL true).2]),
          (6, .cells 24 [.si .i64 x.1.2.1.1, .si .i64 x.1.2.1.2]), (7, .cells 24 [.si .i64 x.1.2.2.1.1, .si .i64 x.1.2.2.1.2])], 8, []⟩) (fun x => (hiP p 1 + 1 - x.1.1).toNat) hG ⟨(loP p 1, (99, -99), (99, -99), 0), ⟨Int.le_refl _, by have := gradeOk_span hok (q := 1) (by decide); simp only; omega⟩, hull_zero (by decide), hull_zero (by decide), grS_zero (by decide), by show 0 < 32; decide⟩ (fun j => j) ?_ ?_
    · refine ⟨?_, ?_, rfl, rfl, rfl, rfl, trivial⟩ <;> repeat' (first | exact trivial | exact rfl | (rw [← hLL]; rfl) | (rw [← e1, ← hLL]; rfl) | (intro i hi; exact ⟨rfl, rfl⟩) | refine And.intro ?_ ?_)
    rintro ⟨⟨m, V, O, A⟩, ⟨hm1, hm2⟩, hV, hO, hA, hA32⟩
    simp only at hm1 hm2 hV hO hA hA32
    have hsp := gradeOk_span hok (q := 1) (by decide)
    show exec _ _ ⟨[(2, ⟨[], .sp 1 0⟩), (5, ⟨[], .si .i64 1⟩), (6, ⟨[], .sp 2 0⟩), (7, ⟨[], .si .i64 E⟩), (8, ⟨[], .sp 3 0⟩), (10, ⟨[], .sp 4 0⟩), (12, ⟨[], .si .i64 ((resG p LL true : Nat) : Int)⟩), (23, ⟨[], .sp 6 0⟩), (24, ⟨[], .sp 7 0⟩), (25, ⟨[], .si .i64 (A : Int)⟩), (26, ⟨[], .si .i64 m⟩)], [],
        [(1, .cells 27 (grA 0 p)), (0, .ro 2 n fun i => liC (L i)), (2, .cells 24 [.si .i64 (resS (ptV 1) p LL true).1, .si .i64 (resS (ptV 1) p LL true).2]), (3, .cells 24 [.si .i64 (resS varV p LL true).1, .si .i64 (resS varV p LL true).2]), (4, .cells 24 [.si .i64 (resS offV p LL true).1, .si .i64 (resS offV p LL true).2]),
          (6, .cells 24 [.si .i64 V.1, .si .i64 V.2]), (7, .cells 24 [.si .i64 O.1, .si .i64 O.2])], 8, []⟩ _
    refine Chk.mk ⟨by decide, by decide⟩ ?_
    refine Br.mk (fun h => ?_) (fun h => ?_)
    · have hmh : m ≤ hiP p 1 := of_decide_eq_true h
      have hmq : loP p 1 ≤ m ∧ m ≤ hiP p 1 := ⟨hm1, hmh⟩
      refine Chk.mk ⟨lims_i _ _, by decide, by decide⟩ (Chk.mk hlim (Chk.mk hlim (Chk.mk hlim ?_)))
      have hok' : gradeOk (atP p 1 m) LL = true := gradeOk_at hok (by decide) hmq
      have hb' : ptsB (atP p 1 m) := (gradeOk_b hok').1
      have hh : hasB (atP p 1 m) = (hasB p && inB m (vSpan (spanG (ptV 1) p)).1 (vSpan (spanG (ptV 1) p)).2) := hasB_at (by decide) hmq
      have f1 : errS varV (atP p 1 m) LL true = if hasB (atP p 1 m) = true then 0 else 10 := errS_ok hok'
      have f2 : errS offV (atP p 1 m) LL true = if hasB (atP p 1 m) = true then 0 else 10 := errS_ok hok'
      have f3 : errT (atP p 1 m) LL true = if hasB (atP p 1 m) = true then 0 else 10 := errT_ok hok'
      have r0 : resS (ptV 1) p LL true = vSpan (spanG (ptV 1) p) := resS_ok hok
      refine Br.mk (fun h2 => ?_) (fun _ => ?_)
      · have h2 : ((!decide (errS offV (atP p 1 m) ((List.range n).map L) true = errS varV (atP p 1 m) ((List.range n).map L) true) || !decide (errT (atP p 1 m) ((List.range n).map L) true = errS varV (atP p 1 m) ((List.range n).map L) true)) || !(decide (errS varV (atP p 1 m) ((List.range n).map L) true = 0) == (decide (E = 0) && inB m (resS (ptV 1) p LL true).1 (resS (ptV 1) p LL true).2))) = true := h2
        rw [hLL, f1, f2, f3, r0, hEb, hh] at h2
        clear hh hEb
        generalize hasB p = u at h2
        generalize inB m (vSpan (spanG (ptV 1) p)).1 (vSpan (spanG (ptV 1) p)).2 = v at h2
        cases u <;> cases v <;> cases h2
      refine Br.mk (fun h2 => ?_) (fun h2 => ?_)
      · have h2 : decide (errS varV (atP p 1 m) ((List.range n).map L) true = 0) = true := h2
        rw [hLL, f1] at h2
        have hh2 : hasB (atP p 1 m) = true := by
          cases hx : hasB (atP p 1 m) with
          | true => rfl
          | false => rw [hx] at h2; cases h2
        have g1 : resS varV (atP p 1 m) ((List.range n).map L) true = vSpan (spanG varV (atP p 1 m)) := by rw [hLL]; exact resS_ok hok'
        have g2 : resS offV (atP p 1 m) ((List.range n).map L) true = vSpan (spanG offV (atP p 1 m)) := by rw [hLL]; exact resS_ok hok'
        have g3 : resG (atP p 1 m) ((List.range n).map L) true = setV (lims3 LL) (atP p 1 m) := by rw [hLL]; exact resG_ok hok' hh2
        have hS32 : setV (lims3 LL) (atP p 1 m) < 32 := setV_lt hb' (by have := (gradeOk_b hok).2; omega)
        refine drawn_ok (g.ok _ _ _) fol [0,1,0,4,15,0,32,0,128,480,1023,0,2048,0,8192,30720,0,65536,0,262144,983040,2097151,0,0,12582912,4194303,37748735,134217727] [(25, 6), (26, 7)] 28 (by kernel_rfl) ?_
        have hA1 : InK .i64 (A : Int) := ⟨by show (-9223372036854775808 : Int) ≤ _; omega, by show _ ≤ (9223372036854775807 : Int); omega⟩
        have hA2 : InK .i64 ((resG (atP p 1 m) ((List.range n).map L) true : Nat) : Int) := by
          rw [g3]
          exact ⟨by show (-9223372036854775808 : Int) ≤ _; omega, by show _ ≤ (9223372036854775807 : Int); omega⟩
        refine Chk.mk ⟨by omega, by omega, hA1, hA2⟩ ?_
        refine Chk.mk (show InK .i64 (m + 1) from ⟨by show (-9223372036854775808 : Int) ≤ _; omega, by show _ ≤ (9223372036854775807 : Int); omega⟩) ?_
        refine ⟨⟨(m + 1, (min V.1 (resS varV (atP p 1 m) ((List.range n).map L) true).1, max V.2 (resS varV (atP p 1 m) ((List.range n).map L) true).2), (min O.1 (resS offV (atP p 1 m) ((List.range n).map L) true).1, max O.2 (resS offV (atP p 1 m) ((List.range n).map L) true).2), A ||| resG (atP p 1 m) ((List.range n).map L) true), ⟨by simp only; omega, by simp only; omega⟩, by rw [g1]; exact hull_step fb_var hb (by decide) hmq hV hh2, by rw [g2]; exact hull_step fb_off hb (by decide) hmq hO hh2, by rw [g3]; exact grS_step (by decide) hmq hA, by rw [g3]; exact Nat.or_lt_two_pow (n := 5) hA32 hS32⟩, (fun j => j), ?_, by show (hiP p 1 + 1 - (m + 1)).toNat < (hiP p 1 + 1 - m).toNat; omega⟩
        refine ⟨?_, ?_, rfl, rfl, rfl, rfl, trivial⟩ <;> repeat' (first | exact trivial | exact rfl | (intro i hi; exact ⟨rfl, rfl⟩) | refine And.intro ?_ ?_)
      · have h2 : decide (errS varV (atP p 1 m) ((List.range n).map L) true = 0) = false := h2
        rw [hLL, f1] at h2
        have hh2 : hasB (atP p 1 m) = false := by
          cases hx : hasB (atP p 1 m) with
          | false => rfl
          | true => rw [hx] at h2; cases h2
        refine Chk.mk (show InK .i64 (m + 1) from ⟨by show (-9223372036854775808 : Int) ≤ _; omega, by show _ ≤ (9223372036854775807 : Int); omega⟩) ?_
        refine ⟨⟨(m + 1, V, O, A), ⟨by simp only; omega, by simp only; omega⟩, hull_skip (by decide) hmq hV hh2, hull_skip (by decide) hmq hO hh2, grS_skip (by decide) hmq hA hh2, hA32⟩, (fun j => j), ?_, by show (hiP p 1 + 1 - (m + 1)).toNat < (hiP p 1 + 1 - m).toNat; omega⟩
        refine ⟨?_, ?_, rfl, rfl, rfl, rfl, trivial⟩ <;> repeat' (first | exact trivial | exact rfl | (intro i hi; exact ⟨rfl, rfl⟩) | refine And.intro ?_ ?_)
    · have hmh : hiP p 1 < m := by
        have h : decide (m ≤ hiP p 1) = false := h
        have := of_decide_eq_false h
        omega
      have r0 : resS (ptV 1) p LL true = vSpan (spanG (ptV 1) p) := resS_ok hok
      have r1 : resS varV p LL true = vSpan (spanG varV p) := resS_ok hok
      have r2 : resS offV p LL true = vSpan (spanG offV p) := resS_ok hok
      refine Br.mk (fun h2 => ?_) (fun h2 => ?_)
      · have h2 : (!decide (E = 0)) = true := h2
        have hhb : hasB p = false := by
          cases hx : hasB p with
          | false => rfl
          | true => rw [hEb, hx] at h2; cases h2
        have hs : ∀ F, spanG F p = none := fun F => by
          have := bSpan_iff (F := F) (g := p)
          rw [hhb] at this
          cases hx : spanG F p with
          | none => rfl
          | some z => rw [hx] at this; cases this
        have r3 : resG p LL true = 0 := by rw [resG, errT_ok hok, hhb]; rfl
        exact ⟨.inl rfl, end_noid (by
          show (((((decide (E = 10) && (decide ((resS (ptV 1) p LL true).1 = 0) && (decide ((resS (ptV 1) p LL true).2 = 0) && true))) && (decide ((resS varV p LL true).1 = 0) && (decide ((resS varV p LL true).2 = 0) && true))) && (decide ((resS offV p LL true).1 = 0) && (decide ((resS offV p LL true).2 = 0) && true))) && decide (((resG p LL true : Nat) : Int) = 0)) && true) = true
          rw [r0, r1, r2, r3, hs, hs, hs, hEb, hhb]
          rfl) rfl rfl (by repeat' (first | exact trivial | exact rfl | (intro i hi; exact ⟨rfl, rfl⟩) | refine And.intro ?_ ?_))⟩
      · have h2 : (!decide (E = 0)) = false := h2
        have hhb : hasB p = true := by
          cases hx : hasB p with
          | true => rfl
          | false => rw [hEb, hx] at h2; cases h2
        have r3 : resG p LL true = setV (lims3 LL) p := resG_ok hok hhb
        have v1 := hull_end (by decide) hmh hV hhb
        have v2 := hull_end (by decide) hmh hO hhb
        have v3 := grS_end (by decide) hmh hA
        exact ⟨.inl rfl, end_noid (by
          show ((((decide (V.1 = (resS varV p LL true).1) && (decide (V.2 = (resS varV p LL true).2) && true)) && (decide (O.1 = (resS offV p LL true).1) && (decide (O.2 = (resS offV p LL true).2) && true))) && decide (((A : Nat) : Int) = ((resG p LL true : Nat) : Int))) && true) = true
          rw [r1, r2, r3, v1, v2, v3]
          simp) rfl rfl (by repeat' (first | exact trivial | exact rfl | (intro i hi; exact ⟨rfl, rfl⟩) | refine And.intro ?_ ?_))⟩
  · refine Chk.mk ⟨by decide, by decide⟩ ?_
    refine loop_okR (g.ok _ _ _) 1 (fun x : {m : Int × (Int × Int) × (Int × Int) × Nat // (loP p 2 ≤ m.1 ∧ m.1 ≤ hiP p 2 + 1) ∧ Hull varV p 2 m.1 m.2.1 ∧ Hull offV p 2 m.1 m.2.2.1 ∧ GrS (lims3 LL) p 2 m.1 m.2.2.2 ∧ m.2.2.2 < 32} =>
      ⟨[(2, ⟨[], .sp 1 0⟩), (5, ⟨[], .si .i64 2⟩), (6, ⟨[], .sp 2 0⟩), (7, ⟨[], .si .i64 E⟩), (8, ⟨[], .sp 3 0⟩), (10, ⟨[], .sp 4 0⟩), (12, ⟨[], .si .i64 ((resG p LL true : Nat) : Int)⟩), (23, ⟨[], .sp 6 0⟩), (24, ⟨[], .sp 7 0⟩), (25, ⟨[], .si .i64 ((x.1.2.2.2 : Nat) : Int)⟩), (26, ⟨[], .si .i64 x.1.1⟩)], [],
        [(1, .cells 27 (grA 0 p)), (0, .ro 2 n fun i => liC (L i)), (2, .cells 24 [.si .i64 (resS (ptV 2) p LL true).1, .si .i64 (resS (ptV 2) p LL true).2]), (3, .cells 24 [.si .i64 (resS varV p LL true).1, .si .i64 (resS varV p LL true).2]), (4, .cells 24 [.si .i64 (resS offV p LL true).1, .si .i64 (resS offV p LL true).2]),
          (6, .cells 24 [.si .i64 x.1.2.1.1, .si .i64 x.1.2.1.2]), (7, .cells 24 [.si .i64 x.1.2.2.1.1, .si .i64 x.1.2.2.1.2])], 8, []⟩) (fun x => (hiP p 2 + 1 - x.1.1).toNat) hG ⟨(loP p 2, (99, -99), (99, -99), 0), ⟨Int.le_refl _, by have := gradeOk_span hok (q := 2) (by decide); simp only; omega⟩, hull_zero (by decide), hull_zero (by decide), grS_zero (by decide), by show 0 < 32; decide⟩ (fun j => j) ?_ ?_
    · refine ⟨?_, ?_, rfl, rfl, rfl, rfl, trivial⟩ <;> repeat' (first | exact trivial | exact rfl | (rw [← hLL]; rfl) | (rw [← e1, ← hLL]; rfl) | (intro i hi; exact ⟨rfl, rfl⟩) | refine And.intro ?_ ?_)
    rintro ⟨⟨m, V, O, A⟩, ⟨hm1, hm2⟩, hV, hO, hA, hA32⟩
    simp only at hm1 hm2 hV hO hA hA32
    have hsp := gradeOk_span hok (q := 2) (by decide)
    show exec _ _ ⟨[(2, ⟨[], .sp 1 0⟩), (5, ⟨[], .si .i64 2⟩), (6, ⟨[], .sp 2 0⟩), (7, ⟨[], .si .i64 E⟩), (8, ⟨[], .sp 3 0⟩), (10, ⟨[], .sp 4 0⟩), (12, ⟨[], .si .i64 ((resG p LL true : Nat) : Int)⟩), (23, ⟨[], .sp 6 0⟩), (24, ⟨[], .sp 7 0⟩), (25, ⟨[], .si .i64 (A : Int)⟩), (26, ⟨[], .si .i64 m⟩)], [],
        [(1, .cells 27 (grA 0 p)), (0, .ro 2 n fun i => liC (L i)), (2, .cells 24 [.si .i64 (resS (ptV 2) p LL true).1, .si .i64 (resS (ptV 2) p LL true).2]), (3, .cells 24 [.si .i64 (resS varV p LL true).1, .si .i64 (resS varV p LL true).2]), (4, .cells 24 [.si .i64 (resS offV p LL true).1, .si .i64 (resS offV p LL true).2]),
          (6, .cells 24 [.si .i64 V.1, .si .i64 V.2]), (7, .cells 24 [.si .i64 O.1, .si .i64 O.2])], 8, []⟩ _
    refine Chk.mk ⟨by decide, by decide⟩ ?_
    refine Br.mk (fun h => ?_) (fun h => ?_)
    · have hmh : m ≤ hiP p 2 := of_decide_eq_true h
      have hmq : loP p 2 ≤ m ∧ m ≤ hiP p 2 := ⟨hm1, hmh⟩
      refine Chk.mk ⟨lims_i _ _, by decide, by decide⟩ (Chk.mk hlim (Chk.mk hlim (Chk.mk hlim ?_)))
      have hok' : gradeOk (atP p 2 m) LL = true := gradeOk_at hok (by decide) hmq
      have hb' : ptsB (atP p 2 m) := (gradeOk_b hok').1
      have hh : hasB (atP p 2 m) = (hasB p && inB m (vSpan (spanG (ptV 2) p)).1 (vSpan (spanG (ptV 2) p)).2) := hasB_at (by decide) hmq
      have f1 : errS varV (atP p 2 m) LL true = if hasB (atP p 2 m) = true then 0 else 10 := errS_ok hok'
      have f2 : errS offV (atP p 2 m) LL true = if hasB (atP p 2 m) = true then 0 else 10 := errS_ok hok'
      have f3 : errT (atP p 2 m) LL true = if hasB (atP p 2 m) = true then 0 else 10 := errT_ok hok'
      have r0 : resS (ptV 2) p LL true = vSpan (spanG (ptV 2) p) := resS_ok hok
      refine Br.mk (fun h2 => ?_) (fun _ => ?_)
      · have h2 : ((!decide (errS offV (atP p 2 m) ((List.range n).map L) true = errS varV (atP p 2 m) ((List.range n).map L) true) || !decide (errT (atP p 2 m) ((List.range n).map L) true = errS varV (atP p 2 m) ((List.range n).map L) true)) || !(decide (errS varV (atP p 2 m) ((List.range n).map L) true = 0) == (decide (E = 0) && inB m (resS (ptV 2) p LL true).1 (resS (ptV 2) p LL true).2))) = true := h2
        rw [hLL, f1, f2, f3, r0, hEb, hh] at h2
        clear hh hEb
        generalize hasB p = u at h2
        generalize inB m (vSpan (spanG (ptV 2) p)).1 (vSpan (spanG (ptV 2) p)).2 = v at h2
        cases u <;> cases v <;> cases h2
      refine Br.mk (fun h2 => ?_) (fun h2 => ?_)
      · have h2 : decide (errS varV (atP p 2 m) ((List.range n).map L) true = 0) = true := h2
        rw [hLL, f1] at h2
        have hh2 : hasB (atP p 2 m) = true := by
          cases hx : hasB (atP p 2 m) with
          | true => rfl
          | false => rw [hx] at h2; cases h2
        have g1 : resS varV (atP p 2 m) ((List.range n).map L) true = vSpan (spanG varV (atP p 2 m)) := by rw [hLL]; exact resS_ok hok'
        have g2 : resS offV (atP p 2 m) ((List.range n).map L) true = vSpan (spanG offV (atP p 2 m)) := by rw [hLL]; exact resS_ok hok'
        have g3 : resG (atP p 2 m) ((List.range n).map L) true = setV (lims3 LL) (atP p 2 m) := by rw [hLL]; exact resG_ok hok' hh2
        have hS32 : setV (lims3 LL) (atP p 2 m) < 32 := setV_lt hb' (by have := (gradeOk_b hok).2; omega)
        refine drawn_ok (g.ok _ _ _) fol [0,1,0,4,15,0,32,0,128,480,1023,0,2048,0,8192,30720,0,65536,0,262144,983040,2097151,0,0,12582912,4194303,37748735,134217727] [(25, 6), (26, 7)] 28 (by kernel_rfl) ?_
        have hA1 : InK .i64 (A : Int) := ⟨by show (-9223372036854775808 : Int) ≤ _; omega, by show _ ≤ (9223372036854775807 : Int); omega⟩
        have hA2 : InK .i64 ((resG (atP p 2 m) ((List.range n).map L) true : Nat) : Int) := by
          rw [g3]
          exact ⟨by show (-9223372036854775808 : Int) ≤ _; omega, by show _ ≤ (9223372036854775807 : Int); omega⟩
        refine Chk.mk ⟨by omega, by omega, hA1, hA2⟩ ?_
        refine Chk.mk (show InK .i64 (m + 1) from ⟨by show (-9223372036854775808 : Int) ≤ _; omega, by show _ ≤ (9223372036854775807 : Int); omega⟩) ?_
        refine ⟨⟨(m + 1, (min V.1 (resS varV (atP p 2 m) ((List.range n).map L) true).1, max V.2 (resS varV (atP p 2 m) ((List.range n).map L) true).2), (min O.1 (resS offV (atP p 2 m) ((List.range n).map L) true).1, max O.2 (resS offV (atP p 2 m) ((List.range n).map L) true).2), A ||| resG (atP p 2 m) ((List.range n).map L) true), ⟨by simp only; omega, by simp only; omega⟩, by rw [g1]; exact hull_step fb_var hb (by decide) hmq hV hh2, by rw [g2]; exact hull_step fb_off hb (by decide) hmq hO hh2, by rw [g3]; exact grS_step (by decide) hmq hA, by rw [g3]; exact Nat.or_lt_two_pow (n := 5) hA32 hS32⟩, (fun j => j), ?_, by show (hiP p 2 + 1 - (m + 1)).toNat < (hiP p 2 + 1 - m).toNat; omega⟩
        refine ⟨?_, ?_, rfl, rfl, rfl, rfl, trivial⟩ <;> repeat' (first | exact trivial | exact rfl | (intro i hi; exact ⟨rfl, rfl⟩) | refine And.intro ?_ ?_)
      · have h2 : decide (errS varV (atP p 2 m) ((List.range n).map L) true = 0) = false := h2
        rw [hLL, f1] at h2
        have hh2 : hasB (atP p 2 m) = false := by
          cases hx : hasB (atP p 2 m) with
          | false => rfl
          | true => rw [hx] at h2; cases h2
        refine Chk.mk (show InK .i64 (m + 1) from ⟨by show (-9223372036854775808 : Int) ≤ _; omega, by show _ ≤ (9223372036854775807 : Int); omega⟩) ?_
        refine ⟨⟨(m + 1, V, O, A), ⟨by simp only; omega, by simp only; omega⟩, hull_skip (by decide) hmq hV hh2, hull_skip (by decide) hmq hO hh2, grS_skip (by decide) hmq hA hh2, hA32⟩, (fun j => j), ?_, by show (hiP p 2 + 1 - (m + 1)).toNat < (hiP p 2 + 1 - m).toNat; omega⟩
        refine ⟨?_, ?_, rfl, rfl, rfl, rfl, trivial⟩ <;> repeat' (first | exact trivial | exact rfl | (intro i hi; exact ⟨rfl, rfl⟩) | refine And.intro ?_ ?_)
    · have hmh : hiP p 2 < m := by
        have h : decide (m ≤ hiP p 2) = false := h
        have := of_decide_eq_false h
        omega
      have r0 : resS (ptV 2) p LL true = vSpan (spanG (ptV 2) p) := resS_ok hok
      have r1 : resS varV p LL true = vSpan (spanG varV p) := resS_ok hok
      have r2 : resS offV p LL true = vSpan (spanG offV p) := resS_ok hok
      refine Br.mk (fun h2 => ?_) (fun h2 => ?_)
      · have h2 : (!decide (E = 0)) = true := h2
        have hhb : hasB p = false := by
          cases hx : hasB p with
          | false => rfl
          | true => rw [hEb, hx] at h2; cases h2
        have hs : ∀ F, spanG F p = none := fun F => by
          have := bSpan_iff (F := F) (g := p)
          rw [hhb] at this
          cases hx : spanG F p with
          | none => rfl
          | some z => rw [hx] at this; cases this
        have r3 : resG p LL true = 0 := by rw [resG, errT_ok hok, hhb]; rfl
        exact ⟨.inl rfl, end_noid (by
          show (((((decide (E = 10) && (decide ((resS (ptV 2) p LL true).1 = 0) && (decide ((resS (ptV 2) p LL true).2 = 0) && true))) && (decide ((resS varV p LL true).1 = 0) && (decide ((resS varV p LL true).2 = 0) && true))) && (decide ((resS offV p LL true).1 = 0) && (decide ((resS offV p LL true).2 = 0) && true))) && decide (((resG p LL true : Nat) : Int) = 0)) && true) = true
          rw [r0, r1, r2, r3, hs, hs, hs, hEb, hhb]
          rfl) rfl rfl (by repeat' (first | exact trivial | exact rfl | (intro i hi; exact ⟨rfl, rfl⟩) | refine And.intro ?_ ?_))⟩
      · have h2 : (!decide (E = 0)) = false := h2
        have hhb : hasB p = true := by
          cases hx : hasB p with
          | true => rfl
          | false => rw [hEb, hx] at h2; cases h2
        have r3 : resG p LL true = setV (lims3 LL) p := resG_ok hok hhb
        have v1 := hull_end (by decide) hmh hV hhb
        have v2 := hull_end (by decide) hmh hO hhb
        have v3 := grS_end (by decide) hmh hA
        exact ⟨.inl rfl, end_noid (by
          show ((((decide (V.1 = (resS varV p LL true).1) && (decide (V.2 = (resS varV p LL true).2) && true)) && (decide (O.1 = (resS offV p LL true).1) && (decide (O.2 = (resS offV p LL true).2) && true))) && decide (((A : Nat) : Int) = ((resG p LL true : Nat) : Int))) && true) = true
          rw [r1, r2, r3, v1, v2, v3]
          simp) rfl rfl (by repeat' (first | exact trivial | exact rfl | (intro i hi; exact ⟨rfl, rfl⟩) | refine And.intro ?_ ?_))⟩
  · refine Chk.mk ⟨by decide, by decide⟩ ?_
    refine loop_okR (g.ok _ _ _) 1 (fun x : {m : Int × (Int × Int) × (Int × Int) × Nat // (loP p 3 ≤ m.1 ∧ m.1 ≤ hiP p 3 + 1) ∧ Hull varV p 3 m.1 m.2.1 ∧ Hull offV p 3 m.1 m.2.2.1 ∧ GrS (lims3 LL) p 3 m.1 m.2.2.2 ∧ m.2.2.2 < 32} =>
      ⟨[(2, ⟨[], .sp 1 0⟩), (5, ⟨[], .si .i64 3⟩), (6, ⟨[], .sp 2 0⟩), (7, ⟨[], .si .i64 E⟩), (8, ⟨[], .sp 3 0⟩), (10, ⟨[], .sp 4 0⟩), (12, ⟨[], .si .i64 ((resG p LL true : Nat) : Int)⟩), (23, ⟨[], .sp 6 0⟩), (24, ⟨[], .sp 7 0⟩), (25, ⟨[], .si .i64 ((x.1.2.2.2 : Nat) : Int)⟩), (26, ⟨[], .si .i64 x.1.1⟩)], [],
        [(1, .cells 27 (grA 0 p)), (0, .ro 2 n fun i => liC (L i)), (2, .cells 24 [.si .i64 (resS (ptV 3) p LL true).1, .si .i64 (resS (ptV 3) p LL true).2]), (3, .cells 24 [.si .i64 (resS varV p LL true).1, .si .i64 (resS varV p LL true).2]), (4, .cells 24 [.si .i64 (resS offV p LL true).1, .si .i64 (resS offV p LL true).2]),
          (6, .cells 24 [.si .i64 x.1.2.1.1, .si .i64 x.1.2.1.2]), (7, .cells 24 [.si .i64 x.1.2.2.1.1, .si .i64 x.1.2.2.1.2])], 8, []⟩) (fun x => (hiP p 3 + 1 - x.1.1).toNat) hG ⟨(loP p 3, (99, -99), (99, -99), 0), ⟨Int.le_refl _, by have := gradeOk_span hok (q := 3) (by decide); simp only; omega⟩, hull_zero (by decide), hull_zero (by decide), grS_zero (by decide), by show 0 < 32; decide⟩ (fun j => j) ?_ ?_
    · refine ⟨?_, ?_, rfl, rfl, rfl, rfl, trivial⟩ <;> repeat' (first | exact trivial | exact rfl | (rw [← hLL]; rfl) | (rw [← e1, ← hLL]; rfl) | (intro i hi; exact ⟨rfl, rfl⟩) | refine And.intro ?_ ?_)
    rintro ⟨⟨m, V, O, A⟩, ⟨hm1, hm2⟩, hV, hO, hA, hA32⟩
    simp only at hm1 hm2 hV hO hA hA32
    have hsp := gradeOk_span hok (q := 3) (by decide)
    show exec _ _ ⟨[(2, ⟨[], .sp 1 0⟩), (5, ⟨[], .si .i64 3⟩), (6, ⟨[], .sp 2 0⟩), (7, ⟨[], .si .i64 E⟩), (8, ⟨[], .sp 3 0⟩), (10, ⟨[], .sp 4 0⟩), (12, ⟨[], .si .i64 ((resG p LL true : Nat) : Int)⟩), (23, ⟨[], .sp 6 0⟩), (24, ⟨[], .sp 7 0⟩), (25, ⟨[], .si .i64 (A : Int)⟩), (26, ⟨[], .si .i64 m⟩)], [],
        [(1, .cells 27 (grA 0 p)), (0, .ro 2 n fun i => liC (L i)), (2, .cells 24 [.si .i64 (resS (ptV 3) p LL true).1, .si .i64 (resS (ptV 3) p LL true).2]), (3, .cells 24 [.si .i64 (resS varV p LL true).1, .si .i64 (resS varV p LL true).2]), (4, .cells 24 [.si .i64 (resS offV p LL true).1, .si .i64 (resS offV p LL true).2]),
          (6, .cells 24 [.si .i64 V.1, .si .i64 V.2]), (7, .cells 24 [.si .i64 O.1, .si .i64 O.2])], 8, []⟩ _
    refine Chk.mk ⟨by decide, by decide⟩ ?_
    refine Br.mk (fun h => ?_) (fun h => ?_)
    · have hmh : m ≤ hiP p 3 := of_decide_eq_true h
      have hmq : loP p 3 ≤ m ∧ m ≤ hiP p 3 := ⟨hm1, hmh⟩
      refine Chk.mk ⟨lims_i _ _, by decide, by decide⟩ (Chk.mk hlim (Chk.mk hlim (Chk.mk hlim ?_)))
      have hok' : gradeOk (atP p 3 m) LL = true := gradeOk_at hok (by decide) hmq
      have hb' : ptsB (atP p 3 m) := (gradeOk_b hok').1
      have hh : hasB (atP p 3 m) = (hasB p && inB m (vSpan (spanG (ptV 3) p)).1 (vSpan (spanG (ptV 3) p)).2) := hasB_at (by decide) hmq
      have f1 : errS varV (atP p 3 m) LL true = if hasB (atP p 3 m) = true then 0 else 10 := errS_ok hok'
      have f2 : errS offV (atP p 3 m) LL true = if hasB (atP p 3 m) = true then 0 else 10 := errS_ok hok'
      have f3 : errT (atP p 3 m) LL true = if hasB (atP p 3 m) = true then 0 else 10 := errT_ok hok'
      have r0 : resS (ptV 3) p LL true = vSpan (spanG (ptV 3) p) := resS_ok hok
      refine Br.mk (fun h2 => ?_) (fun _ => ?_)
      · have h2 : ((!decide (errS offV (atP p 3 m) ((List.range n).map L) true = errS varV (atP p 3 m) ((List.range n).map L) true) || !decide (errT (atP p 3 m) ((List.range n).map L) true = errS varV (atP p 3 m) ((List.range n).map L) true)) || !(decide (errS varV (atP p 3 m) ((List.range n).map L) true = 0) == (decide (E = 0) && inB m (resS (ptV 3) p LL true).1 (resS (ptV 3) p LL true).2))) = true := h2
        rw [hLL, f1, f2, f3, r0, hEb, hh] at h2
        clear hh hEb
        generalize hasB p = u at h2
        generalize inB m (vSpan (spanG (ptV 3) p)).1 (vSpan (spanG (ptV 3) p)).2 = v at h2
        cases u <;> cases v <;> cases h2
      refine Br.mk (fun h2 => ?_) (fun h2 => ?_)
      · have h2 : decide (errS varV (atP p 3 m) ((List.range n).map L) true = 0) = true := h2
        rw [hLL, f1] at h2
        have hh2 : hasB (atP p 3 m) = true := by
          cases hx : hasB (atP p 3 m) with
          | true => rfl
          | false => rw [hx] at h2; cases h2
        have g1 : resS varV (atP p 3 m) ((List.range n).map L) true = vSpan (spanG varV (atP p 3 m)) := by rw [hLL]; exact resS_ok hok'
        have g2 : resS offV (atP p 3 m) ((List.range n).map L) true = vSpan (spanG offV (atP p 3 m)) := by rw [hLL]; exact resS_ok hok'
        have g3 : resG (atP p 3 m) ((List.range n).map L) true = setV (lims3 LL) (atP p 3 m) := by rw [hLL]; exact resG_ok hok' hh2
        have hS32 : setV (lims3 LL) (atP p 3 m) < 32 := setV_lt hb' (by have := (gradeOk_b hok).2; omega)
        refine drawn_ok (g.ok _ _ _) fol [0,1,0,4,15,0,32,0,128,480,1023,0,2048,0,8192,30720,0,65536,0,262144,983040,2097151,0,0,12582912,4194303,37748735,134217727] [(25, 6), (26, 7)] 28 (by kernel_rfl) ?_
        have hA1 : InK .i64 (A : Int) := ⟨by show (-9223372036854775808 : Int) ≤ _; omega, by show _ ≤ (9223372036854775807 : Int); omega⟩
        have hA2 : InK .i64 ((resG (atP p 3 m) ((List.range n).map L) true : Nat) : Int) := by
          rw [g3]
          exact ⟨by show (-9223372036854775808 : Int) ≤ _; omega, by show _ ≤ (9223372036854775807 : Int); omega⟩
        refine Chk.mk ⟨by omega, by omega, hA1, hA2⟩ ?_
        refine Chk.mk (show InK .i64 (m + 1) from ⟨by show (-9223372036854775808 : Int) ≤ _; omega, by show _ ≤ (9223372036854775807 : Int); omega⟩) ?_
        refine ⟨⟨(m + 1, (min V.1 (resS varV (atP p 3 m) ((List.range n).map L) true).1, max V.2 (resS varV (atP p 3 m) ((List.range n).map L) true).2), (min O.1 (resS offV (atP p 3 m) ((List.range n).map L) true).1, max O.2 (resS offV (atP p 3 m) ((List.range n).map L) true).2), A ||| resG (atP p 3 m) ((List.range n).map L) true), ⟨by simp only; omega, by simp only; omega⟩, by rw [g1]; exact hull_step fb_var hb (by decide) hmq hV hh2, by rw [g2]; exact hull_step fb_off hb (by decide) hmq hO hh2, by rw [g3]; exact grS_step (by decide) hmq hA, by rw [g3]; exact Nat.or_lt_two_pow (n := 5) hA32 hS32⟩, (fun j => j), ?_, by show (hiP p 3 + 1 - (m + 1)).toNat < (hiP p 3 + 1 - m).toNat; omega⟩
        refine ⟨?_, ?_, rfl, rfl, rfl, rfl, trivial⟩ <;> repeat' (first | exact trivial | exact rfl | (intro i hi; exact ⟨rfl, rfl⟩) | refine And.intro ?_ ?_)
      · have h2 : decide (errS varV (atP p 3 m) ((List.range n).map L) true = 0) = false := h2
        rw [hLL, f1] at h2
        have hh2 : hasB (atP p 3 m) = false := by
          cases hx : hasB (atP p 3 m) with
          | false => rfl
          | true => rw [hx] at h2; cases h2
        refine Chk.mk (show InK .i64 (m + 1) from ⟨by show (-9223372036854775808 : Int) ≤ _; omega, by show _ ≤ (9223372036854775807 : Int); omega⟩) ?_
        refine ⟨⟨(m + 1, V, O, A), ⟨by simp only; omega, by simp only; omega⟩, hull_skip (by decide) hmq hV hh2, hull_skip (by decide) hmq hO hh2, grS_skip (by decide) hmq hA hh2, hA32⟩, (fun j => j), ?_, by show (hiP p 3 + 1 - (m + 1)).toNat < (hiP p 3 + 1 - m).toNat; omega⟩
        refine ⟨?_, ?_, rfl, rfl, rfl, rfl, trivial⟩ <;> repeat' (first | exact trivial | exact rfl | (intro i hi; exact ⟨rfl, rfl⟩) | refine And.intro ?_ ?_)
    · have hmh : hiP p 3 < m := by
        have h : decide (m ≤ hiP p 3) = false := h
        have := of_decide_eq_false h
        omega
      have r0 : resS (ptV 3) p LL true = vSpan (spanG (ptV 3) p) := resS_ok hok
      have r1 : resS varV p LL true = vSpan (spanG varV p) := resS_ok hok
      have r2 : resS offV p LL true = vSpan (spanG offV p) := resS_ok hok
      refine Br.mk (fun h2 => ?_) (fun h2 => ?_)
      · have h2 : (!decide (E = 0)) = true := h2
        have hhb : hasB p = false := by
          cases hx : hasB p with
          | false => rfl
          | true => rw [hEb, hx] at h2; cases h2
        have hs : ∀ F, spanG F p = none := fun F => by
          have := bSpan_iff (F := F) (g := p)
          rw [hhb] at this
          cases hx : spanG F p with
          | none => rfl
          | some z => rw [hx] at this; cases this
        have r3 : resG p LL true = 0 := by rw [resG, errT_ok hok, hhb]; rfl
        exact ⟨.inl rfl, end_noid (by
          show (((((decide (E = 10) && (decide ((resS (ptV 3) p LL true).1 = 0) && (decide ((resS (ptV 3) p LL true).2 = 0) && true))) && (decide ((resS varV p LL true).1 = 0) && (decide ((resS varV p LL true).2 = 0) && true))) && (decide ((resS offV p LL true).1 = 0) && (decide ((resS offV p LL true).2 = 0) && true))) && decide (((resG p LL true : Nat) : Int) = 0)) && true) = true
          rw [r0, r1, r2, r3, hs, hs, hs, hEb, hhb]
          rfl) rfl rfl (by repeat' (first | exact trivial | exact rfl | (intro i hi; exact ⟨rfl, rfl⟩) | refine And.intro ?_ ?_))⟩
      · have h2 : (!decide (E = 0)) = false := h2
        have hhb : hasB p = true := by
          cases hx : hasB p with
          | true => rfl
          | false => rw [hEb, hx] at h2; cases h2
        have r3 : resG p LL true = setV (lims3 LL) p := resG_ok hok hhb
        have v1 := hull_end (by decide) hmh hV hhb
        have v2 := hull_end (by decide) hmh hO hhb
        have v3 := grS_end (by decide) hmh hA
        exact ⟨.inl rfl, end_noid (by
          show ((((decide (V.1 = (resS varV p LL true).1) && (decide (V.2 = (resS varV p LL true).2) && true)) && (decide (O.1 = (resS offV p LL true).1) && (decide (O.2 = (resS offV p LL true).2) && true))) && decide (((A : Nat) : Int) = ((resG p LL true : Nat) : Int))) && true) = true
          rw [r1, r2, r3, v1, v2, v3]
          simp) rfl rfl (by repeat' (first | exact trivial | exact rfl | (intro i hi; exact ⟨rfl, rfl⟩) | refine And.intro ?_ ?_))⟩
  · refine Chk.mk ⟨by decide, by decide⟩ ?_
    refine loop_okR (g.ok _ _ _) 1 (fun x : {m : Int × (Int × Int) × (Int × Int) × Nat // (loP p 4 ≤ m.1 ∧ m.1 ≤ hiP p 4 + 1) ∧ Hull varV p 4 m.1 m.2.1 ∧ Hull offV p 4 m.1 m.2.2.1 ∧ GrS (lims3 LL) p 4 m.1 m.2.2.2 ∧ m.2.2.2 < 32} =>
      ⟨[(2, ⟨[], .sp 1 0⟩), (5, ⟨[], .si .i64 4⟩), (6, ⟨[], .sp 2 0⟩), (7, ⟨[], .si .i64 E⟩), (8, ⟨[], .sp 3 0⟩), (10, ⟨[], .sp 4 0⟩), (12, ⟨[], .si .i64 ((resG p LL true : Nat) : Int)⟩), (23, ⟨[], .sp 6 0⟩), (24, ⟨[], .sp 7 0⟩), (25, ⟨[], .si .i64 ((x.1.2.2.2 : Nat) : Int)⟩), (26, ⟨[], .si .i64 x.1.1⟩)], [],
        [(1, .cells 27 (grA 0 p)), (0, .ro 2 n fun i => liC (L i)), (2, .cells 24 [.si .i64 (resS (ptV 4) p LL true).1, .si .i64 (resS (ptV 4) p LL true).2]), (3, .cells 24 [.si .i64 (resS varV p LL true).1, .si .i64 (resS varV p LL true).2]), (4, .cells 24 [.si .i64 (resS offV p LL true).1, .si .i64 (resS offV p LL true).2]),
          (6, .cells 24 [.si .i64 x.1.2.1.1, .si .i64 x.1.2.1.2]), (7, .cells 24 [.si .i64 x.1.2.2.1.1, .si .i64 x.1.2.2.1.2])], 8, []⟩) (fun x => (hiP p 4 + 1 - x.1.1).toNat) hG ⟨(loP p 4, (99, -99), (99, -99), 0), ⟨Int.le_refl _, by have := gradeOk_span hok (q := 4) (by decide); simp only; omega⟩, hull_zero (by decide), hull_zero (by decide), grS_zero (by decide), by show 0 < 32; decide⟩ (fun j => j) ?_ ?_
    · refine ⟨?_, ?_, rfl, rfl, rfl, rfl, trivial⟩ <;> repeat' (first | exact trivial | exact rfl | (rw [← hLL]; rfl) | (rw [← e1, ← hLL]; rfl) | (intro i hi; exact ⟨rfl, rfl⟩) | refine And.intro ?_ ?_)
    rintro ⟨⟨m, V, O, A⟩, ⟨hm1, hm2⟩, hV, hO, hA, hA32⟩
    simp only at hm1 hm2 hV hO hA hA32
    have hsp := gradeOk_span hok (q := 4) (by decide)
    show exec _ _ ⟨[(2, ⟨[], .sp 1 0⟩), (5, ⟨[], .si .i64 4⟩), (6, ⟨[], .sp 2 0⟩), (7, ⟨[], .si .i64 E⟩), (8, ⟨[], .sp 3 0⟩), (10, ⟨[], .sp 4 0⟩), (12, ⟨[], .si .i64 ((resG p LL true : Nat) : Int)⟩), (23, ⟨[], .sp 6 0⟩), (24, ⟨[], .sp 7 0⟩), (25, ⟨[], .si .i64 (A : Int)⟩), (26, ⟨[], .si .i64 m⟩)], [],
        [(1, .cells 27 (grA 0 p)), (0, .ro 2 n fun i => liC (L i)), (2, .cells 24 [.si .i64 (resS (ptV 4) p LL true).1, .si .i64 (resS (ptV 4) p LL true).2]), (3, .cells 24 [.si .i64 (resS varV p LL true).1, .si .i64 (resS varV p LL true).2]), (4, .cells 24 [.si .i64 (resS offV p LL true).1, .si .i64 (resS offV p LL true).2]),
          (6, .cells 24 [.si .i64 V.1, .si .i64 V.2]), (7, .cells 24 [.si .i64 O.1, .si .i64 O.2])], 8, []⟩ _
    refine Chk.mk ⟨by decide, by decide⟩ ?_
    refine Br.mk (fun h => ?_) (fun h => ?_)
    · have hmh : m ≤ hiP p 4 := of_decide_eq_true h
      have hmq : loP p 4 ≤ m ∧ m ≤ hiP p 4 := ⟨hm1, hmh⟩
      refine Chk.mk ⟨lims_i _ _, by decide, by decide⟩ (Chk.mk hlim (Chk.mk hlim (Chk.mk hlim ?_)))
      have hok' : gradeOk (atP p 4 m) LL = true := gradeOk_at hok (by decide) hmq
      have hb' : ptsB (atP p 4 m) := (gradeOk_b hok').1
      have hh : hasB (atP p 4 m) = (hasB p && inB m (vSpan (spanG (ptV 4) p)).1 (vSpan (spanG (ptV 4) p)).2) := hasB_at (by decide) hmq
      have f1 : errS varV (atP p 4 m) LL true = if hasB (atP p 4 m) = true then 0 else 10 := errS_ok hok'
      have f2 : errS offV (atP p 4 m) LL true = if hasB (atP p 4 m) = true then 0 else 10 := errS_ok hok'
      have f3 : errT (atP p 4 m) LL true = if hasB (atP p 4 m) = true then 0 else 10 := errT_ok hok'
      have r0 : resS (ptV 4) p LL true = vSpan (spanG (ptV 4) p) := resS_ok hok
      refine Br.mk (fun h2 => ?_) (fun _ => ?_)
      · have h2 : ((!decide (errS offV (atP p 4 m) ((List.range n).map L) true = errS varV (atP p 4 m) ((List.range n).map L) true) || !decide (errT (atP p 4 m) ((List.range n).map L) true = errS varV (atP p 4 m) ((List.range n).map L) true)) || !(decide (errS varV (atP p 4 m) ((List.range n).map L) true = 0) == (decide (E = 0) && inB m (resS (ptV 4) p LL true).1 (resS (ptV 4) p LL true).2))) = true := h2
        rw [hLL, f1, f2, f3, r0, hEb, hh] at h2
        clear hh hEb
        generalize hasB p = u at h2
        generalize inB m (vSpan (spanG (ptV 4) p)).1 (vSpan (spanG (ptV 4) p)).2 = v at h2
        cases u <;> cases v <;> cases h2
      refine Br.mk (fun h2 => ?_) (fun h2 => ?_)
      · have h2 : decide (errS varV (atP p 4 m) ((List.range n).map L) true = 0) = true := h2
        rw [hLL, f1] at h2
        have hh2 : hasB (atP p 4 m) = true := by
          cases hx : hasB (atP p 4 m) with
          | true => rfl
          | false => rw [hx] at h2; cases h2
        have g1 : resS varV (atP p 4 m) ((List.range n).map L) true = vSpan (spanG varV (atP p 4 m)) := by rw [hLL]; exact resS_ok hok'
        have g2 : resS offV (atP p 4 m) ((List.range n).map L) true = vSpan (spanG offV (atP p 4 m)) := by rw [hLL]; exact resS_ok hok'
        have g3 : resG (atP p 4 m) ((List.range n).map L) true = setV (lims3 LL) (atP p 4 m) := by rw [hLL]; exact resG_ok hok' hh2
        have hS32 : setV (lims3 LL) (atP p 4 m) < 32 := setV_lt hb' (by have := (gradeOk_b hok).2; omega)
        refine drawn_ok (g.ok _ _ _) fol [0,1,0,4,15,0,32,0,128,480,1023,0,2048,0,8192,30720,0,65536,0,262144,983040,2097151,0,0,12582912,4194303,37748735,134217727] [(25, 6), (26, 7)] 28 (by kernel_rfl) ?_
        have hA1 : InK .i64 (A : Int) := ⟨by show (-9223372036854775808 : Int) ≤ _; omega, by show _ ≤ (9223372036854775807 : Int); omega⟩
        have hA2 : InK .i64 ((resG (atP p 4 m) ((List.range n).map L) true : Nat) : Int) := by
          rw [g3]
          exact ⟨by show (-9223372036854775808 : Int) ≤ _; omega, by show _ ≤ (9223372036854775807 : Int); omega⟩
        refine Chk.mk ⟨by omega, by omega, hA1, hA2⟩ ?_
        refine Chk.mk (show InK .i64 (m + 1) from ⟨by show (-9223372036854775808 : Int) ≤ _; omega, by show _ ≤ (9223372036854775807 : Int); omega⟩) ?_
        refine ⟨⟨(m + 1, (min V.1 (resS varV (atP p 4 m) ((List.range n).map L) true).1, max V.2 (resS varV (atP p 4 m) ((List.range n).map L) true).2), (min O.1 (resS offV (atP p 4 m) ((List.range n).map L) true).1, max O.2 (resS offV (atP p 4 m) ((List.range n).map L) true).2), A ||| resG (atP p 4 m) ((List.range n).map L) true), ⟨by simp only; omega, by simp only; omega⟩, by rw [g1]; exact hull_step fb_var hb (by decide) hmq hV hh2, by rw [g2]; exact hull_step fb_off hb (by decide) hmq hO hh2, by rw [g3]; exact grS_step (by decide) hmq hA, by rw [g3]; exact Nat.or_lt_two_pow (n := 5) hA32 hS32⟩, (fun j => j), ?_, by show (hiP p 4 + 1 - (m + 1)).toNat < (hiP p 4 + 1 - m).toNat; omega⟩
        refine ⟨?_, ?_, rfl, rfl, rfl, rfl, trivial⟩ <;> repeat' (first | exact trivial | exact rfl | (intro i hi; exact ⟨rfl, rfl⟩) | refine And.intro ?_ ?_)
      · have h2 : decide (errS varV (atP p 4 m) ((List.range n).map L) true = 0) = false := h2
        rw [hLL, f1] at h2
        have hh2 : hasB (atP p 4 m) = false := by
          cases hx : hasB (atP p 4 m) with
          | false => rfl
          | true => rw [hx] at h2; cases h2
        refine Chk.mk (show InK .i64 (m + 1) from ⟨by show (-9223372036854775808 : Int) ≤ _; omega, by show _ ≤ (9223372036854775807 : Int); omega⟩) ?_
        refine ⟨⟨(m + 1, V, O, A), ⟨by simp only; omega, by simp only; omega⟩, hull_skip (by decide) hmq hV hh2, hull_skip (by decide) hmq hO hh2, grS_skip (by decide) hmq hA hh2, hA32⟩, (fun j => j), ?_, by show (hiP p 4 + 1 - (m + 1)).toNat < (hiP p 4 + 1 - m).toNat; omega⟩
        refine ⟨?_, ?_, rfl, rfl, rfl, rfl, trivial⟩ <;> repeat' (first | exact trivial | exact rfl | (intro i hi; exact ⟨rfl, rfl⟩) | refine And.intro ?_ ?_)
    · have hmh : hiP p 4 < m := by
        have h : decide (m ≤ hiP p 4) = false := h
        have := of_decide_eq_false h
        omega
      have r0 : resS (ptV 4) p LL true = vSpan (spanG (ptV 4) p) := resS_ok hok
      have r1 : resS varV p LL true = vSpan (spanG varV p) := resS_ok hok
      have r2 : resS offV p LL true = vSpan (spanG offV p) := resS_ok hok
      refine Br.mk (fun h2 => ?_) (fun h2 => ?_)
      · have h2 : (!decide (E = 0)) = true := h2
        have hhb : hasB p = false := by
          cases hx : hasB p with
          | false => rfl
          | true => rw [hEb, hx] at h2; cases h2
        have hs : ∀ F, spanG F p = none := fun F => by
          have := bSpan_iff (F := F) (g := p)
          rw [hhb] at this
          cases hx : spanG F p with
          | none => rfl
          | some z => rw [hx] at this; cases this
        have r3 : resG p LL true = 0 := by rw [resG, errT_ok hok, hhb]; rfl
        exact ⟨.inl rfl, end_noid (by
          show (((((decide (E = 10) && (decide ((resS (ptV 4) p LL true).1 = 0) && (decide ((resS (ptV 4) p LL true).2 = 0) && true))) && (decide ((resS varV p LL true).1 = 0) && (decide ((resS varV p LL true).2 = 0) && true))) && (decide ((resS offV p LL true).1 = 0) && (decide ((resS offV p LL true).2 = 0) && true))) && decide (((resG p LL true : Nat) : Int) = 0)) && true) = true
          rw [r0, r1, r2, r3, hs, hs, hs, hEb, hhb]
          rfl) rfl rfl (by repeat' (first | exact trivial | exact rfl | (intro i hi; exact ⟨rfl, rfl⟩) | refine And.intro ?_ ?_))⟩
      · have h2 : (!decide (E = 0)) = false := h2
        have hhb : hasB p = true := by
          cases hx : hasB p with
          | true => rfl
          | false => rw [hEb, hx] at h2; cases h2
        have r3 : resG p LL true = setV (lims3 LL) p := resG_ok hok hhb
        have v1 := hull_end (by decide) hmh hV hhb
        have v2 := hull_end (by decide) hmh hO hhb
        have v3 := grS_end (by decide) hmh hA
        exact ⟨.inl rfl, end_noid (by
          show ((((decide (V.1 = (resS varV p LL true).1) && (decide (V.2 = (resS varV p LL true).2) && true)) && (decide (O.1 = (resS offV p LL true).1) && (decide (O.2 = (resS offV p LL true).2) && true))) && decide (((A : Nat) : Int) = ((resG p LL true : Nat) : Int))) && true) = true
          rw [r1, r2, r3, v1, v2, v3]
          simp) rfl rfl (by repeat' (first | exact trivial | exact rfl | (intro i hi; exact ⟨rfl, rfl⟩) | refine And.intro ?_ ?_))⟩
theorem c7_mono : CtMono c7 := by
  intro fr args H H' out hH h
  unfold c7 at h ⊢
  split at h
  · exact gradeK_mono hH h
  · cases h
end Go.X.Gr
end
