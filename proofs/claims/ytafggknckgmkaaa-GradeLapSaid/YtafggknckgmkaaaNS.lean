/- The walk of GradeLap. -/
import Derived.Test.YtafggknckgmkaaaNQ
import Derived.Test.YtafggknckgmkaaaNR
import Derived.Test.YtafggknckgmkaaaNE

section
set_option linter.unusedVariables false
set_option linter.unusedSimpArgs false
set_option linter.unusedSectionVars false
/- Grade: the walk of GradeLap. -/
set_option linter.unusedVariables false
set_option linter.unusedSimpArgs false
set_option maxRecDepth 10000
set_option maxHeartbeats 4000000
namespace Go.X.Gr
open Go Go.Proofs Go.X

def c9 : Ct := fun fr args H => match args with
  | [.agg l, .si .u8 x, .si .u8 y, .sl id] => gradeK H l fun i1 g n get => (match sliceOf 1 H id with
    | some (m, og) => some ⟨some (Lims n get ∧ (0 ≤ x ∧ x < 256) ∧ (0 ≤ y ∧ y < 256) ∧ m ≤ 9223372036854775807 ∧ U16s m og), none, .sb true, []⟩
    | none => none)
  | _ => none
theorem c9_mono : CtMono c9 := by
  intro fr args H H' out hH h
  unfold c9 at h ⊢
  split at h
  · obtain ⟨i1, p, n, get, rfl, e1, h⟩ := gradeK_some h
    split at h
    · rename_i m og e
      unfold gradeK
      simp only [grA, sliceOf_mono hH e1, sliceOf_mono hH e]
      exact h
    · cases h
  · cases h
/-- A point that is known, from one on. -/
def kn (p j : Nat) (b l : Int) : Int := if j < p then b else l
theorem k9 {l : List (Nat × Ct)} (g0 : Good P T l) : COk P 9 c9 := by
  have g := g14 (g39 (g40 (g15 (g17 (g19 (g25 (g32 (g33 (g35 (g41 good0))))))))))
  refine cok (C := tabC _) g.ok Try.func9 (c := code Try.f9) rfl fun fr args H out h hp => ?_
  unfold c9 at h
  split at h
  case h_2 => cases h
  rename_i l x y id
  obtain ⟨i1, p, n, get, rfl, e1, h⟩ := gradeK_some h
  split at h
  case h_2 => cases h
  rename_i m og e2
  cases h
  obtain ⟨hs, ⟨hx0, hx1⟩, ⟨hy0, hy1⟩, hm, hu⟩ : Lims n get ∧ (0 ≤ x ∧ x < 256) ∧ (0 ≤ y ∧ y < 256) ∧ m ≤ 9223372036854775807 ∧ U16s m og := hp
  have hh : Hand H [(id, .ro 1 m fun i => [.si .u16 (u16At og i)]), (i1, .ro 2 n fun i => liC (liAt get i))] := hand_mk
    ⟨sliceOf_piece e2 fun i hi => by rw [(hu i hi).1]; rfl, sliceOf_piece e1 fun i hi => by rw [hs i hi]; rfl, trivial⟩
    (by repeat' (first | exact trivial | (intro i hi; exact trivial) | (intro i hi; exact ⟨trivial, trivial⟩) | (intro i hi; exact ⟨trivial, trivial, trivial⟩) | refine And.intro ?_ ?_ | exact (by decide : (0 : Nat) < 2) | exact (by decide : (1 : Nat) < 2))) rfl
  refine ⟨_, [.agg (grA 1 p), .si .u8 x, .si .u8 y, .sl 0], [(0, .ro 1 m fun i => [.si .u16 (u16At og i)]), (1, .ro 2 n fun i => liC (liAt get i))], 2, [], rfl, rfl, Nat.le_of_ble_eq_true rfl, hh, rfl, rfl, fun G hG => ?_⟩
  have hv : ∀ j, j < m → 0 ≤ u16At og j ∧ u16At og j < 65536 := fun j hj => (hu j hj).2
  generalize liAt get = L
  generalize u16At og = v at hv ⊢
  refine Chk.mk (lims_i _ _) ?_
  refine Chk.mk (fun h => ⟨lims_i _ _, by have h : decide ((n : Int) > 40) = false := h; have := of_decide_eq_false h; omega⟩) ?_
  refine Br.mk (fun h => ?_) (fun h => ?_)
  · exact ⟨.inl rfl, end_noid rfl rfl rfl (by repeat' (first | exact trivial | exact rfl | (intro i hi; exact ⟨rfl, rfl⟩) | refine And.intro ?_ ?_))⟩
  have h : (decide ((n : Int) > 40) || !gradeOk p ((List.range n).map L)) = false := h
  obtain ⟨hn40, hok⟩ : n ≤ 40 ∧ gradeOk p ((List.range n).map L) = true := by
    rw [Bool.or_eq_false_iff, decide_eq_false_iff_not, Bool.not_eq_false'] at h
    exact ⟨by omega, h.2⟩
  clear h
  have hlim : Lims n (fun i => liC (L i)) ∧ n ≤ 1000000 := ⟨lims_i _ _, by omega⟩
  obtain ⟨LL, hLL⟩ : ∃ LL, (List.range n).map L = LL := ⟨_, rfl⟩
  rw [hLL] at hok
  have hlen : LL.length = n := by rw [← hLL]; simp
  obtain ⟨hb, hl1, hl2⟩ := gradeOk_b hok
  refine Chk.mk (show InK .i64 x from ⟨by show (-9223372036854775808 : Int) ≤ _; omega, by show _ ≤ (9223372036854775807 : Int); omega⟩) ?_
  refine Chk.mk (show (n : Int) ≠ 0 by omega) ?_
  obtain ⟨q, hq⟩ : ∃ q : Nat, x.tmod (n : Int) = (q : Int) := ⟨(x.tmod n).toNat, (Int.toNat_of_nonneg (Int.tmod_nonneg _ hx0)).symm⟩
  have hqn : q < n := by
    have := Int.tmod_lt_of_pos x (show (0 : Int) < n by omega)
    omega
  rw [hq]
  have hqL : q < LL.length := by omega
  have hLq : LL.getD q (0, 0) = L q := by
    rw [← hLL]
    simp [List.getD, hqn]
  have hlq := gradeOk_pos hok (LL.getD q (0, 0)) (by rw [List.getD_eq_getElem?_getD, List.getElem?_eq_getElem hqL]; exact List.getElem_mem hqL)
  rw [hLq] at hlq
  refine Chk.mk (show (0 : Int) ≤ (q : Int) ∧ (q : Int) < (n : Int) by omega) ?_
  refine Chk.mk hlim (Chk.mk hlim (Chk.mk hlim ?_))
  have hT : errT p LL true = if hasB p = true then 0 else 10 := errT_ok hok
  have e1 : errS varV p LL true = errT p LL true := errS_all
  have e2 : errS offV p LL true = errT p LL true := errS_all
  cases hh : hasB p with
  | false =>
    rw [hh] at hT
    have hT : errT p LL true = 10 := hT
    have hR : resL p LL q = (0, 10) := resL_no hok hh hqL
    refine Br.mk (fun _ => ?_) (fun h2 => ?_)
    · exact ⟨.inl rfl, end_noid (by
        show ((((decide (errS varV p ((List.range n).map L) true = 10) && decide (errS offV p ((List.range n).map L) true = errS varV p ((List.range n).map L) true)) && decide ((resL p ((List.range n).map L) q).2 = errS varV p ((List.range n).map L) true)) && decide ((resL p ((List.range n).map L) q).1 = 0)) && true) = true
        rw [hLL, e1, e2, hT, hR]
        rfl) rfl rfl (by repeat' (first | exact trivial | exact rfl | (intro i hi; exact ⟨rfl, rfl⟩) | refine And.intro ?_ ?_))⟩
    · have h2 : (!decide (errS varV p ((List.range n).map L) true = 0)) = false := h2
      rw [hLL, e1, hT] at h2
      cases h2
  | true =>
    rw [hh] at hT
    have hT : errT p LL true = 0 := hT
    rw [hT] at e1 e2
    refine Br.mk (fun h2 => ?_) (fun _ => ?_)
    · have h2 : (!decide (errS varV p ((List.range n).map L) true = 0)) = true := h2
      rw [hLL, e1] at h2
      cases h2
    have hR : resL p LL q = (match lapV p (L q) with
      | some j => (20 - (j : Int), 0)
      | none => (0, 4)) := by
      rw [resL_ok hok hh hqL, hLq]
      cases lapV p (L q) <;> rfl
    obtain ⟨R, hRd⟩ : ∃ R, resL p LL q = R := ⟨_, rfl⟩
    rw [hRd] at hR
    have hRc : (∃ j, lapV p (L q) = some j ∧ R = (20 - (j : Int), 0)) ∨ (lapV p (L q) = none ∧ R = (0, 4)) := by
      cases hl : lapV p (L q) with
      | some j => rw [hl] at hR; exact .inl ⟨j, rfl, hR⟩
      | none => rw [hl] at hR; exact .inr ⟨rfl, hR⟩
    clear hR
    refine Br.mk (fun h2 => ?_) (fun _ => ?_)
    · have h2 : ((!decide (errS offV p ((List.range n).map L) true = 0) || (!decide ((resL p ((List.range n).map L) q).2 = 0) && (!decide ((resL p ((List.range n).map L) q).2 = 4) || !decide ((resL p ((List.range n).map L) q).1 = 0)))) || (decide ((resL p ((List.range n).map L) q).2 = 0) && (decide ((resL p ((List.range n).map L) q).1 < -20) || decide ((resL p ((List.range n).map L) q).1 > 20)))) = true := h2
      rw [hLL, e2, hRd] at h2
      rcases hRc with ⟨j, hj, rfl⟩ | ⟨_, rfl⟩
      · have := (lapV_is.1 hj).1
        have a1 : ¬ (20 - (j : Int) < -20) := by omega
        have a2 : ¬ (20 - (j : Int) > 20) := by omega
        simp [a1, a2] at h2
      · cases h2
    have rV : resS varV p LL true = vSpan (spanG varV p) := resS_ok hok
    have rO : resS offV p LL true = vSpan (spanG offV p) := resS_ok hok
    have htop := lap_top hb hh (l := L q)
    refine Br.mk (fun h2 => ?_) (fun _ => ?_)
    · have h2 : (!((decide ((resL p ((List.range n).map L) q).2 = 0) && decide ((resL p ((List.range n).map L) q).1 = 20)) == (decide ((resS varV p ((List.range n).map L) true).2 ≤ (L (q : Int).toNat).2) && decide ((resS offV p ((List.range n).map L) true).2 ≤ (L (q : Int).toNat).1)))) = true := h2
      rw [hLL, hRd, rV, rO, Int.toNat_natCast, Bool.not_eq_true', beq_eq_false_iff_ne] at h2
      refine absurd ?_ h2
      rw [Bool.eq_iff_iff, Bool.and_eq_true, Bool.and_eq_true, decide_eq_true_eq, decide_eq_true_eq, decide_eq_true_eq, decide_eq_true_eq, ← htop]
      rcases hRc with ⟨j, hj, rfl⟩ | ⟨hj, rfl⟩
      · obtain ⟨h3, h4, h5⟩ := lapV_is.1 hj
        constructor
        · rintro ⟨_, h6⟩
          have h6 : 20 - (j : Int) = 20 := h6
          obtain rfl : j = 0 := by omega
          exact h4
        · intro h6
          refine ⟨rfl, ?_⟩
          rcases Nat.eq_zero_or_pos j with rfl | hjp
          · rfl
          · have := h5 0 hjp
            rw [show (20 : Int) - ((0 : Nat) : Int) = 20 from rfl, h6] at this
            cases this
      · constructor
        · rintro ⟨h6, _⟩
          cases h6
        · intro h6
          have := lapV_no.1 hj 0 (by decide)
          rw [show (20 : Int) - ((0 : Nat) : Int) = 20 from rfl, h6] at this
          cases this
    refine loop_okR (g.ok _ _ _) 2 (fun z : {z : Nat × Int // z.1 ≤ 5 ∧ (z.2 = 0 ∨ ∃ u : Int, (0 ≤ u ∧ u < 5) ∧ z.2 = (vSpan (spanG (ptV u) p)).1)} => ⟨[(2, ⟨[], .si .u8 y⟩), (3, ⟨[], .sl 0⟩), (4, ⟨[], .sp 2 0⟩), (9, ⟨[], .si .i64 q⟩), (10, ⟨[], .sp 3 0⟩), (11, ⟨[], .si .i64 R.1⟩), (12, ⟨[], .si .i64 R.2⟩), (17, ⟨[], .si .i64 z.1.2⟩), (140, ⟨[], .si .i64 z.1.1⟩)], [],
        [(0, .ro 1 m fun i => [.si .u16 (v i)]), (1, .ro 2 n fun i => liC (L i)), (2, .cells 27 (grA 1 p)), (3, .cells 51 (liC (L q)))], 8, []⟩) (fun z => 5 - z.1.1) hG ⟨(0, 0), Nat.zero_le _, .inl rfl⟩ (fun j => j) ?_ ?_
    · refine ⟨?_, ?_, rfl, rfl, rfl, rfl, trivial⟩ <;> repeat' (first | exact trivial | exact rfl | (rw [← hRd, ← hLL]; rfl) | (intro i hi; exact ⟨rfl, rfl⟩) | refine And.intro ?_ ?_)
    rintro ⟨⟨i, low⟩, hi5, hlow⟩
    simp only at hi5 hlow
    have hlowb : -20 ≤ low ∧ low ≤ 20 := by
      rcases hlow with rfl | ⟨u, hu, rfl⟩
      · decide
      · obtain ⟨b, hb', e⟩ := (vSpan_of (F := ptV u) hh).lo
        have h3 := okB_pt hu hb'
        have h4 := gradeOk_span hok hu
        omega
    refine Br.mk (fun h => ?_) (fun h => ?_)
    · have hi4 : i < 5 := by
        have : (i : Int) < 5 := of_decide_eq_true h
        omega
      have hiq : (0 : Int) ≤ (i : Int) ∧ (i : Int) < 5 := by omega
      refine Chk.mk hlim ?_
      have e3 : errS (ptV i) p LL (inB i 0 4) = 0 := by rw [errS_all, inB_true (by omega)]; exact hT
      have r3 : resS (ptV i) p LL (inB i 0 4) = vSpan (spanG (ptV i) p) := by rw [inB_true (by omega)]; exact resS_ok hok
      refine Br.mk (fun h2 => ?_) (fun _ => ?_)
      · have h2 : (!decide (errS (ptV i) p ((List.range n).map L) (inB i 0 4) = 0)) = true := h2
        rw [hLL, e3] at h2
        cases h2
      refine Chk.mk (show InK .i64 ((i : Int) + 1) from ⟨by show (-9223372036854775808 : Int) ≤ _; omega, by show _ ≤ (9223372036854775807 : Int); omega⟩) ?_
      refine ⟨⟨(i + 1, min low (resS (ptV i) p ((List.range n).map L) (inB i 0 4)).1), hi4, ?_⟩, (fun j => j), ?_, by show 5 - (i + 1) < 5 - i; omega⟩
      · rw [hLL, r3]
        simp only
        rcases Int.le_total low (vSpan (spanG (ptV i) p)).1 with hle | hle
        · rw [Int.min_eq_left hle]; exact hlow
        · rw [Int.min_eq_right hle]; exact .inr ⟨i, hiq, rfl⟩
      · refine ⟨?_, ?_, rfl, rfl, rfl, rfl, trivial⟩ <;> repeat' (first | exact trivial | exact rfl | (intro i hi; exact ⟨rfl, rfl⟩) | refine And.intro ?_ ?_)
    clear h
    refine Chk.mk (fun _ => show InK .i64 (0 - low) from ⟨by show (-9223372036854775808 : Int) ≤ _; omega, by show _ ≤ (9223372036854775807 : Int); omega⟩) ?_
    refine Br.mk (fun h2 => ?_) (fun _ => ?_)
    · have h2 : (decide (R.2 = 0) && decide (0 - low > (L q).1)) = true := h2
      rw [Bool.and_eq_true, decide_eq_true_eq, decide_eq_true_eq] at h2
      rcases hRc with ⟨j, hj, rfl⟩ | ⟨_, rfl⟩
      · obtain ⟨h3, h4, h5⟩ := lapV_is.1 hj
        rcases hlow with rfl | ⟨u, hu, rfl⟩
        · omega
        · have := lap_low hh h4 hu
          omega
      · exact absurd h2.1 (by decide)
    refine Chk.mk (fun i hi => ⟨rfl, hv i hi⟩) ?_

    refine fb_weaken (st' := ⟨[(2, ⟨[], .si .u8 y⟩), (4, ⟨[], .sp 2 0⟩), (9, ⟨[], .si .i64 q⟩), (10, ⟨[], .sp 3 0⟩), (11, ⟨[], .si .i64 R.1⟩), (12, ⟨[], .si .i64 R.2⟩), (168, ⟨[], .fn (.func 89) [] [.sp 38 0, .sp 39 0]⟩)], [], [(38, .cells 3 [.si .i64 0]), (39, .cells 42 [.sl 0]), (0, .ro 1 m fun i => [.si .u16 (v i)]), (1, .ro 2 n fun i => liC (L i)), (2, .cells 27 (grA 1 p)), (3, .cells 51 (liC (L q)))], 40, []⟩) 2 (fun j => if j = 38 then 8 else if j = 39 then 9 else j) hG ?_ ?_
    · refine ⟨?_, ?_, rfl, rfl, rfl, rfl, trivial⟩ <;> repeat' (first | exact trivial | exact rfl | (intro i hi; exact ⟨rfl, rfl⟩) | refine And.intro ?_ ?_)
    refine fb_call (g.ok _ _ _) cont_std rfl rfl rfl rfl ⟨b34, made_ok hm hv ⟨rfl, rfl, rfl, trivial⟩ (fun M hM => ?_)⟩
    have hMb := hM.b
    have hMo := ok5_of (gradeOk_b hM.ok).1 hMb
    refine loop_okR (g.ok _ _ _) 2 (fun z : {z : Nat // z ≤ 5} => ⟨[(2, ⟨[], .si .u8 y⟩), (4, ⟨[], .sp 2 0⟩), (9, ⟨[], .si .i64 q⟩), (10, ⟨[], .sp 3 0⟩), (11, ⟨[], .si .i64 R.1⟩), (12, ⟨[], .si .i64 R.2⟩), (22, ⟨[], .sp 40 0⟩), (23, ⟨[], .sp 41 0⟩), (175, ⟨[], .agg (c5 M.b.1 M.b.2.1 M.b.2.2.1 M.b.2.2.2.1 M.b.2.2.2.2)⟩), (176, ⟨[], .si .i64 z.1⟩)], [], [(1, .ro 2 n fun i => liC (L i)), (2, .cells 27 (grA 1 p)), (3, .cells 51 (liC (L q))), (40, .cells 27 [.sl 1, .si .i64 (kn z.1 0 M.b.1 M.g.l0), .si .i64 (kn z.1 0 M.b.1 M.g.h0), .si .i64 (kn z.1 1 M.b.2.1 M.g.l1), .si .i64 (kn z.1 1 M.b.2.1 M.g.h1), .si .i64 (kn z.1 2 M.b.2.2.1 M.g.l2), .si .i64 (kn z.1 2 M.b.2.2.1 M.g.h2), .si .i64 (kn z.1 3 M.b.2.2.2.1 M.g.l3), .si .i64 (kn z.1 3 M.b.2.2.2.1 M.g.h3), .si .i64 (kn z.1 4 M.b.2.2.2.2 M.g.l4), .si .i64 (kn z.1 4 M.b.2.2.2.2 M.g.h4), .si .i64 M.g.st]), (41, .cells 45 (c5 M.b.1 M.b.2.1 M.b.2.2.1 M.b.2.2.2.1 M.b.2.2.2.2))], 42, []⟩) (fun z => 5 - z.1) hG ⟨0, Nat.zero_le _⟩ (fun j => if j = 40 then 60 else if j = 41 then 61 else j) ?_ ?_
    · refine ⟨?_, ?_, rfl, rfl, rfl, rfl, trivial⟩ <;> repeat' (first | exact trivial | exact rfl | (intro i hi; exact ⟨rfl, rfl⟩) | refine And.intro ?_ ?_)
    rintro ⟨i, hi5⟩
    rcases (show i = 0 ∨ i = 1 ∨ i = 2 ∨ i = 3 ∨ i = 4 ∨ i = 5 by omega) with rfl | rfl | rfl | rfl | rfl | rfl
    · refine Br.mk (fun _ => ?_) (fun h => by cases h)
      refine Chk.mk (bnd 0 5 rfl) ?_
      refine Chk.mk (bnd 0 5 rfl) ?_
      refine Chk.mk (ink1 0 rfl) ?_
      refine ⟨⟨1, by decide⟩, (fun j => j), ?_, by show 5 - 1 < 5 - 0; omega⟩
      refine ⟨?_, ?_, rfl, rfl, rfl, rfl, trivial⟩ <;> repeat' (first | exact trivial | exact rfl | (intro i hi; exact ⟨rfl, rfl⟩) | refine And.intro ?_ ?_)
    · refine Br.mk (fun _ => ?_) (fun h => by cases h)
      refine Chk.mk (bnd 1 5 rfl) ?_
      refine Chk.mk (bnd 1 5 rfl) ?_
      refine Chk.mk (ink1 1 rfl) ?_
      refine ⟨⟨2, by decide⟩, (fun j => j), ?_, by show 5 - 2 < 5 - 1; omega⟩
      refine ⟨?_, ?_, rfl, rfl, rfl, rfl, trivial⟩ <;> repeat' (first | exact trivial | exact rfl | (intro i hi; exact ⟨rfl, rfl⟩) | refine And.intro ?_ ?_)
    · refine Br.mk (fun _ => ?_) (fun h => by cases h)
      refine Chk.mk (bnd 2 5 rfl) ?_
      refine Chk.mk (bnd 2 5 rfl) ?_
      refine Chk.mk (ink1 2 rfl) ?_
      refine ⟨⟨3, by decide⟩, (fun j => j), ?_, by show 5 - 3 < 5 - 2; omega⟩
      refine ⟨?_, ?_, rfl, rfl, rfl, rfl, trivial⟩ <;> repeat' (first | exact trivial | exact rfl | (intro i hi; exact ⟨rfl, rfl⟩) | refine And.intro ?_ ?_)
    · refine Br.mk (fun _ => ?_) (fun h => by cases h)
      refine Chk.mk (bnd 3 5 rfl) ?_
      refine Chk.mk (bnd 3 5 rfl) ?_
      refine Chk.mk (ink1 3 rfl) ?_
      refine ⟨⟨4, by decide⟩, (fun j => j), ?_, by show 5 - 4 < 5 - 3; omega⟩
      refine ⟨?_, ?_, rfl, rfl, rfl, rfl, trivial⟩ <;> repeat' (first | exact trivial | exact rfl | (intro i hi; exact ⟨rfl, rfl⟩) | refine And.intro ?_ ?_)
    · refine Br.mk (fun _ => ?_) (fun h => by cases h)
      refine Chk.mk (bnd 4 5 rfl) ?_
      refine Chk.mk (bnd 4 5 rfl) ?_
      refine Chk.mk (ink1 4 rfl) ?_
      refine ⟨⟨5, by decide⟩, (fun j => j), ?_, by show 5 - 5 < 5 - 4; omega⟩
      refine ⟨?_, ?_, rfl, rfl, rfl, rfl, trivial⟩ <;> repeat' (first | exact trivial | exact rfl | (intro i hi; exact ⟨rfl, rfl⟩) | refine And.intro ?_ ?_)
    refine Br.mk (fun h => by cases h) (fun _ => ?_)
    refine Chk.mk hlim ?_
    have hK : gradeOk (knw M.b M.g.st) LL = true := knw_grade hM.ok ⟨hl1, hl2, by simp only [gradeOk, Bool.and_eq_true] at hok; exact hok.2.1⟩ hMb
    have hKh : hasB (knw M.b M.g.st) = true := hasB_iff.2 ⟨M.b, (knw_ok hMb _).2 rfl⟩
    obtain ⟨RX, hRX⟩ : ∃ RX, resL (knw M.b M.g.st) LL q = RX := ⟨_, rfl⟩
    have hRXl : RX = (match lapV (knw M.b M.g.st) (L q) with
      | some j => (20 - (j : Int), 0)
      | none => (0, 4)) := by
      rw [← hRX, resL_ok hK hKh hqL, hLq]
      cases lapV (knw M.b M.g.st) (L q) <;> rfl
    refine loop_okR (g.ok _ _ _) 2 (fun z : {z : Nat × Bool × Int // (z.2.1 = false ∧ z.1 ≤ 41 ∧ z.2.2 = 0 ∧ ∀ i' : Nat, i' < z.1 → lapB (knw M.b M.g.st) (20 - (i' : Int)) (L q) = false) ∨ (z.2.1 = true ∧ z.1 ≤ 41 ∧ ∃ i' : Nat, z.1 = i' + 1 ∧ lapV (knw M.b M.g.st) (L q) = some i' ∧ z.2.2 = 20 - (i' : Int))} => ⟨[(2, ⟨[], .si .u8 y⟩), (4, ⟨[], .sp 2 0⟩), (9, ⟨[], .si .i64 q⟩), (10, ⟨[], .sp 3 0⟩), (11, ⟨[], .si .i64 R.1⟩), (12, ⟨[], .si .i64 R.2⟩), (23, ⟨[], .sp 41 0⟩), (26, ⟨[], .si .i64 RX.1⟩), (27, ⟨[], .si .i64 RX.2⟩), (28, ⟨[], .si .i64 z.1.2.2⟩), (29, ⟨[], .sb z.1.2.1⟩), (30, ⟨[], .si .i64 (20 - (z.1.1 : Int))⟩)], [], [(1, .ro 2 n fun i => liC (L i)), (2, .cells 27 (grA 1 p)), (3, .cells 51 (liC (L q))), (41, .cells 45 (c5 M.b.1 M.b.2.1 M.b.2.2.1 M.b.2.2.2.1 M.b.2.2.2.2))], 42, []⟩) (fun z => 42 - z.1.1) hG ⟨(0, false, 0), .inl ⟨rfl, Nat.zero_le _, rfl, fun i' hi' => absurd hi' (Nat.not_lt_zero _)⟩⟩ (fun j => j) ?_ ?_
    · refine ⟨?_, ?_, rfl, rfl, rfl, rfl, trivial⟩ <;> repeat' (first | exact trivial | exact rfl | (rw [← hRX, ← hLL]; rfl) | (intro i hi; exact ⟨rfl, rfl⟩) | refine And.intro ?_ ?_)
    rintro ⟨⟨i, f, w⟩, hz⟩
    simp only at hz
    have hi41 : i ≤ 41 := by rcases hz with ⟨_, h, _⟩ | ⟨_, h, _⟩ <;> exact h
    show exec _ _ ⟨[(2, ⟨[], .si .u8 y⟩), (4, ⟨[], .sp 2 0⟩), (9, ⟨[], .si .i64 q⟩), (10, ⟨[], .sp 3 0⟩), (11, ⟨[], .si .i64 R.1⟩), (12, ⟨[], .si .i64 R.2⟩), (23, ⟨[], .sp 41 0⟩), (26, ⟨[], .si .i64 RX.1⟩), (27, ⟨[], .si .i64 RX.2⟩), (28, ⟨[], .si .i64 w⟩), (29, ⟨[], .sb f⟩), (30, ⟨[], .si .i64 (20 - (i : Int))⟩)], [], [(1, .ro 2 n fun i => liC (L i)), (2, .cells 27 (grA 1 p)), (3, .cells 51 (liC (L q))), (41, .cells 45 (c5 M.b.1 M.b.2.1 M.b.2.2.1 M.b.2.2.2.1 M.b.2.2.2.2))], 42, []⟩ _
    refine Br.mk (fun h => ?_) (fun h => ?_)
    · have h : (decide (20 - (i : Int) ≥ -20) && !f) = true := h
      rw [Bool.and_eq_true, decide_eq_true_eq, Bool.not_eq_true'] at h
      obtain ⟨hi40, rfl⟩ := h
      rcases hz with ⟨_, _, rfl, hno⟩ | ⟨h, _⟩
      case inr => cases h
      refine Chk.mk (show ok5 M.b.1 M.b.2.1 M.b.2.2.1 M.b.2.2.2.1 M.b.2.2.2.2 ∧ okI (20 - (i : Int)) from ⟨hMo, by unfold okI; omega⟩) ?_
      have hlk := knw_lap hMb (v := 20 - (i : Int)) (l := L q)
      refine Br.mk (fun h2 => ?_) (fun h2 => ?_)
      · have h2 : (decide ((lkL (20 - (i : Int)) M.b.1 M.b.2.1 M.b.2.2.1 M.b.2.2.2.1 M.b.2.2.2.2).1 ≤ (L q).1) && decide ((lkL (20 - (i : Int)) M.b.1 M.b.2.1 M.b.2.2.1 M.b.2.2.2.1 M.b.2.2.2.2).2 ≤ (L q).2)) = true := h2
        have hlk := hlk.trans h2
        refine Chk.mk (show InK .i64 (20 - (i : Int) - 1) from ⟨by show (-9223372036854775808 : Int) ≤ _; omega, by show _ ≤ (9223372036854775807 : Int); omega⟩) ?_
        refine ⟨⟨(i + 1, true, 20 - (i : Int)), .inr ⟨rfl, by simp only; omega, i, rfl, lapV_is.2 ⟨by omega, hlk, hno⟩, rfl⟩⟩, (fun j => j), ?_, by show 42 - (i + 1) < 42 - i; omega⟩
        refine ⟨?_, ?_, rfl, rfl, rfl, rfl, trivial⟩ <;> repeat' (first | exact trivial | exact rfl | (show (20 : Int) - (i : Int) - 1 = 20 - ((i + 1 : Nat) : Int); omega) | (intro i hi; exact ⟨rfl, rfl⟩) | refine And.intro ?_ ?_)
      · have h2 : (decide ((lkL (20 - (i : Int)) M.b.1 M.b.2.1 M.b.2.2.1 M.b.2.2.2.1 M.b.2.2.2.2).1 ≤ (L q).1) && decide ((lkL (20 - (i : Int)) M.b.1 M.b.2.1 M.b.2.2.1 M.b.2.2.2.1 M.b.2.2.2.2).2 ≤ (L q).2)) = false := h2
        have hlk := hlk.trans h2
        refine Chk.mk (show InK .i64 (20 - (i : Int) - 1) from ⟨by show (-9223372036854775808 : Int) ≤ _; omega, by show _ ≤ (9223372036854775807 : Int); omega⟩) ?_
        refine ⟨⟨(i + 1, false, 0), .inl ⟨rfl, by simp only; omega, rfl, fun i' hi' => ?_⟩⟩, (fun j => j), ?_, by show 42 - (i + 1) < 42 - i; omega⟩
        · rcases (show i' < i ∨ i' = i by simp only at hi'; omega) with h3 | rfl
          · exact hno i' h3
          · exact hlk
        refine ⟨?_, ?_, rfl, rfl, rfl, rfl, trivial⟩ <;> repeat' (first | exact trivial | exact rfl | (show (20 : Int) - (i : Int) - 1 = 20 - ((i + 1 : Nat) : Int); omega) | (intro i hi; exact ⟨rfl, rfl⟩) | refine And.intro ?_ ?_)
    have h : (decide (20 - (i : Int) ≥ -20) && !f) = false := h
    have hfin : (f = true ∧ RX = (w, 0)) ∨ (f = false ∧ RX = (w, 4)) := by
      rcases hz with ⟨rfl, _, rfl, hno⟩ | ⟨rfl, _, i', _, hl, rfl⟩
      · rw [Bool.not_false, Bool.and_true, decide_eq_false_iff_not] at h
        have : lapV (knw M.b M.g.st) (L q) = none := lapV_no.2 fun i' hi' => hno i' (by omega)
        rw [this] at hRXl
        exact .inr ⟨rfl, hRXl⟩
      · rw [hl] at hRXl
        exact .inl ⟨rfl, hRXl⟩
    refine Br.mk (fun h2 => ?_) (fun _ => ?_)
    · have h2 : ((!(decide (RX.2 = 0) == f) || !decide (RX.1 = w)) || (!decide (RX.2 = 0) && !decide (RX.2 = 4))) = true := h2
      rcases hfin with ⟨rfl, rfl⟩ | ⟨rfl, rfl⟩ <;> simp at h2
    refine Br.mk (fun h2 => ?_) (fun _ => ?_)
    · have h2 : (decide (R.2 = 0) && decide (R.1 < 20)) = true := h2
      rw [Bool.and_eq_true, decide_eq_true_eq, decide_eq_true_eq] at h2
      rcases hRc with ⟨j, hj, rfl⟩ | ⟨_, rfl⟩
      case inr => exact absurd h2.1 (by decide)
      obtain ⟨j41, _, hjn⟩ := lapV_is.1 hj
      have hj0 : 20 - (j : Int) < 20 := h2.2
      clear h2
      have ht := Int.tmod_lt_of_pos y (show (0 : Int) < 20 - (20 - (j : Int)) by omega)
      have ht0 := Int.tmod_nonneg (20 - (20 - (j : Int))) hy0
      refine Chk.mk (show InK .i64 (20 - (j : Int) + 1) from ⟨by show (-9223372036854775808 : Int) ≤ _; omega, by show _ ≤ (9223372036854775807 : Int); omega⟩) ?_
      refine Chk.mk (show InK .i64 y from ⟨by show (-9223372036854775808 : Int) ≤ _; omega, by show _ ≤ (9223372036854775807 : Int); omega⟩) ?_
      refine Chk.mk (show InK .i64 (20 - (20 - (j : Int))) from ⟨by show (-9223372036854775808 : Int) ≤ _; omega, by show _ ≤ (9223372036854775807 : Int); omega⟩) ?_
      refine Chk.mk (show (20 - (20 - (j : Int))) ≠ 0 by omega) ?_
      obtain ⟨kk, hkk⟩ : ∃ kk, (20 - (j : Int) + 1) + y.tmod (20 - (20 - (j : Int))) = kk := ⟨_, rfl⟩
      have hk1 : 20 - (j : Int) < kk := by omega
      have hk2 : kk ≤ 20 := by omega
      refine Chk.mk (show InK .i64 ((20 - (j : Int) + 1) + y.tmod (20 - (20 - (j : Int)))) from ⟨by show (-9223372036854775808 : Int) ≤ _; omega, by show _ ≤ (9223372036854775807 : Int); omega⟩) ?_
      rw [hkk]
      have hlk : lapB p kk (L q) = false := by
        have := hjn (20 - kk).toNat (by omega)
        rwa [show 20 - (((20 - kk).toNat : Nat) : Int) = kk by omega] at this
      obtain ⟨y1, y2, y3⟩ := lap_not hok ⟨by omega, hk2⟩ hlk
      refine Chk.mk (lims_i _ _) ?_
      refine Chk.mk hlim (Chk.mk hlim ?_)
      have z1 : errS varV { lapK p kk 5 with st := 10 } LL true = 0 := by rw [errS_ok y1, y2]; rfl
      have z2 : errS offV { lapK p kk 5 with st := 10 } LL true = 0 := by rw [errS_ok y1, y2]; rfl
      have z3 : resS varV { lapK p kk 5 with st := 10 } LL true = vSpan (spanG varV { lapK p kk 5 with st := 10 }) := resS_ok y1
      have z4 : resS offV { lapK p kk 5 with st := 10 } LL true = vSpan (spanG offV { lapK p kk 5 with st := 10 }) := resS_ok y1
      refine Br.mk (fun h2 => ?_) (fun _ => ?_)
      · have h2 : ((!decide (errS varV { lapK p kk 5 with st := 10 } ((List.range n).map L) true = 0) || !decide (errS offV { lapK p kk 5 with st := 10 } ((List.range n).map L) true = 0)) || (decide ((resS varV { lapK p kk 5 with st := 10 } ((List.range n).map L) true).2 ≤ (L q).2) && decide ((resS offV { lapK p kk 5 with st := 10 } ((List.range n).map L) true).2 ≤ (L q).1))) = true := h2
        rw [hLL, z1, z2, z3, z4] at h2
        exact absurd (by simpa using h2) y3
      exact ⟨.inl rfl, end_noid rfl rfl rfl (by repeat' (first | exact trivial | exact rfl | (intro i hi; exact ⟨rfl, rfl⟩) | refine And.intro ?_ ?_))⟩
    exact ⟨.inl rfl, end_noid rfl rfl rfl (by repeat' (first | exact trivial | exact rfl | (intro i hi; exact ⟨rfl, rfl⟩) | refine And.intro ?_ ?_))⟩
end Go.X.Gr
end
