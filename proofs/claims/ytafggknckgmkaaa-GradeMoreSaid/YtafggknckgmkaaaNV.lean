/- Laws of points known better, of greater limits, and of corners numbered otherwise. -/
import Derived.Test.YtafggknckgmkaaaNQ

section
set_option linter.unusedVariables false
set_option linter.unusedSimpArgs false
set_option linter.unusedSectionVars false
/- Grade: what is told with points that are known better, greater limits, and corners that are numbered otherwise. -/
set_option linter.unusedVariables false
set_option linter.unusedSimpArgs false
set_option maxRecDepth 10000
set_option maxHeartbeats 4000000
namespace Go.X.Gr
open Go Go.Proofs Go.X

/-! ### fewer blocks -/
def inS (a b : Int × Int) : Bool := decide (a.1 ≥ b.1) && decide (a.2 ≤ b.2)
theorem span_less {F : Int → Int → Int → Int → Int → Int} {x p : Pts} (hs : ∀ b, OkB x b → OkB p b) (hh : hasB x = true) : inS (vSpan (spanG F x)) (vSpan (spanG F p)) = true := by
  obtain ⟨b0, hb0⟩ := hasB_iff.1 hh
  have hp : hasB p = true := hasB_iff.2 ⟨b0, hs _ hb0⟩
  have sx := vSpan_of (F := F) hh
  have sp := vSpan_of (F := F) hp
  obtain ⟨b, hb, e⟩ := sx.lo
  obtain ⟨c, hc, e'⟩ := sx.hi
  have h1 := sp.all b (hs b hb)
  have h2 := sp.all c (hs c hc)
  simp only [inS, Bool.and_eq_true, decide_eq_true_eq]
  omega
theorem set_less {L : List (Int × Int)} {x p : Pts} (hs : ∀ b, OkB x b → OkB p b) : setV L x - (setV L x &&& setV L p) = 0 := by
  rw [sub_bits fun k hk => by
    obtain ⟨b, hb, e⟩ := setV_bit.1 hk
    exact setV_bit.2 ⟨b, hs b hb, e⟩]
  omega
/-! ### greater limits -/
def moreL (e : Int) (l : Int × Int) : Int × Int := (min 20 (l.1 + 1), min 20 (l.2 + e))
theorem limsB_low : ∀ {l : List (Int × Int)} {p q : Int × Int}, p.1 ≤ q.1 → p.2 ≤ q.2 → limsB q l = true → limsB p l = true
  | [], _, _, _, _, _ => rfl
  | x :: r, p, q, h1, h2, h => by
    simp only [limsB, limB, inB, Bool.and_eq_true, decide_eq_true_eq] at h ⊢
    exact ⟨⟨⟨by omega, h.1.1.2⟩, by omega, h.1.2.2⟩, h.2⟩
theorem limsB_more {e : Int} (he : 0 ≤ e) : ∀ {l : List (Int × Int)} {p : Int × Int}, limsB p l = true → limsB (moreL e p) (l.map (moreL e)) = true
  | [], _, _ => rfl
  | x :: r, p, h => by
    simp only [limsB, limB, inB, Bool.and_eq_true, decide_eq_true_eq] at h
    have ih := limsB_more he h.2
    simp only [List.map_cons, limsB, limB, inB, Bool.and_eq_true, decide_eq_true_eq]
    refine ⟨?_, ih⟩
    unfold moreL
    simp only
    omega
theorem gradeOk_more {g : Pts} {L : List (Int × Int)} {e : Int} (he : 0 ≤ e) (h : gradeOk g L = true) : gradeOk g (L.map (moreL e)) = true := by
  simp only [gradeOk, Bool.and_eq_true, List.length_map] at h ⊢
  exact ⟨h.1, limsB_low (p := (0, 0)) (q := moreL e (0, 0)) (by unfold moreL; simp only; omega) (by unfold moreL; simp only; omega) (limsB_more he h.2.1), h.2.2⟩
theorem more_le {g : Pts} {L : List (Int × Int)} (hok : gradeOk g L = true) {e : Int} (he : 0 ≤ e) {q : Nat} (hq : q < L.length) : (L.getD q (0, 0)).1 ≤ ((L.map (moreL e)).getD q (0, 0)).1 ∧ (L.getD q (0, 0)).2 ≤ ((L.map (moreL e)).getD q (0, 0)).2 := by
  have h20 := (gradeOk_up hok).2.2 (L.getD q (0, 0)) (by rw [List.getD_eq_getElem?_getD, List.getElem?_eq_getElem hq]; exact List.getElem_mem hq)
  have e1 : (L.map (moreL e)).getD q (0, 0) = moreL e (L.getD q (0, 0)) := by simp [List.getD, hq]
  rw [e1]
  unfold moreL
  simp only
  omega
theorem sure_greater {g : Pts} {L M : List (Int × Int)} (hL : gradeOk g L = true) (hM : gradeOk g M = true) (hh : hasB g = true) {q : Nat} (hq : q < L.length) (hq2 : q < M.length) (h1 : (L.getD q (0, 0)).1 ≤ (M.getD q (0, 0)).1) (h2 : (L.getD q (0, 0)).2 ≤ (M.getD q (0, 0)).2) :
    sureV (setV (lims3 L) g) (upTo (q : Int)) ≤ sureV (setV (lims3 M) g) (upTo (q : Int)) := by
  obtain ⟨a2, a0, al, ah⟩ := sureV_cases (L := lims3 L) hh q
  obtain ⟨b2, b0, bl, bh⟩ := sureV_cases (L := lims3 M) hh q
  have step : ∀ b, ofL (lims3 L) (lk5 lkP b) ≤ q → ofL (lims3 M) (lk5 lkP b) ≤ q := fun b h => by
    have := (of3_le (gradeOk_up hL).2.1 hq).1 h
    exact (of3_le (gradeOk_up hM).2.1 hq2).2 (by omega)
  by_cases k2 : sureV (setV (lims3 L) g) (upTo (q : Int)) = 2
  · have : sureV (setV (lims3 M) g) (upTo (q : Int)) = 2 := b2.2 fun b hb => step b (a2.1 k2 b hb)
    omega
  · by_cases k0 : sureV (setV (lims3 M) g) (upTo (q : Int)) = 0
    · have : sureV (setV (lims3 L) g) (upTo (q : Int)) = 0 := a0.2 fun b hb => by
        have h3 := b0.1 k0 b hb
        refine Nat.lt_of_not_le fun hle => ?_
        have := step b hle
        omega
      omega
    · omega
theorem lap_greater {g : Pts} {l m : Int × Int} (h1 : l.1 ≤ m.1) (h2 : l.2 ≤ m.2) {j : Nat} (h : lapV g l = some j) : ∃ k, lapV g m = some k ∧ k ≤ j := by
  obtain ⟨j41, hj, _⟩ := lapV_is.1 h
  have hm : lapB g (20 - (j : Int)) m = true := lapB_iff.2 fun b hb => by
    have := lapB_iff.1 hj b hb
    omega
  cases hk : lapV g m with
  | none => rw [lapV_no.1 hk j j41] at hm; cases hm
  | some k =>
    refine ⟨k, rfl, Nat.le_of_not_lt fun hlt => ?_⟩
    rw [(lapV_is.1 hk).2.2 j hlt] at hm
    cases hm
/-! ### corners numbered otherwise -/
def trnI (e p : Int) : Int := if p = 0 then 0 else if e = 0 then (if p = 4 then 1 else p + 1) else 5 - p
/-- The first points in the other numbers. -/
def zK (e : Int) (p : Pts) : Nat → Pts
  | 0 => p
  | 1 => p
  | 2 => if e = 0 then { p with l2 := p.l1, h2 := p.h1 } else { p with l4 := p.l1, h4 := p.h1 }
  | 3 => if e = 0 then { p with l2 := p.l1, h2 := p.h1, l3 := p.l2, h3 := p.h2 } else { p with l4 := p.l1, h4 := p.h1, l3 := p.l2, h3 := p.h2 }
  | 4 => if e = 0 then { p with l2 := p.l1, h2 := p.h1, l3 := p.l2, h3 := p.h2, l4 := p.l3, h4 := p.h3 } else { p with l4 := p.l1, h4 := p.h1, l3 := p.l2, h3 := p.h2, l2 := p.l3, h2 := p.h3 }
  | _ => if e = 0 then { p with l2 := p.l1, h2 := p.h1, l3 := p.l2, h3 := p.h2, l4 := p.l3, h4 := p.h3, l1 := p.l4, h1 := p.h4 } else { p with l4 := p.l1, h4 := p.h1, l3 := p.l2, h3 := p.h2, l2 := p.l3, h2 := p.h3, l1 := p.l4, h1 := p.h4 }
def trnB (e : Int) (b : B5) : B5 := if e = 0 then (b.1, b.2.2.2.2, b.2.1, b.2.2.1, b.2.2.2.1) else (b.1, b.2.2.2.2, b.2.2.2.1, b.2.2.1, b.2.1)
def trnB' (e : Int) (b : B5) : B5 := if e = 0 then (b.1, b.2.2.1, b.2.2.2.1, b.2.2.2.2, b.2.1) else (b.1, b.2.2.2.2, b.2.2.2.1, b.2.2.1, b.2.1)
theorem trnB_inv (e : Int) (b : B5) : trnB e (trnB' e b) = b := by
  obtain ⟨b0, b1, b2, b3, b4⟩ := b
  unfold trnB trnB'
  split <;> rfl
theorem okB_trn {e : Int} {p : Pts} {b : B5} : OkB (zK e p 5) (trnB e b) ↔ OkB p b := by
  obtain ⟨b0, b1, b2, b3, b4⟩ := b
  unfold zK trnB
  by_cases he : e = 0
  · simp only [if_pos he]
    constructor
    · rintro ⟨r0, r1, r2, r3, r4, s01, s02, s03, s04, s12, s23, s34, s14⟩
      simp only at r0 r1 r2 r3 r4 s01 s02 s03 s04 s12 s23 s34 s14
      exact ⟨r0, r2, r3, r4, r1, s02, s03, s04, s01, s23, s34, ⟨s14.2, s14.1⟩, ⟨s12.2, s12.1⟩⟩
    · rintro ⟨r0, r1, r2, r3, r4, s01, s02, s03, s04, s12, s23, s34, s14⟩
      simp only at r0 r1 r2 r3 r4 s01 s02 s03 s04 s12 s23 s34 s14
      exact ⟨r0, r4, r1, r2, r3, s04, s01, s02, s03, ⟨s14.2, s14.1⟩, s12, s23, ⟨s34.2, s34.1⟩⟩
  · simp only [if_neg he]
    constructor
    · rintro ⟨r0, r1, r2, r3, r4, s01, s02, s03, s04, s12, s23, s34, s14⟩
      simp only at r0 r1 r2 r3 r4 s01 s02 s03 s04 s12 s23 s34 s14
      exact ⟨r0, r4, r3, r2, r1, s04, s03, s02, s01, ⟨s34.2, s34.1⟩, ⟨s23.2, s23.1⟩, ⟨s12.2, s12.1⟩, ⟨s14.2, s14.1⟩⟩
    · rintro ⟨r0, r1, r2, r3, r4, s01, s02, s03, s04, s12, s23, s34, s14⟩
      simp only at r0 r1 r2 r3 r4 s01 s02 s03 s04 s12 s23 s34 s14
      exact ⟨r0, r4, r3, r2, r1, s04, s03, s02, s01, ⟨s34.2, s34.1⟩, ⟨s23.2, s23.1⟩, ⟨s12.2, s12.1⟩, ⟨s14.2, s14.1⟩⟩
theorem okB_trn' {e : Int} {p : Pts} {c : B5} (h : OkB (zK e p 5) c) : ∃ b, OkB p b ∧ trnB e b = c :=
  ⟨trnB' e c, okB_trn.1 (by rw [trnB_inv]; exact h), trnB_inv e c⟩
theorem max5_p1 (a b c d e : Int) : max5 a e b c d = max5 a b c d e := by unfold max5; omega
theorem max5_p2 (a b c d e : Int) : max5 a e d c b = max5 a b c d e := by unfold max5; omega
theorem off_trn (e : Int) (b : B5) : fun5 offV (trnB e b) = fun5 offV b := by
  obtain ⟨b0, b1, b2, b3, b4⟩ := b
  unfold trnB fun5 offV trnV
  split
  · simp only [max5_p1]
  · simp only [max5_p2]
theorem var_trn (e : Int) (b : B5) : fun5 varV (trnB e b) = fun5 varV b := by
  obtain ⟨b0, b1, b2, b3, b4⟩ := b
  unfold trnB fun5 varV trnV
  split
  · simp only [max5_p1]
  · simp only [max5_p2]
theorem lk_trn (e : Int) (b : B5) : lk5 lkP (trnB e b) = lk5 lkP b := by
  have h1 := off_trn e b
  have h2 := var_trn e b
  exact Prod.ext h1 h2
theorem lap_trn (e v : Int) (b : B5) : lk5 (lkL v) (trnB e b) = lk5 (lkL v) b := by
  obtain ⟨b0, b1, b2, b3, b4⟩ := b
  have := lk_trn e (min b0 v, min b1 v, min b2 v, min b3 v, min b4 v)
  unfold trnB at this ⊢
  split at this
  · rename_i h; rw [if_pos h]; exact this
  · rename_i h; rw [if_neg h]; exact this
theorem pt_trn {e q : Int} (hq : 0 ≤ q ∧ q < 5) (b : B5) : fun5 (ptV (trnI e q)) (trnB e b) = fun5 (ptV q) b := by
  obtain ⟨b0, b1, b2, b3, b4⟩ := b
  by_cases he : e = 0
  · subst he
    rcases (show q = 0 ∨ q = 1 ∨ q = 2 ∨ q = 3 ∨ q = 4 by omega) with rfl | rfl | rfl | rfl | rfl <;> rfl
  · have e1 : trnB e (b0, b1, b2, b3, b4) = (b0, b4, b3, b2, b1) := by unfold trnB; rw [if_neg he]
    rw [e1]
    unfold trnI
    rcases (show q = 0 ∨ q = 1 ∨ q = 2 ∨ q = 3 ∨ q = 4 by omega) with rfl | rfl | rfl | rfl | rfl
    · rfl
    all_goals
      rw [if_neg (by decide), if_neg he]
      rfl
theorem trnI_b {e q : Int} (hq : 0 ≤ q ∧ q < 5) : 0 ≤ trnI e q ∧ trnI e q < 5 := by
  unfold trnI
  rcases (show q = 0 ∨ q = 1 ∨ q = 2 ∨ q = 3 ∨ q = 4 by omega) with rfl | rfl | rfl | rfl | rfl
  · rw [if_pos rfl]; decide
  all_goals
    rw [if_neg (by decide)]
    split <;> decide
theorem has_trn (e : Int) (p : Pts) : hasB (zK e p 5) = hasB p := by
  rw [Bool.eq_iff_iff, hasB_iff, hasB_iff]
  constructor
  · rintro ⟨c, hc⟩
    obtain ⟨b, hb, _⟩ := okB_trn' hc
    exact ⟨b, hb⟩
  · rintro ⟨b, hb⟩
    exact ⟨_, okB_trn.2 hb⟩
theorem span_trn {F F' : Int → Int → Int → Int → Int → Int} {e : Int} {p : Pts} (hF : ∀ b, fun5 F' (trnB e b) = fun5 F b) : vSpan (spanG F' (zK e p 5)) = vSpan (spanG F p) := by
  cases hh : hasB p with
  | false =>
    have hz : hasB (zK e p 5) = false := by rw [has_trn]; exact hh
    have none_ : ∀ (G : Int → Int → Int → Int → Int → Int) (g : Pts), hasB g = false → spanG G g = none := fun G g h => by
      have := bSpan_iff (F := G) (g := g)
      rw [h] at this
      cases hx : spanG G g with
      | none => rfl
      | some z => rw [hx] at this; cases this
    rw [none_ _ _ hh, none_ _ _ hz]
  | true =>
    have hz : hasB (zK e p 5) = true := by rw [has_trn]; exact hh
    have sz := vSpan_of (F := F') hz
    have sp := vSpan_of (F := F) hh
    obtain ⟨b1, hb1, e1⟩ := sz.lo
    obtain ⟨b2, hb2, e2⟩ := sz.hi
    obtain ⟨c1, hc1, f1⟩ := okB_trn' hb1
    obtain ⟨c2, hc2, f2⟩ := okB_trn' hb2
    obtain ⟨d1, hd1, g1⟩ := sp.lo
    obtain ⟨d2, hd2, g2⟩ := sp.hi
    have h1 := sz.all _ (okB_trn.2 hd1)
    have h2 := sz.all _ (okB_trn.2 hd2)
    have h3 := sp.all _ hc1
    have h4 := sp.all _ hc2
    rw [hF] at h1 h2
    rw [← f1, hF] at e1
    rw [← f2, hF] at e2
    generalize vSpan (spanG F' (zK e p 5)) = A at *
    generalize vSpan (spanG F p) = C at *
    obtain ⟨x1, x2⟩ := A
    obtain ⟨y1, y2⟩ := C
    simp only at *
    have : x1 = y1 := by omega
    have : x2 = y2 := by omega
    simp_all
theorem set_trn (L : List (Int × Int)) (e : Int) (p : Pts) : setV L (zK e p 5) = setV L p := by
  refine Nat.eq_of_testBit_eq fun k => ?_
  rw [Bool.eq_iff_iff, setV_bit, setV_bit]
  constructor
  · rintro ⟨c, hc, h⟩
    obtain ⟨b, hb, rfl⟩ := okB_trn' hc
    exact ⟨b, hb, by rw [← lk_trn e b]; exact h⟩
  · rintro ⟨b, hb, h⟩
    exact ⟨_, okB_trn.2 hb, by rw [lk_trn]; exact h⟩
theorem lapB_trn (e : Int) (p : Pts) (v : Int) (l : Int × Int) : lapB (zK e p 5) v l = lapB p v l := by
  rw [Bool.eq_iff_iff, lapB_iff, lapB_iff]
  constructor
  · intro h b hb
    have := h _ (okB_trn.2 hb)
    rwa [lap_trn] at this
  · intro h c hc
    obtain ⟨b, hb, rfl⟩ := okB_trn' hc
    rw [lap_trn]
    exact h b hb
theorem lapV_trn (e : Int) (p : Pts) (l : Int × Int) : lapV (zK e p 5) l = lapV p l := by
  unfold lapV
  congr 1
  funext j
  exact lapB_trn e p _ l
theorem grade_trn {L : List (Int × Int)} {e : Int} {p : Pts} (h : gradeOk p L = true) : gradeOk (zK e p 5) L = true := by
  simp only [gradeOk, headB, inB, ptI, ptB, Bool.and_eq_true, decide_eq_true_eq] at h
  by_cases he : e = 0
  · subst he
    show gradeOk ⟨p.l0, p.h0, p.l4, p.h4, p.l1, p.h1, p.l2, p.h2, p.l3, p.h3, p.st⟩ L = true
    simp only [gradeOk, headB, inB, ptI, ptB, Bool.and_eq_true, decide_eq_true_eq]
    refine ⟨h.1, h.2.1, ?_⟩
    omega
  · have e1 : zK e p 5 = ⟨p.l0, p.h0, p.l4, p.h4, p.l3, p.h3, p.l2, p.h2, p.l1, p.h1, p.st⟩ := by
      show (if e = 0 then _ else _) = _
      rw [if_neg he]
    rw [e1]
    simp only [gradeOk, headB, inB, ptI, ptB, Bool.and_eq_true, decide_eq_true_eq]
    refine ⟨h.1, h.2.1, ?_⟩
    omega
end Go.X.Gr
end
