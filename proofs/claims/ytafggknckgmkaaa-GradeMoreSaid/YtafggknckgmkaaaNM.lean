/- A point that has been measured leaves the blocks that have it there; each number between two is that of a block. -/
import Derived.Test.YtafggknckgmkaaaNK
import Derived.Test.YtafggknckgmkaaaNI

section
set_option linter.unusedVariables false
set_option linter.unusedSimpArgs false
set_option linter.unusedSectionVars false
/- Grade: a point that has been measured leaves the blocks that have it there; each number between two is that of a block. -/
set_option linter.unusedVariables false
set_option linter.unusedSimpArgs false
set_option maxRecDepth 10000
set_option maxHeartbeats 4000000
namespace Go.X.Gr
open Go Go.Proofs Go.X

def loP (g : Pts) (q : Int) : Int := if q = 0 then g.l0 else if q = 1 then g.l1 else if q = 2 then g.l2 else if q = 3 then g.l3 else g.l4
def hiP (g : Pts) (q : Int) : Int := if q = 0 then g.h0 else if q = 1 then g.h1 else if q = 2 then g.h2 else if q = 3 then g.h3 else g.h4
theorem okB_at {g : Pts} {q n : Int} (hq : 0 ≤ q ∧ q < 5) (hn : loP g q ≤ n ∧ n ≤ hiP g q) {b : B5} : OkB (atP g q n) b ↔ OkB g b ∧ fun5 (ptV q) b = n := by
  obtain ⟨a0, a1, a2, a3, a4⟩ := b
  rcases (show q = 0 ∨ q = 1 ∨ q = 2 ∨ q = 3 ∨ q = 4 by omega) with rfl | rfl | rfl | rfl | rfl
  all_goals
    simp only [fun5, ptV, atP, loP, hiP, if_true, if_false, show ¬ (1 : Int) = 0 by decide, show ¬ (2 : Int) = 0 by decide, show ¬ (2 : Int) = 1 by decide, show ¬ (3 : Int) = 0 by decide, show ¬ (3 : Int) = 1 by decide, show ¬ (3 : Int) = 2 by decide, show ¬ (4 : Int) = 0 by decide, show ¬ (4 : Int) = 1 by decide, show ¬ (4 : Int) = 2 by decide, show ¬ (4 : Int) = 3 by decide] at hn ⊢
    constructor
    · rintro ⟨r0, r1, r2, r3, r4, s01, s02, s03, s04, s12, s23, s34, s14⟩
      simp only at r0 r1 r2 r3 r4 s01 s02 s03 s04 s12 s23 s34 s14
      refine ⟨⟨?_, ?_, ?_, ?_, ?_, s01, s02, s03, s04, s12, s23, s34, s14⟩, by omega⟩ <;> (simp only; omega)
    · rintro ⟨⟨r0, r1, r2, r3, r4, s01, s02, s03, s04, s12, s23, s34, s14⟩, e⟩
      simp only at r0 r1 r2 r3 r4 s01 s02 s03 s04 s12 s23 s34 s14
      refine ⟨?_, ?_, ?_, ?_, ?_, s01, s02, s03, s04, s12, s23, s34, s14⟩ <;> (simp only; omega)
theorem okB_pt {g : Pts} {q : Int} (hq : 0 ≤ q ∧ q < 5) {b : B5} (h : OkB g b) : loP g q ≤ fun5 (ptV q) b ∧ fun5 (ptV q) b ≤ hiP g q := by
  obtain ⟨a0, a1, a2, a3, a4⟩ := b
  obtain ⟨r0, r1, r2, r3, r4, -, -, -, -, -, -, -, -⟩ := h
  simp only at r0 r1 r2 r3 r4
  rcases (show q = 0 ∨ q = 1 ∨ q = 2 ∨ q = 3 ∨ q = 4 by omega) with rfl | rfl | rfl | rfl | rfl
  all_goals
    simp only [fun5, ptV, loP, hiP, if_true, if_false, show ¬ (1 : Int) = 0 by decide, show ¬ (2 : Int) = 0 by decide, show ¬ (2 : Int) = 1 by decide, show ¬ (3 : Int) = 0 by decide, show ¬ (3 : Int) = 1 by decide, show ¬ (3 : Int) = 2 by decide, show ¬ (4 : Int) = 0 by decide, show ¬ (4 : Int) = 1 by decide, show ¬ (4 : Int) = 2 by decide, show ¬ (4 : Int) = 3 by decide]
    omega
/-- Between two blocks there are others. -/
theorem okB_between {g : Pts} {q n : Int} (hq : 0 ≤ q ∧ q < 5) {b c : B5} (hb : OkB g b) (hc : OkB g c) (h1 : fun5 (ptV q) b ≤ n) (h2 : n ≤ fun5 (ptV q) c) : ∃ d, OkB g d ∧ fun5 (ptV q) d = n := by
  obtain ⟨a0, a1, a2, a3, a4⟩ := b
  obtain ⟨c0, c1, c2, c3, c4⟩ := c
  obtain ⟨D, hD⟩ : ∃ D, D = fun5 (ptV q) (c0, c1, c2, c3, c4) - n := ⟨_, rfl⟩
  refine ⟨(max a0 (c0 - D), max a1 (c1 - D), max a2 (c2 - D), max a3 (c3 - D), max a4 (c4 - D)), ?_, ?_⟩
  · have hD0 : 0 ≤ D := by omega
    clear hD h1 h2
    obtain ⟨r0, r1, r2, r3, r4, s01, s02, s03, s04, s12, s23, s34, s14⟩ := hb
    obtain ⟨r0', r1', r2', r3', r4', s01', s02', s03', s04', s12', s23', s34', s14'⟩ := hc
    simp only at r0 r1 r2 r3 r4 s01 s02 s03 s04 s12 s23 s34 s14 r0' r1' r2' r3' r4' s01' s02' s03' s04' s12' s23' s34' s14'
    refine ⟨?_, ?_, ?_, ?_, ?_, ?_, ?_, ?_, ?_, ?_, ?_, ?_, ?_⟩ <;> (simp only; omega)
  · rcases (show q = 0 ∨ q = 1 ∨ q = 2 ∨ q = 3 ∨ q = 4 by omega) with rfl | rfl | rfl | rfl | rfl
    all_goals
      simp only [fun5, ptV, if_true, if_false, show ¬ (1 : Int) = 0 by decide, show ¬ (2 : Int) = 0 by decide, show ¬ (2 : Int) = 1 by decide, show ¬ (3 : Int) = 0 by decide, show ¬ (3 : Int) = 1 by decide, show ¬ (3 : Int) = 2 by decide, show ¬ (4 : Int) = 0 by decide, show ¬ (4 : Int) = 1 by decide, show ¬ (4 : Int) = 2 by decide, show ¬ (4 : Int) = 3 by decide] at hD h1 h2 ⊢
      omega
theorem gradeOk_at {g : Pts} {L : List (Int × Int)} (h : gradeOk g L = true) {q n : Int} (hq : 0 ≤ q ∧ q < 5) (hn : loP g q ≤ n ∧ n ≤ hiP g q) : gradeOk (atP g q n) L = true := by
  simp only [gradeOk, headB, inB, ptI, ptB, Bool.and_eq_true, decide_eq_true_eq] at h ⊢
  rcases (show q = 0 ∨ q = 1 ∨ q = 2 ∨ q = 3 ∨ q = 4 by omega) with rfl | rfl | rfl | rfl | rfl
  all_goals
    simp only [atP, loP, hiP, if_true, if_false, show ¬ (1 : Int) = 0 by decide, show ¬ (2 : Int) = 0 by decide, show ¬ (2 : Int) = 1 by decide, show ¬ (3 : Int) = 0 by decide, show ¬ (3 : Int) = 1 by decide, show ¬ (3 : Int) = 2 by decide, show ¬ (4 : Int) = 0 by decide, show ¬ (4 : Int) = 1 by decide, show ¬ (4 : Int) = 2 by decide, show ¬ (4 : Int) = 3 by decide] at hn ⊢
    refine ⟨h.1, h.2.1, ?_⟩
    omega
theorem gradeOk_span {g : Pts} {L : List (Int × Int)} (h : gradeOk g L = true) {q : Int} (hq : 0 ≤ q ∧ q < 5) : -20 ≤ loP g q ∧ loP g q ≤ hiP g q ∧ hiP g q ≤ 20 ∧ hiP g q - loP g q ≤ 6 := by
  simp only [gradeOk, headB, inB, ptI, ptB, Bool.and_eq_true, decide_eq_true_eq] at h
  rcases (show q = 0 ∨ q = 1 ∨ q = 2 ∨ q = 3 ∨ q = 4 by omega) with rfl | rfl | rfl | rfl | rfl
  all_goals
    simp only [loP, hiP, if_true, if_false, show ¬ (1 : Int) = 0 by decide, show ¬ (2 : Int) = 0 by decide, show ¬ (2 : Int) = 1 by decide, show ¬ (3 : Int) = 0 by decide, show ¬ (3 : Int) = 1 by decide, show ¬ (3 : Int) = 2 by decide, show ¬ (4 : Int) = 0 by decide, show ¬ (4 : Int) = 1 by decide, show ¬ (4 : Int) = 2 by decide, show ¬ (4 : Int) = 3 by decide]
    omega
/-- Whether there is a block that is measured so. -/
theorem hasB_at {g : Pts} {q n : Int} (hq : 0 ≤ q ∧ q < 5) (hn : loP g q ≤ n ∧ n ≤ hiP g q) : hasB (atP g q n) = (hasB g && inB n (vSpan (spanG (ptV q) g)).1 (vSpan (spanG (ptV q) g)).2) := by
  rw [Bool.eq_iff_iff, Bool.and_eq_true, hasB_iff]
  constructor
  · rintro ⟨b, hb⟩
    obtain ⟨h1, h2⟩ := (okB_at hq hn).1 hb
    have hh : hasB g = true := hasB_iff.2 ⟨b, h1⟩
    have := (vSpan_of (F := ptV q) hh).all b h1
    refine ⟨hh, ?_⟩
    simp only [inB, Bool.and_eq_true, decide_eq_true_eq]
    omega
  · rintro ⟨hh, hi⟩
    simp only [inB, Bool.and_eq_true, decide_eq_true_eq] at hi
    have so := vSpan_of (F := ptV q) hh
    obtain ⟨b, hb, e⟩ := so.lo
    obtain ⟨c, hc, e'⟩ := so.hi
    obtain ⟨d, hd, ed⟩ := okB_between hq hb hc (n := n) (by omega) (by omega)
    exact ⟨d, (okB_at hq hn).2 ⟨hd, ed⟩⟩
/-- The hull of what has been looked at so far. -/
def Hull (F : Int → Int → Int → Int → Int → Int) (g : Pts) (q n : Int) (c : Int × Int) : Prop :=
  (c = (99, -99) ∧ ∀ b, OkB g b → n ≤ fun5 (ptV q) b) ∨ SpanOf (fun5 F) (fun b => OkB g b ∧ fun5 (ptV q) b < n) c
theorem SpanOf.uniq {F : B5 → Int} {B : B5 → Prop} {s t : Int × Int} (h : SpanOf F B s) (k : SpanOf F B t) : s = t := by
  obtain ⟨b, hb, e⟩ := h.lo
  obtain ⟨c, hc, e'⟩ := h.hi
  obtain ⟨b', hb', f⟩ := k.lo
  obtain ⟨c', hc', f'⟩ := k.hi
  have := h.all b' hb'; have := h.all c' hc'
  have := k.all b hb; have := k.all c hc
  obtain ⟨s1, s2⟩ := s
  obtain ⟨t1, t2⟩ := t
  simp only at *
  have : s1 = t1 := by omega
  have : s2 = t2 := by omega
  simp_all
theorem SpanOf.congr {F : B5 → Int} {B B' : B5 → Prop} {s : Int × Int} (h : SpanOf F B s) (e : ∀ b, B b ↔ B' b) : SpanOf F B' s :=
  ⟨fun b hb => h.all b ((e b).2 hb), h.lo.imp fun b hb => ⟨(e b).1 hb.1, hb.2⟩, h.hi.imp fun b hb => ⟨(e b).1 hb.1, hb.2⟩⟩
theorem SpanOf.join {F : B5 → Int} {B B' : B5 → Prop} {s t : Int × Int} (h : SpanOf F B s) (k : SpanOf F B' t) : SpanOf F (fun b => B b ∨ B' b) (min s.1 t.1, max s.2 t.2) := by
  obtain ⟨b, hb, e⟩ := h.lo
  obtain ⟨c, hc, e'⟩ := h.hi
  obtain ⟨b', hb', f⟩ := k.lo
  obtain ⟨c', hc', f'⟩ := k.hi
  refine ⟨fun x hx => ?_, ?_, ?_⟩
  · rcases hx with hx | hx
    · have := h.all x hx; simp only; omega
    · have := k.all x hx; simp only; omega
  · rcases Int.le_total s.1 t.1 with hle | hle
    · exact ⟨b, .inl hb, by simp only; omega⟩
    · exact ⟨b', .inr hb', by simp only; omega⟩
  · rcases Int.le_total s.2 t.2 with hle | hle
    · exact ⟨c', .inr hc', by simp only; omega⟩
    · exact ⟨c, .inl hc, by simp only; omega⟩
/-- What is known of off and varies. -/
def Fb (F : Int → Int → Int → Int → Int → Int) : Prop := ∀ a0 a1 a2 a3 a4, okI a0 → okI a1 → okI a2 → okI a3 → okI a4 → -40 ≤ F a0 a1 a2 a3 a4 ∧ F a0 a1 a2 a3 a4 ≤ 40
theorem fb_var : Fb varV := fun a0 a1 a2 a3 a4 h0 h1 h2 h3 h4 => by
  unfold varV max5 trnV max5
  unfold okI at *
  omega
theorem fb_off : Fb offV := fun a0 a1 a2 a3 a4 h0 h1 h2 h3 h4 => by
  unfold offV max5 trnV max5
  unfold okI at *
  omega
theorem hull_step {F : Int → Int → Int → Int → Int → Int} (hF : Fb F) {g : Pts} (hg : ptsB g) {q n : Int} (hq : 0 ≤ q ∧ q < 5) (hn : loP g q ≤ n ∧ n ≤ hiP g q) {c : Int × Int} (h : Hull F g q n c) (hh : hasB (atP g q n) = true) :
    Hull F g q (n + 1) (min c.1 (vSpan (spanG F (atP g q n))).1, max c.2 (vSpan (spanG F (atP g q n))).2) := by
  have so := vSpan_of (F := F) hh
  have so' : SpanOf (fun5 F) (fun b => OkB g b ∧ fun5 (ptV q) b = n) (vSpan (spanG F (atP g q n))) := so.congr fun b => okB_at hq hn
  refine .inr ?_
  rcases h with ⟨rfl, h⟩ | h
  · have e : (min (99, (-99 : Int)).1 (vSpan (spanG F (atP g q n))).1, max (99, (-99 : Int)).2 (vSpan (spanG F (atP g q n))).2) = vSpan (spanG F (atP g q n)) := by
      obtain ⟨b, hb, e1⟩ := so'.lo
      obtain ⟨c, hc, e2⟩ := so'.hi
      obtain ⟨o0, o1, o2, o3, o4⟩ := hb.1.ok hg
      obtain ⟨p0, p1, p2, p3, p4⟩ := hc.1.ok hg
      have f1 : -40 ≤ fun5 F b ∧ fun5 F b ≤ 40 := hF _ _ _ _ _ o0 o1 o2 o3 o4
      have f2 : -40 ≤ fun5 F c ∧ fun5 F c ≤ 40 := hF _ _ _ _ _ p0 p1 p2 p3 p4
      have g1 : min (99 : Int) (vSpan (spanG F (atP g q n))).1 = (vSpan (spanG F (atP g q n))).1 := by omega
      have g2 : max (-99 : Int) (vSpan (spanG F (atP g q n))).2 = (vSpan (spanG F (atP g q n))).2 := by omega
      rw [g1, g2]
    rw [e]
    refine so'.congr fun b => ⟨fun hb => ⟨hb.1, by omega⟩, fun hb => ⟨hb.1, ?_⟩⟩
    have := h b hb.1
    omega
  · refine (h.join so').congr fun b => ?_
    constructor
    · rintro (hb | hb)
      · exact ⟨hb.1, by omega⟩
      · exact ⟨hb.1, by omega⟩
    · rintro ⟨h1, h2⟩
      by_cases h3 : fun5 (ptV q) b = n
      · exact .inr ⟨h1, h3⟩
      · exact .inl ⟨h1, by omega⟩
theorem hull_skip {F : Int → Int → Int → Int → Int → Int} {g : Pts} {q n : Int} (hq : 0 ≤ q ∧ q < 5) (hn : loP g q ≤ n ∧ n ≤ hiP g q) {c : Int × Int} (h : Hull F g q n c) (hh : hasB (atP g q n) = false) : Hull F g q (n + 1) c := by
  have hno : ∀ b, OkB g b → fun5 (ptV q) b ≠ n := fun b hb e => by
    rw [hasB_iff.2 ⟨b, (okB_at hq hn).2 ⟨hb, e⟩⟩] at hh
    cases hh
  rcases h with ⟨rfl, h⟩ | h
  · refine .inl ⟨rfl, fun b hb => ?_⟩
    have := h b hb; have := hno b hb
    omega
  · refine .inr (h.congr fun b => ⟨fun hb => ⟨hb.1, by omega⟩, fun hb => ⟨hb.1, ?_⟩⟩)
    have := hno b hb.1
    omega
theorem hull_zero {F : Int → Int → Int → Int → Int → Int} {g : Pts} {q : Int} (hq : 0 ≤ q ∧ q < 5) : Hull F g q (loP g q) (99, -99) := .inl ⟨rfl, fun b hb => (okB_pt hq hb).1⟩
theorem hull_end {F : Int → Int → Int → Int → Int → Int} {g : Pts} {q n : Int} (hq : 0 ≤ q ∧ q < 5) (hn : hiP g q < n) {c : Int × Int} (h : Hull F g q n c) (hh : hasB g = true) : c = vSpan (spanG F g) := by
  obtain ⟨b, hb⟩ := hasB_iff.1 hh
  rcases h with ⟨rfl, h⟩ | h
  · have := h b hb; have := okB_pt hq hb
    omega
  · refine h.uniq ((vSpan_of (F := F) hh).congr fun b => ⟨fun hb => ⟨hb, ?_⟩, fun hb => hb.1⟩)
    have := okB_pt hq hb
    omega
/-- The grades of what has been looked at so far. -/
def GrS (L : List (Int × Int)) (g : Pts) (q n : Int) (A : Nat) : Prop := ∀ k, A.testBit k = true ↔ ∃ b, (OkB g b ∧ fun5 (ptV q) b < n) ∧ ofL L (lk5 lkP b) = k
theorem grS_zero {L : List (Int × Int)} {g : Pts} {q : Int} (hq : 0 ≤ q ∧ q < 5) : GrS L g q (loP g q) 0 := fun k => by
  rw [Nat.zero_testBit]
  constructor
  · intro h; cases h
  · rintro ⟨b, hb, _⟩
    have := okB_pt hq hb.1
    omega
theorem grS_step {L : List (Int × Int)} {g : Pts} {q n : Int} (hq : 0 ≤ q ∧ q < 5) (hn : loP g q ≤ n ∧ n ≤ hiP g q) {A : Nat} (h : GrS L g q n A) : GrS L g q (n + 1) (A ||| setV L (atP g q n)) := fun k => by
  rw [Nat.testBit_or, Bool.or_eq_true, h k, setV_bit]
  constructor
  · rintro (⟨b, hb, e⟩ | ⟨b, hb, e⟩)
    · exact ⟨b, ⟨hb.1, by omega⟩, e⟩
    · obtain ⟨h1, h2⟩ := (okB_at hq hn).1 hb
      exact ⟨b, ⟨h1, by omega⟩, e⟩
  · rintro ⟨b, ⟨h1, h2⟩, e⟩
    by_cases h3 : fun5 (ptV q) b = n
    · exact .inr ⟨b, (okB_at hq hn).2 ⟨h1, h3⟩, e⟩
    · exact .inl ⟨b, ⟨h1, by omega⟩, e⟩
theorem grS_skip {L : List (Int × Int)} {g : Pts} {q n : Int} (hq : 0 ≤ q ∧ q < 5) (hn : loP g q ≤ n ∧ n ≤ hiP g q) {A : Nat} (h : GrS L g q n A) (hh : hasB (atP g q n) = false) : GrS L g q (n + 1) A := fun k => by
  rw [h k]
  constructor
  · rintro ⟨b, hb, e⟩
    exact ⟨b, ⟨hb.1, by omega⟩, e⟩
  · rintro ⟨b, ⟨h1, h2⟩, e⟩
    refine ⟨b, ⟨h1, ?_⟩, e⟩
    have : fun5 (ptV q) b ≠ n := fun h3 => by
      rw [hasB_iff.2 ⟨b, (okB_at hq hn).2 ⟨h1, h3⟩⟩] at hh
      cases hh
    omega
theorem grS_end {L : List (Int × Int)} {g : Pts} {q n : Int} (hq : 0 ≤ q ∧ q < 5) (hn : hiP g q < n) {A : Nat} (h : GrS L g q n A) : A = setV L g := by
  refine Nat.eq_of_testBit_eq fun k => ?_
  rw [Bool.eq_iff_iff, h k, setV_bit]
  constructor
  · rintro ⟨b, hb, e⟩; exact ⟨b, hb.1, e⟩
  · rintro ⟨b, hb, e⟩
    have := okB_pt hq hb
    exact ⟨b, ⟨hb, by omega⟩, e⟩
/-! ### errors -/
theorem errS_all {F : Int → Int → Int → Int → Int → Int} {g : Pts} {L : List (Int × Int)} {is : Bool} : errS F g L is = errT g L is := by unfold errS errT; rw [bSpan_iff]
theorem errG_bad {g : Pts} {L : List (Int × Int)} (h : gradeOk g L = false) {is : Bool} : errG g L is = 1 := by unfold errG; rw [h]; rfl
theorem errT_bad {g : Pts} {L : List (Int × Int)} (h : gradeOk g L = false) {is : Bool} : errT g L is = 1 := by unfold errT; rw [errG_bad h]; rfl
theorem resS_bad {F : Int → Int → Int → Int → Int → Int} {g : Pts} {L : List (Int × Int)} (h : gradeOk g L = false) {is : Bool} : resS F g L is = (0, 0) := by unfold resS; rw [errG_bad h]; rfl
theorem resG_bad {g : Pts} {L : List (Int × Int)} (h : gradeOk g L = false) {is : Bool} : resG g L is = 0 := by unfold resG; rw [errT_bad h]; rfl
theorem errG_no {g : Pts} {L : List (Int × Int)} (h : gradeOk g L = true) : errG g L false = 2 := by unfold errG; rw [if_pos h]; rfl
theorem errT_no {g : Pts} {L : List (Int × Int)} (h : gradeOk g L = true) : errT g L false = 2 := by unfold errT; rw [errG_no h]; rfl
theorem inB_true {n lo hi : Int} (h : lo ≤ n ∧ n ≤ hi) : inB n lo hi = true := by simp only [inB, Bool.and_eq_true, decide_eq_true_eq]; exact h
theorem inB_false {n lo hi : Int} (h : ¬ (lo ≤ n ∧ n ≤ hi)) : inB n lo hi = false := by
  cases h2 : inB n lo hi with
  | false => rfl
  | true =>
    simp only [inB, Bool.and_eq_true, decide_eq_true_eq] at h2
    exact absurd h2 h
theorem errT_is {g : Pts} {L : List (Int × Int)} {is : Bool} (h : gradeOk g L = true) (hi : is = true) : errT g L is = errT g L true := by rw [hi]
end Go.X.Gr
end
